/- Flows: Mark, Get, together, right, Decides; places and touches that lie somewhere. -/
import Derived.Test.YtkfncibmfcdokaaXFlow2
set_option linter.unusedVariables false
set_option linter.unusedSimpArgs false
namespace Go.Proofs.Ytkfncibmfcdokaa
open Go Go.RowKit Go.X

def fillP (g : Int × Int → Int) (p : Int × Int) (set : Int) : Nat → Int × Int → Int
  | 0 => g
  | n + 1 => putP (fillP g p set n) (p.1, p.2 + n) set
def markE (F : Fl) (p : Int × Int) (n set : Int) : Int :=
  if ¬ mayP F.fr F.se p ∨ 65536 ≤ set then 2 else if n < 0 ∨ 65536 < n ∨ (0 < n ∧ ¬ mayP F.fr F.se (p.1, p.2 + n - 1)) then 4 else keepE F.most F.sets set
def markF (F : Fl) (p : Int × Int) (n set : Int) : Fl := if markE F p n set = 0 then { F with sets := keepS F.most F.sets set, g := fillP F.g p set n.toNat } else F

theorem keepS_bad {most : Int} {sets : List Int} {set : Int} (h : keepE most sets set ≠ 0) : keepS most sets set = sets := by
  unfold keepE at h; unfold keepS
  split at h
  · rename_i h1; rw [if_pos (.inl h1)]
  split at h
  · simp at h
  split at h
  · rename_i h1; rw [if_pos (.inr (.inr h1))]
  · simp at h

theorem grow_trans {fp fp' fp'' : List Nat} {w w' w'' : World} (c : Chg fp w w') (f : ∀ i ∈ fp', i ∈ fp ∨ w.heap.size ≤ i) (c' : Chg fp' w' w'') (f' : ∀ i ∈ fp'', i ∈ fp' ∨ w'.heap.size ≤ i) :
    Chg fp w w'' ∧ ∀ i ∈ fp'', i ∈ fp ∨ w.heap.size ≤ i :=
  ⟨c.trans c' (fun i hi hlt => (f i hi).resolve_right (by omega)), fun i hi => by
    rcases f' i hi with h | h
    · exact f i h
    · exact .inr (Nat.le_trans c.size h)⟩

theorem flow_mark {w : World} {b : Nat} {F : Fl} {fp : List Nat} (h : FlowAt w b F fp) {p1 p2 n set : Int} (hp : i64s p2) (hs0 : 0 ≤ set) :
    Calls Try.prog 36 #[.pointer (some ⟨b, 0, none⟩), .agg #[.int .i64 p1, .int .i64 p2], .int .i64 n, .int .u32 set] w fun e w' => ∃ r : Int, e = .returned (.int .i64 r) ∧
      (r = markE F (p1, p2) n set ∧ ∃ fp', FlowAt w' b (markF F (p1, p2) n set) fp' ∧ Chg fp w w' ∧ ∀ i ∈ fp', i ∈ fp ∨ w.heap.size ≤ i) := by
  have hwide := h.wide
  refine ok_flow_Flow_Mark _ _ _ _ _ _ _ ?_
  unfold V_flow_Flow_Mark
  refine v_alloc fun b1 w1 e1 hb1 c1 => ?_
  refine (flow_none (h.chg c1 (by simp))).mono ?_
  rintro _ w2 ⟨_, rfl, rfl, hw⟩
  subst w2
  refine ⟨_, rfl, fun h => by simp at h, fun _ => ⟨p1, p2, cellsAt_of hb1, ?_⟩⟩
  refine (flow_may (h.chg c1 (by simp)) p1 p2).mono ?_
  rintro _ w3 ⟨_, rfl, rfl, c3⟩
  have c03 := c1.trans0 c3
  have hb3 := c3.obj (by simp) hb1
  refine ⟨_, rfl, fun hbad => ?_, fun hgood => ?_⟩
  · have hb : ¬ mayP F.fr F.se (p1, p2) ∨ 65536 ≤ set := by simpa using hbad
    have hE : markE F (p1, p2) n set = 2 := by unfold markE; rw [if_pos hb]
    exact ⟨hE.symm, fp, by unfold markF; rw [if_neg (by omega)]; exact h.chg c03 (by simp), c03.nil, fun i hi => .inl hi⟩
  have hg : mayP F.fr F.se (p1, p2) ∧ set < 65536 := by simpa using hgood
  have hm := hg.1
  unfold mayP boundP at hm
  simp only [] at hm
  have hp2 : 0 ≤ p2 ∧ p2 < 2147483648 := by
    refine ⟨hm.2.2.1, ?_⟩
    have := hm.2.2.2
    split at this
    · omega
    split at this
    · omega
    split at this
    · omega
    split at this
    · omega
    split at this
    · omega
    split at this <;> omega
  have hnot : ¬ (¬ mayP F.fr F.se (p1, p2) ∨ 65536 ≤ set) := by
    rintro (h | h)
    · exact h hg.1
    · omega
  refine ⟨fun b2 w4 => Chg [] w w4 ∧ w4.heap[b1]? = some (.cells #[.int .i64 p1, .int .i64 p2] 56 (0, 0)) ∧ b2 = decide (n < 0 ∨ 65536 < n ∨ (0 < n ∧ ¬ mayP F.fr F.se (p1, p2 + n - 1))), ?_, fun hn => ?_, fun hn => ?_⟩
  rotate_left
  · have hn' : 0 ≤ n ∧ n ≤ 65536 := by simpa using hn
    refine ⟨_, fun b3 w5 h => h, fun hpos => ?_, fun hpos => ?_⟩
    · have hpos' : 0 < n := by simpa using hpos
      refine ⟨p1, by rw [cell_of hb3]; rfl, p2, by rw [cell_of hb3]; rfl, ?_⟩
      rw [wr (n := p2 + n) (by omega) (by omega), wr (by omega) (by omega)]
      refine (flow_may (h.chg c03 (by simp)) p1 (p2 + n - 1)).mono ?_
      rintro _ w6 ⟨_, rfl, rfl, c6⟩
      refine ⟨_, rfl, c03.trans0 c6, c6.obj (by simp) hb3, ?_⟩
      rw [← decide_not]
      exact decide_eq_decide.2 ⟨fun h => .inr (.inr ⟨hpos', h⟩), fun h => by
        rcases h with h | h | h
        · omega
        · omega
        · exact h.2⟩
    · have hpos' : ¬ 0 < n := by simpa using hpos
      refine ⟨c03, hb3, ?_⟩
      symm; rw [decide_eq_false_iff_not]; omega
  · have hn' : n < 0 ∨ 65536 < n := by simpa using hn
    refine ⟨c03, hb3, ?_⟩
    symm; rw [decide_eq_true_eq]; omega
  rintro b2 w4 ⟨c04, hb4, rfl⟩
  refine ⟨fun hbad => ?_, fun hok => ?_⟩
  · rw [decide_eq_true_eq] at hbad
    have hE : markE F (p1, p2) n set = 4 := by unfold markE; rw [if_neg hnot, if_pos hbad]
    exact ⟨hE.symm, fp, by unfold markF; rw [if_neg (by omega)]; exact h.chg c04 (by simp), c04.nil, fun i hi => .inl hi⟩
  rw [decide_eq_false_iff_not] at hok
  have hE : markE F (p1, p2) n set = keepE F.most F.sets set := by unfold markE; rw [if_neg hnot, if_neg hok]
  refine (flow_keep (h.chg c04 (by simp)) hs0).mono ?_
  rintro _ w7 ⟨r5, rfl, rfl, fp', hF, c7, hf⟩
  obtain ⟨c07, hf07⟩ := grow_trans (fp := fp) (fp' := fp) c04.nil (fun i hi => .inl hi) c7 hf
  have hlt := h.lt
  have hb7 : w7.heap[b1]? = some (.cells #[.int .i64 p1, .int .i64 p2] 56 (0, 0)) := c7.obj (fun hm => by have := hlt _ hm; omega) hb4
  refine ⟨_, rfl, fun hbad => ?_, fun hz => ?_⟩
  · have hbad' : keepE F.most F.sets set ≠ 0 := by simpa using hbad
    refine ⟨hE.symm, fp', ?_, c07, hf07⟩
    unfold markF; rw [if_neg (by rw [hE]; exact hbad')]
    rw [keepS_bad hbad'] at hF; exact hF
  have hz' : keepE F.most F.sets set = 0 := by simpa using hz
  have hn0 : 0 ≤ n ∧ n ≤ 65536 := by omega
  refine ⟨fun s w' => ∃ i : Nat, s = (i : Int) ∧ (i : Int) ≤ n ∧ w'.heap[b1]? = some (.cells #[.int .i64 p1, .int .i64 p2] 56 (0, 0)) ∧ ∃ fp', FlowAt w' b { F with sets := keepS F.most F.sets set, g := fillP F.g (p1, p2) set i } fp' ∧ Chg fp w w' ∧ ∀ i ∈ fp', i ∈ fp ∨ w.heap.size ≤ i ∧ i ≠ b1,
    fun s _ => (n - s).toNat, ⟨0, rfl, by omega, hb7, fp', hF, c07, fun i hi => ?_⟩, ?_⟩
  · rcases hf i hi with h | h
    · exact .inl h
    · exact .inr ⟨Nat.le_trans c04.size h, fun e => by have := lt_of_heap hb4; omega⟩
  rintro _ w8 ⟨i, rfl, hi, hb8, fp8, hF8, c8, hf8⟩
  refine ⟨fun hlt8 => ?_, fun hge => ?_⟩
  · have hlt' : (i : Int) < n := by simpa using hlt8
    refine ⟨p1, by rw [cell_of hb8]; rfl, p2, by rw [cell_of hb8]; rfl, ?_⟩
    rw [wr (n := p2 + i) (by omega) (by omega)]
    have hmi : mayP F.fr F.se (p1, p2 + i) := by
      have h1 : mayP F.fr F.se (p1, p2 + n - 1) := Classical.byContradiction fun h => hok (.inr (.inr ⟨by omega, h⟩))
      unfold mayP at h1 hg ⊢
      simp only [] at h1 hg ⊢
      omega
    refine (flow_put hF8 hmi hs0 hg.2).mono ?_
    rintro _ w9 ⟨rfl, fp9, hF9, c9, hf9⟩
    rw [wr (by omega) (by omega)]
    refine ⟨rfl, ⟨i + 1, by omega, by omega, c9.obj (fun hm => ?_) hb8, fp9, hF9, ?_, ?_⟩, by simp only []; omega⟩
    · rcases hf8 _ hm with h | h
      · have := hlt _ h; omega
      · exact h.2 rfl
    · exact c8.trans c9 (fun j hj hl => (hf8 j hj).resolve_right (fun h => by omega))
    · intro j hj
      rcases hf9 j hj with h | h
      · exact hf8 j h
      · exact .inr ⟨Nat.le_trans c8.size h, fun e => by have := lt_of_heap hb8; omega⟩
  · have hge' : ¬ (i : Int) < n := by simpa using hge
    have : n.toNat = i := by omega
    refine ⟨by rw [hE, hz'], fp8, ?_, c8, fun j hj => (hf8 j hj).imp id And.left⟩
    unfold markF; rw [if_pos (by rw [hE]; exact hz'), this]; exact hF8

theorem flow_Get {w : World} {b : Nat} {F : Fl} {fp : List Nat} (h : FlowAt w b F fp) {p1 p2 : Int} (hp : i64s p2) :
    Calls Try.prog 28 #[.pointer (some ⟨b, 0, none⟩), .agg #[.int .i64 p1, .int .i64 p2]] w fun e w' => ∃ (r1 : Int) (r2 : Int), e = .returned (.tuple #[.int .u32 r1, .int .i64 r2]) ∧
      (Chg [] w w' ∧ if mayP F.fr F.se (p1, p2) then r1 = F.g (p1, p2) ∧ r2 = 0 else r1 = 0 ∧ r2 = 2) := by
  refine ok_flow_Flow_Get _ _ _ _ _ ?_
  unfold V_flow_Flow_Get
  refine v_alloc fun b1 w1 e1 hb1 c1 => ?_
  refine ⟨fun s w2 => Chg [] w w2 ∧ s.2 = 2 ∧ ¬ mayP F.fr F.se (p1, p2), ?_, ?_⟩
  · rintro ⟨s1, s2⟩ w2 ⟨c2, rfl, hn⟩
    exact ⟨c2, by rw [if_neg hn]; exact ⟨rfl, rfl⟩⟩
  refine (flow_none (h.chg c1 (by simp))).mono ?_
  rintro _ w3 ⟨_, rfl, rfl, hw⟩
  subst w3
  refine ⟨_, rfl, fun h => by simp at h, fun _ => ⟨p1, p2, cellsAt_of hb1, ?_⟩⟩
  refine (flow_may (h.chg c1 (by simp)) p1 p2).mono ?_
  rintro _ w4 ⟨_, rfl, rfl, c4⟩
  have c04 := c1.trans0 c4
  refine ⟨_, rfl, fun hb => ⟨c04, rfl, by simpa using hb⟩, fun hb => ⟨p1, p2, cellsAt_of (c4.obj (by simp) hb1), ?_⟩⟩
  have hm : mayP F.fr F.se (p1, p2) := by simpa using hb
  refine (flow_get (h.chg c04 (by simp)) hp).mono ?_
  rintro _ w5 ⟨_, rfl, rfl, c5⟩
  exact ⟨_, rfl, c04.trans0 c5, by rw [if_pos hm]; exact ⟨rfl, rfl⟩⟩

/-! ### Places and touches -/
def pairC (x : Int × Int) : List Value := [.int .i64 x.1, .int .i64 x.2]
structure PlacesAt (w : World) (S : Nat → Prop) (p : Option Addr) (n : Nat) (ps : List (Int × Int)) : Prop where
  length : ps.length = n
  each : ∀ j x, ps[j]? = some x → i64s x.1 ∧ i64s x.2 ∧ ∃ a, p = some a ∧ S a.block ∧ CellsAt w (a.add (j * 2)) 0 [.int .i64 x.1, .int .i64 x.2]
theorem PlacesAt.chg {w w' : World} {S : Nat → Prop} {p : Option Addr} {n : Nat} {ps : List (Int × Int)} {f : List Nat} (h : PlacesAt w S p n ps) (hc : Chg f w w') (hf : ∀ i ∈ f, ¬ S i) : PlacesAt w' S p n ps :=
  ⟨h.length, fun j x hx => let ⟨h1, h2, a, h3, h4, h5⟩ := h.each j x hx; ⟨h1, h2, a, h3, h4, hc.cells (by rw [add_block]; exact fun hm => hf _ hm h4) h5⟩⟩
abbrev Tch := (Int × Int) × List (Int × Int)
structure TouchesAt (w : World) (S : Nat → Prop) (p : Option Addr) (n : Nat) (ts : List Tch) : Prop where
  length : ts.length = n
  each : ∀ j t, ts[j]? = some t → i64s t.1.1 ∧ i64s t.1.2 ∧ ∃ a q qn qc, p = some a ∧ S a.block ∧ CellsAt w (a.add (j * 3)) 0 [.int .i64 t.1.1, .int .i64 t.1.2, .slice q qn qc] ∧ PlacesAt w S q qn t.2
theorem TouchesAt.chg {w w' : World} {S : Nat → Prop} {p : Option Addr} {n : Nat} {ts : List Tch} {f : List Nat} (h : TouchesAt w S p n ts) (hc : Chg f w w') (hf : ∀ i ∈ f, ¬ S i) : TouchesAt w' S p n ts :=
  ⟨h.length, fun j x hx => let ⟨h1, h2, a, q, qn, qc, h3, h4, h5, h6⟩ := h.each j x hx; ⟨h1, h2, a, q, qn, qc, h3, h4, hc.cells (by rw [add_block]; exact fun hm => hf _ hm h4) h5, h6.chg hc hf⟩⟩

theorem get_of {α : Type} {l : List α} {j : Nat} (h : j < l.length) : ∃ x, l[j]? = some x := ⟨l[j], List.getElem?_eq_getElem h⟩
theorem take_snoc {α : Type} {l : List α} {j : Nat} {x : α} (h : l[j]? = some x) : l.take (j + 1) = l.take j ++ [x] := by
  rw [List.take_add_one, h]; rfl

def joinP (g : Int × Int → Int) (ps : List (Int × Int)) : Int := ps.foldl (fun s p => bits .or .u32 s (g p)) 0
theorem joinP_snoc (g : Int × Int → Int) (ps : List (Int × Int)) (p : Int × Int) : joinP g (ps ++ [p]) = bits .or .u32 (joinP g ps) (g p) := by simp [joinP]

theorem flow_together {w : World} {b : Nat} {F : Fl} {fp : List Nat} (h : FlowAt w b F fp) {S : Nat → Prop} {p : Option Addr} {n c : Nat} {ps : List (Int × Int)} (hp : PlacesAt w S p n ps) (hn : n ≤ 9223372036854775807) :
    Calls Try.prog 82 #[.pointer (some ⟨b, 0, none⟩), .slice p n c] w fun e w' => ∃ r : Int, e = .returned (.int .u32 r) ∧ (r = joinP F.g ps ∧ Chg [] w w') := by
  refine ok_flow_Flow_together _ _ _ _ _ _ ?_
  unfold V_flow_Flow_together
  refine ⟨fun s w' => ∃ j : Nat, s.2 = (j : Int) ∧ j ≤ n ∧ s.1 = joinP F.g (ps.take j) ∧ Chg [] w w', fun s _ => (n - s.2).toNat, ⟨0, rfl, by omega, rfl, Chg.refl _ _⟩, ?_⟩
  rintro ⟨s1, s2⟩ w1 ⟨j, rfl, hj, rfl, c1⟩
  refine ⟨fun hlt => ?_, fun hge => ?_⟩
  · have hlt' : j < n := by simpa using hlt
    obtain ⟨x, hj'⟩ := get_of (l := ps) (j := j) (by rw [hp.length]; exact hlt')
    obtain ⟨k1, k2, a, rfl, ha, hc⟩ := (hp.chg c1 (by simp)).each j _ hj'
    refine ⟨a, rfl, by simp only []; omega, by simp only []; omega, _, _, by simpa using hc, ?_⟩
    refine v_box (by rfl) (by rfl) fun b1 w3 e3 h3 c3 => ?_
    refine ⟨_, _, cellsAt_of h3, ?_⟩
    have c13 := c1.trans0 c3
    refine (flow_get (h.chg c13 (by simp)) k2).mono ?_
    rintro _ w4 ⟨r2, rfl, rfl, c4⟩
    refine ⟨_, rfl, ?_⟩
    simp only []
    rw [wr (by omega) (by omega)]
    refine ⟨⟨j + 1, by omega, by omega, ?_, c13.trans0 c4⟩, by omega⟩
    rw [take_snoc hj', joinP_snoc]
  · have hge' : ¬ j < n := by simpa using hge
    refine ⟨?_, c1⟩
    rw [List.take_of_length_le (by rw [hp.length]; omega)]

def rightT (fr se : Int) (t : Tch) : Prop := (t.1 = (0, 0) ∨ mayP fr se t.1) ∧ ∀ p ∈ t.2, mayP fr se p
instance (fr se : Int) (t : Tch) : Decidable (rightT fr se t) := by unfold rightT; exact inferInstance
theorem flow_right {w : World} {b : Nat} {F : Fl} {fp : List Nat} (h : FlowAt w b F fp) {S : Nat → Prop} {p : Option Addr} {n c : Nat} {ts : List Tch} (hp : TouchesAt w S p n ts) (hn : n ≤ 9223372036854775807) (hin : ∀ t ∈ ts, t.2.length ≤ 9223372036854775807) :
    Calls Try.prog 81 #[.pointer (some ⟨b, 0, none⟩), .slice p n c] w fun e w' => ∃ r : Bool, e = .returned (.bool r) ∧ (r = decide (∀ t ∈ ts, rightT F.fr F.se t) ∧ Chg [] w w') := by
  refine ok_flow_Flow_right _ _ _ _ _ _ ?_
  unfold V_flow_Flow_right
  refine ⟨fun s w' => ∃ j : Nat, s.2 = (j : Int) ∧ j ≤ n ∧ (∀ t ∈ ts.take j, rightT F.fr F.se t) ∧ Chg [] w w', fun s _ => (n - s.2).toNat, ⟨0, rfl, by omega, by simp, Chg.refl _ _⟩, ?_⟩
  rintro ⟨s1, s2⟩ w1 ⟨j, rfl, hj, hall, c1⟩
  refine ⟨fun hlt => ?_, fun hge => ?_⟩
  · have hlt' : j < n := by simpa using hlt
    obtain ⟨t, hj'⟩ := get_of (l := ts) (j := j) (by rw [hp.length]; exact hlt')
    have hmem : t ∈ ts := List.mem_of_getElem? hj'
    obtain ⟨k1, k2, a, q, qn, qc, rfl, ha, hc, hps⟩ := (hp.chg c1 (by simp)).each j _ hj'
    refine ⟨a, rfl, by simp only []; omega, by simp only []; omega, t.1.1, t.1.2, q, qn, qc, by simpa using hc, ?_⟩
    refine v_box (by rfl) (by rfl) fun b1 w3 e3 h3 c3 => ?_
    have c03 := c1.trans0 c3
    refine ⟨t.1.1, t.1.2, ⟨by rw [add_at, cell_of h3]; rfl, by rw [add_at, cell_of h3]; rfl, trivial⟩, ?_⟩
    have hno : ¬ (∀ t ∈ ts, rightT F.fr F.se t) → decide (∀ t ∈ ts, rightT F.fr F.se t) = false := fun h => decide_eq_false h
    refine ⟨fun b2 w4 => b2 = decide (¬ (t.1 = (0, 0) ∨ mayP F.fr F.se t.1)) ∧ Chg [] w w4 ∧ Chg [] w3 w4, ?_, fun hne => ?_, fun he => ?_⟩
    rotate_left
    · have hne' : t.1 ≠ (0, 0) := by
        intro e; rw [e] at hne; simp at hne
      refine ⟨t.1.1, t.1.2, ⟨by rw [add_at, cell_of h3]; rfl, by rw [add_at, cell_of h3]; rfl, trivial⟩, ?_⟩
      refine (flow_may (h.chg c03 (by simp)) _ _).mono ?_
      rintro _ w5 ⟨_, rfl, rfl, c5⟩
      refine ⟨_, rfl, ?_, c03.trans0 c5, c5⟩
      rw [← decide_not]
      exact decide_eq_decide.2 ⟨fun h h' => h'.elim hne' h, fun h h' => h (.inr h')⟩
    · have he' : t.1 = (0, 0) := by
        have : t.1.1 = 0 ∧ t.1.2 = 0 := by simpa using he
        exact Prod.ext this.1 this.2
      exact ⟨by simp [he'], c03, Chg.refl _ _⟩
    rintro b2 w4 ⟨rfl, c04, c34⟩
    refine ⟨fun hb => ?_, fun hb => ?_⟩
    · rw [decide_eq_true_eq] at hb
      exact ⟨(decide_eq_false (fun h => hb (h t hmem).1)).symm, c04⟩
    rw [decide_eq_false_iff_not] at hb
    have hto : t.1 = (0, 0) ∨ mayP F.fr F.se t.1 := Classical.byContradiction hb
    refine ⟨q, qn, qc, by rw [cell_of (c34.obj (by simp) h3)]; rfl, ?_⟩
    have hps4 := (hps.chg c3 (by simp)).chg c34 (by simp)
    have hqn : qn ≤ 9223372036854775807 := by rw [← hps.length]; exact hin t hmem
    refine ⟨fun s w' => ∃ i : Nat, s.2 = (i : Int) ∧ i ≤ qn ∧ (∀ x ∈ t.2.take i, mayP F.fr F.se x) ∧ Chg [] w w' ∧ Chg [] w4 w', fun s _ => (qn - s.2).toNat, ⟨0, rfl, by omega, by simp, c04, Chg.refl _ _⟩, ?_⟩
    rintro ⟨u1, u2⟩ w6 ⟨i, rfl, hi, hsome, c06, c46⟩
    refine ⟨fun hlt2 => ?_, fun hge2 => ?_⟩
    · have hlt2' : i < qn := by simpa using hlt2
      obtain ⟨y, hi'⟩ := get_of (l := t.2) (j := i) (by rw [hps.length]; exact hlt2')
      have hmem2 : y ∈ t.2 := List.mem_of_getElem? hi'
      obtain ⟨k3, k4, a2, rfl, _, hc2⟩ := (hps4.chg c46 (by simp)).each i _ hi'
      refine ⟨a2, rfl, by simp only []; omega, by simp only []; omega, _, _, by simpa using hc2, ?_⟩
      refine v_box (by rfl) (by rfl) fun b3 w8 e8 h8 c8 => ?_
      refine ⟨_, _, cellsAt_of h8, ?_⟩
      have c08 := c06.trans0 c8
      refine (flow_may (h.chg c08 (by simp)) _ _).mono ?_
      rintro _ w9 ⟨_, rfl, rfl, c9⟩
      refine ⟨_, rfl, fun hb => ?_, fun hb => ?_⟩
      · have hb' : ¬ mayP F.fr F.se y := by simpa using hb
        exact ⟨(decide_eq_false (fun h => hb' ((h t hmem).2 _ hmem2))).symm, c08.trans0 c9⟩
      · have hb' : mayP F.fr F.se y := by simpa using hb
        simp only []
        rw [wr (by omega) (by omega)]
        refine ⟨⟨i + 1, by omega, by omega, ?_, c08.trans0 c9, (c46.trans0 c8).trans0 c9⟩, by omega⟩
        rw [take_snoc hi']
        intro x hx
        rcases List.mem_append.1 hx with hx | hx
        · exact hsome x hx
        · simp at hx; rw [hx]; exact hb'
    · have hge2' : ¬ i < qn := by simpa using hge2
      simp only []
      rw [wr (by omega) (by omega)]
      refine ⟨⟨j + 1, by omega, by omega, ?_, c06⟩, by omega⟩
      rw [take_snoc hj']
      intro x hx
      rcases List.mem_append.1 hx with hx | hx
      · exact hall x hx
      · simp at hx; rw [hx]
        rw [List.take_of_length_le (by rw [hps.length]; omega)] at hsome
        exact ⟨hto, hsome⟩
  · have hge' : ¬ j < n := by simpa using hge
    rw [List.take_of_length_le (by rw [hp.length]; omega)] at hall
    exact ⟨(decide_eq_true hall).symm, c1⟩

def decidesP (g : Int × Int → Int) (ts : List Tch) : Int := ts.foldl (fun s t => if t.1 = (0, 0) then bits .or .u32 s (joinP g t.2) else s) 0
theorem decidesP_snoc (g : Int × Int → Int) (ts : List Tch) (t : Tch) : decidesP g (ts ++ [t]) = if t.1 = (0, 0) then bits .or .u32 (decidesP g ts) (joinP g t.2) else decidesP g ts := by simp [decidesP]
theorem flow_decides {w : World} {b : Nat} {F : Fl} {fp : List Nat} (h : FlowAt w b F fp) {S : Nat → Prop} {p : Option Addr} {n c : Nat} {ts : List Tch} (hp : TouchesAt w S p n ts) (hn : n ≤ 9223372036854775807) (hin : ∀ t ∈ ts, t.2.length ≤ 9223372036854775807) :
    Calls Try.prog 65 #[.pointer (some ⟨b, 0, none⟩), .slice p n c] w fun e w' => ∃ (r1 : Int) (r2 : Int), e = .returned (.tuple #[.int .u32 r1, .int .i64 r2]) ∧
      (Chg [] w w' ∧ if ∀ t ∈ ts, rightT F.fr F.se t then r1 = decidesP F.g ts ∧ r2 = 0 else r1 = 0 ∧ r2 = 2) := by
  refine ok_flow_Flow_Decides _ _ _ _ _ _ ?_
  unfold V_flow_Flow_Decides
  refine (flow_none h).mono ?_
  rintro _ w1 ⟨_, rfl, rfl, hw⟩
  subst w1
  refine ⟨_, rfl, fun h => by simp at h, fun _ => ?_⟩
  refine (flow_right (c := c) h hp hn hin).mono ?_
  rintro _ w2 ⟨_, rfl, rfl, c2⟩
  refine ⟨_, rfl, fun hb => ?_, fun hb => ?_⟩
  · have hb' : ¬ ∀ t ∈ ts, rightT F.fr F.se t := by simpa using hb
    exact ⟨c2, by rw [if_neg hb']; exact ⟨rfl, rfl⟩⟩
  have hb' : ∀ t ∈ ts, rightT F.fr F.se t := by simpa using hb
  refine ⟨fun s w' => ∃ j : Nat, s.2 = (j : Int) ∧ j ≤ n ∧ s.1 = decidesP F.g (ts.take j) ∧ Chg [] w w', fun s _ => (n - s.2).toNat, ⟨0, rfl, by omega, rfl, c2⟩, ?_⟩
  rintro ⟨s1, s2⟩ w3 ⟨j, rfl, hj, rfl, c3⟩
  refine ⟨fun hlt => ?_, fun hge => ?_⟩
  · have hlt' : j < n := by simpa using hlt
    obtain ⟨t, hj'⟩ := get_of (l := ts) (j := j) (by rw [hp.length]; exact hlt')
    have hmem : t ∈ ts := List.mem_of_getElem? hj'
    obtain ⟨k1, k2, a, q, qn, qc, rfl, ha, hc, hps⟩ := (hp.chg c3 (by simp)).each j _ hj'
    refine ⟨fun s w' => s = decidesP F.g (ts.take (j + 1)) ∧ Chg [] w w', ?_, ?_⟩
    · rintro s w4 ⟨rfl, c4⟩
      simp only []
      rw [wr (by omega) (by omega)]
      exact ⟨⟨j + 1, by omega, by omega, rfl, c4⟩, by omega⟩
    refine ⟨a, rfl, by simp only []; omega, by simp only []; omega, t.1.1, t.1.2, q, qn, qc, by simpa using hc, ?_⟩
    refine v_box (by rfl) (by rfl) fun b1 w6 e6 h6 c6 => ?_
    have c06 := c3.trans0 c6
    refine ⟨t.1.1, t.1.2, ⟨by rw [add_at, cell_of h6]; rfl, by rw [add_at, cell_of h6]; rfl, trivial⟩, fun he => ?_, fun hne => ?_⟩
    · have he' : t.1 = (0, 0) := by
        have : t.1.1 = 0 ∧ t.1.2 = 0 := by simpa using he
        exact Prod.ext this.1 this.2
      refine ⟨q, qn, qc, by rw [cell_of h6]; rfl, ?_⟩
      refine (flow_together (c := qc) (h.chg c06 (by simp)) (hps.chg c6 (by simp)) (by rw [← hps.length]; exact hin t hmem)).mono ?_
      rintro _ w7 ⟨_, rfl, rfl, c7⟩
      refine ⟨_, rfl, ?_, c06.trans0 c7⟩
      rw [take_snoc hj', decidesP_snoc, if_pos he']
    · have hne' : t.1 ≠ (0, 0) := by
        intro e; rw [e] at hne; simp at hne
      refine ⟨?_, c06⟩
      rw [take_snoc hj', decidesP_snoc, if_neg hne']
  · have hge' : ¬ j < n := by simpa using hge
    refine ⟨c3, ?_⟩
    rw [if_pos hb', List.take_of_length_le (by rw [hp.length]; omega)]
    exact ⟨rfl, rfl⟩
end Go.Proofs.Ytkfncibmfcdokaa
