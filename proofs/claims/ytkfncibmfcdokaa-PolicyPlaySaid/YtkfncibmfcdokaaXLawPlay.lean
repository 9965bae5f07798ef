/- PolicyPlay: sets of sources, of sinks, the strict set are as they were given last. -/
import Derived.Test.YtkfncibmfcdokaaXPol3
import Derived.Test.YtkfncibmfcdokaaXStep
import Derived.Test.YtkfncibmfcdokaaXOpen3
import Derived.Test.YtkfncibmfcdokaaXFplay
set_option linter.unusedVariables false
set_option linter.unusedSimpArgs false
set_option maxRecDepth 100000
namespace Go.Proofs.Ytkfncibmfcdokaa
open Go Go.RowKit Go.X Go.ChangeShapes Go.WideShapes Go.ChangeAt

/-- Acts: a kind, a number, a set. -/
structure ActsAt (w : World) (S : Nat → Prop) (p : Option Addr) (n : Nat) (acs : List (Int × Int × Int)) : Prop where
  length : acs.length = n
  each : ∀ (j : Nat) (x : Int × Int × Int), acs[j]? = some x → 0 ≤ x.2.2 ∧ ∃ a, p = some a ∧ S a.block ∧ CellsAt w (a.add (j * 3)) 0 [.int .i64 x.1, .int .i64 x.2.1, .int .u32 x.2.2]
theorem ActsAt.chg {w w' : World} {S : Nat → Prop} {p : Option Addr} {n : Nat} {acs : List (Int × Int × Int)} {f : List Nat} (h : ActsAt w S p n acs) (hc : Chg f w w') (hf : ∀ i ∈ f, ¬ S i) : ActsAt w' S p n acs :=
  ⟨h.length, fun j x hx => let ⟨h3, a, h4, h5, h6⟩ := h.each j x hx; ⟨h3, a, h4, h5, hc.cells (by rw [add_block]; exact fun hm => hf _ hm h5) h6⟩⟩
section
variable {H : Type} {enc : TypeId × Value → H} {w : World} {base : Nat} {spare : Nat → Bool} {held : Bool} {fuel : Nat} {x : DataW H × List MemPlace} {cs : List Value}
theorem open_act (h : DataW.trod enc Try.prog w base spare held fuel 71 cs = some x) : ∃ m : Int × Int × Int, cs = [.int .i64 m.1, .int .i64 m.2.1, .int .u32 m.2.2] ∧ 0 ≤ m.2.2 := by
  obtain ⟨xs, n, _, _, hl, hlen, hf⟩ := DataW.trod_struct Try.underlying71 h
  have h0 : DataW.trod enc Try.prog w base spare held n 3 ((cs.drop 0).take (Try.prog.cellsOf 3)) = xs[0]? := hf 0 _ rfl
  have h1 : DataW.trod enc Try.prog w base spare held n 3 ((cs.drop 1).take (Try.prog.cellsOf 3)) = xs[1]? := hf 1 _ rfl
  have h2 : DataW.trod enc Try.prog w base spare held n 22 ((cs.drop 2).take (Try.prog.cellsOf 22)) = xs[2]? := hf 2 _ rfl
  simp only [cells3, cells22] at h0 h1 h2
  rw [show Try.prog.cellsOf 71 = 3 by kernel_rfl] at hl
  rw [List.getElem?_eq_getElem (by rw [hlen]; decide)] at h0 h1 h2
  obtain ⟨a, e0, _, w0⟩ := DataW.trod_int un3 h0
  obtain ⟨b, e1, _, w1⟩ := DataW.trod_int un3 h1
  obtain ⟨st, e2, _, w2⟩ := DataW.trod_int un22 h2
  obtain ⟨c0, c1, c2, rfl⟩ := len3 hl
  simp at e0 e1 e2
  subst e0 e1 e2
  exact ⟨(a, b, st), rfl, (wf_u32 w2).1⟩
theorem open_acts (h : DataW.trod enc Try.prog w base spare held fuel 67 cs = some x) : ∃ p n c acs, cs = [.slice p n c] ∧ n ≤ maxLen ∧ ActsAt w (oldS w) p n acs := by
  obtain ⟨p, n, c, rfl, hn, hel⟩ := open_slice (e := 71) (by kernel_rfl) h
  obtain ⟨l, hl, hq⟩ := list_of (Q := fun j (x : Int × Int × Int) => 0 ≤ x.2.2 ∧ ∃ a, p = some a ∧ oldS w a.block ∧ CellsAt w (a.add (j * 3)) 0 [.int .i64 x.1, .int .i64 x.2.1, .int .u32 x.2.2]) (n := n) (fun i hi => by
    obtain ⟨a, cs', m, y, ha, hc, _, hy⟩ := hel i hi
    obtain ⟨q, rfl, k1⟩ := open_act hy
    rw [show Try.prog.cellsOf 71 = 3 by kernel_rfl] at hc
    exact ⟨q, k1, a, ha, by have := cellsAt_lt hc; rwa [add_block] at this, hc⟩)
  exact ⟨p, n, c, l, rfl, hn, hl, hq⟩
end

/-- The law's own rules: eleven cells. -/
def RulesAt (w : World) (b : Nat) (r : List Int) : Prop := w.heap[b]? = some (.cells (r.map (Value.int .u32)).toArray 66 (0, 0))
theorem rules_at {w : World} {b : Nat} {r : List Int} (h : RulesAt w b r) {a1 a2 a3 a4 a5 a6 a7 a8 a9 a10 a11 : Int} (hr : r = [a1, a2, a3, a4, a5, a6, a7, a8, a9, a10, a11]) :
    CellsAt w ⟨b, 0, none⟩ 0 [.int .u32 a1, .int .u32 a2, .int .u32 a3, .int .u32 a4, .int .u32 a5, .int .u32 a6, .int .u32 a7, .int .u32 a8, .int .u32 a9, .int .u32 a10, .int .u32 a11] := by
  subst hr; exact cellsAt_of h
theorem rules_set {w : World} {b : Nat} {r : List Int} (h : RulesAt w b r) (hl : r.length = 11) {o i : Nat} (hi : o + i < 11) (v : Int) {K : World → Prop} (hK : ∀ w', RulesAt w' b (r.set (o + i) v) → Chg [b] w w' → K w') :
    (∃ u : Value, w.cell? ((⟨b, o, none⟩ : Addr).add i) = some u) ∧ w.frozen? ((⟨b, o, none⟩ : Addr).add i) = false ∧ ∀ w7, w7 = World.setCell w ((⟨b, o, none⟩ : Addr).add i) (.int .u32 v) → K w7 := by
  refine v_set h (by simpa [hl] using hi) fun w' h' c' _ => hK w' ?_ c'
  unfold RulesAt
  rw [h', List.setIfInBounds_toArray, List.map_set]
def goodA (x : Int × Int × Int) : Prop := x.2.2 < 65536 ∧ ((x.1 = 1 ∨ x.1 = 2) → 1 ≤ x.2.1 ∧ x.2.1 ≤ 4)
instance (x : Int × Int × Int) : Decidable (goodA x) := by unfold goodA; exact inferInstance

theorem play_walk {w : World} {S : Nat → Prop} {l1 : Option Addr} {ln lc : Nat} {acs : List (Int × Int × Int)} (hA : ActsAt w S l1 ln acs) (hln : ln ≤ maxLen) (a1 a2 a3 a4 a5 a6 a7 a8 a9 a10 a11 : Int) :
    Calls Try.prog 5 #[.agg #[.int .u32 a1, .int .u32 a2, .int .u32 a3, .int .u32 a4, .int .u32 a5, .int .u32 a6, .int .u32 a7, .int .u32 a8, .int .u32 a9, .int .u32 a10, .int .u32 a11], .slice l1 ln lc] w fun e w' => ∃ r : Bool, e = .returned (.bool r) ∧ (r = true ∧ Chg [] w w') := by
  have hl := hA.length
  simp only [maxLen] at hln
  refine ok_pomanderlaw13_PolicyPlay _ _ _ _ _ _ _ _ _ _ _ _ _ _ _ _ ?_
  unfold V_pomanderlaw13_PolicyPlay
  refine v_alloc fun b1 w1 e1 h1 c1 => ?_
  have s1 := c1.size
  have l1' : b1 < w1.heap.size := lt_of_heap h1
  refine ⟨_, _, _, _, _, _, _, _, _, _, _, cellsAt_of h1, ?_⟩
  refine (pol_of _ rfl a1 a2 a3 a4 a5 a6 a7 a8 a9 a10 a11 rfl).mono ?_
  rintro _ w2 ⟨r13, r14, rfl, c2, hr⟩
  have s2 := c2.size
  have c02 := c1.trans0 c2
  refine ⟨_, _, rfl, fun hb => ?_, fun hb => ?_⟩
  · refine (known_true w2).mono ?_
    rintro _ w5 ⟨_, rfl, rfl, c5⟩
    exact ⟨_, rfl, rfl, c02.trans0 c5⟩
  have hb' : ¬ 40 < ln ∧ r14 = 0 := by
    simp at hb; exact ⟨by omega, hb.2⟩
  by_cases hok : okR [a1, a2, a3, a4, a5, a6, a7, a8, a9, a10, a11]
  case neg => rw [if_neg hok] at hr; omega
  rw [if_pos hok] at hr
  obtain ⟨_, b, rfl, hP, hbs⟩ := hr
  refine ⟨fun s w' => ∃ (j : Nat) (r : List Int), s.2 = (j : Int) ∧ j ≤ ln ∧ r.length = 11 ∧ PolAt w' b r ∧ RulesAt w' b1 r ∧ Chg [] w w' ∧ w2.heap.size ≤ w'.heap.size, fun s _ => (ln - s.2).toNat,
    ⟨0, _, rfl, by omega, rfl, hP, c2.obj (by simp) h1, c02, Nat.le_refl _⟩, ?_⟩
  rintro ⟨u1, u2⟩ w4 ⟨j, r, rfl, hj, hrl, hP4, hR4, c04, s4⟩
  refine ⟨fun hlt => ?_, fun hge => ?_⟩
  rotate_left
  · refine (known_true w4).mono ?_
    rintro _ w24 ⟨_, rfl, rfl, c5⟩
    exact ⟨_, rfl, rfl, c04.trans0 c5⟩
  have hlt' : j < ln := by simpa using hlt
  obtain ⟨x, hx⟩ := get_of (l := acs) (j := j) (by omega)
  obtain ⟨hx0, a, rfl, _, hc⟩ := (hA.chg c04 (by simp)).each j x hx
  obtain ⟨k, wh, st⟩ := x
  simp only [] at hx0 hc
  refine ⟨a, rfl, by simp only []; omega, by simp only []; omega, k, wh, st, by simpa using hc, ?_⟩
  refine v_box (by rfl) (by rfl) fun b2 w6 e6 h6 c6 => ?_
  have s6 := c6.size
  have l6 : b2 < w6.heap.size := lt_of_heap h6
  have c06 := c04.trans0 c6
  have hPlt := hP.lt
  have hbb1 : b ≠ b1 := by omega
  refine ⟨wh, by rw [cell_of h6]; rfl, ?_⟩
  refine ⟨fun b3 w7 => w7 = w6 ∧ b3 = decide (1 ≤ wh ∧ wh ≤ 4), ?_, fun h => ?_, fun h => ?_⟩
  rotate_left
  · have h' : 1 ≤ wh := by simpa using h
    exact ⟨wh, by rw [cell_of h6]; rfl, rfl, decide_eq_decide.2 (by omega)⟩
  · have h' : ¬ 1 ≤ wh := by simpa using h
    exact ⟨rfl, by symm; rw [decide_eq_false_iff_not]; omega⟩
  rintro b3 w7 ⟨hw, rfl⟩
  subst w7
  refine ⟨fun s2 w8 => w8 = w6 ∧ s2 = if goodA (k, wh, st) then 0 else 2, ?_, ?_⟩
  rotate_left
  · -- what is wanted
    refine ⟨st, by rw [cell_of h6]; rfl, fun b6 w22 => w22 = w6 ∧ b6 = decide (¬ goodA (k, wh, st)), ?_, fun h => ?_, fun h => ?_⟩
    · rintro b6 w22 ⟨hw, rfl⟩
      subst w22
      refine ⟨fun h => ⟨rfl, ?_⟩, fun h => ⟨rfl, ?_⟩⟩
      · rw [decide_eq_true_eq] at h; rw [if_neg h]
      · rw [decide_eq_false_iff_not] at h; rw [if_pos (Classical.byContradiction h)]
    · have h' : st < 65536 := by simpa using h
      refine ⟨k, by rw [cell_of h6]; rfl, fun b7 w23 => w23 = w6 ∧ b7 = decide (k = 1 ∨ k = 2), ?_, fun h => ?_, fun h => ?_⟩
      · rintro b7 w23 ⟨hw, rfl⟩
        refine ⟨hw, ?_⟩
        rw [← decide_not, ← Bool.decide_and]
        exact decide_eq_decide.2 (by unfold goodA; simp only []; omega)
      · have hk : k ≠ 1 := by simpa using h
        refine ⟨k, by rw [cell_of h6]; rfl, rfl, ?_⟩
        by_cases h2 : k = 2
        · simp [h2]
        · simp [hk, h2]
      · have hk : k = 1 := by simpa using h
        exact ⟨rfl, by simp [hk]⟩
    · have h' : 65536 ≤ st := by simpa using h
      exact ⟨rfl, by symm; rw [decide_eq_true_eq]; unfold goodA; simp only []; omega⟩
  rintro s2v w8 ⟨hw, hs2⟩
  subst w8
  have hP6 := hP4.chg c6 (by simp)
  have hR6 : RulesAt w6 b1 r := c6.obj (by simp) hR4
  refine (pol_copy hP6).mono ?_
  rintro _ w9 ⟨_, rfl, b', rfl, hPc, hb's, c9⟩
  have s9 := c9.size
  have hP9 := hP6.chg c9 (by simp)
  have hR9 : RulesAt w9 b1 r := c9.obj (by simp) hR6
  have h9 := c9.obj (by simp) h6
  have c09 := c06.trans0 c9
  refine ⟨_, rfl, fun s3 w10 => s3 = s2v ∧ ∃ r', r'.length = 11 ∧ (s2v ≠ 0 → r' = r) ∧ PolAt w10 b r' ∧ RulesAt w10 b1 r' ∧ PolAt w10 b' r ∧ Chg [] w w10 ∧ w2.heap.size ≤ w10.heap.size, ?_, ?_⟩
  · rintro s3 w10 ⟨rfl, r', hr'l, hr'0, hP10, hR10, hPc10, c010, s10⟩
    refine v_drew fun w11 c11 => ?_
    have hP11 := hP10.chg c11 (by simp)
    have hR11 : RulesAt w11 b1 r' := c11.obj (by simp) hR10
    have hPc11 := hPc10.chg c11 (by simp)
    have c011 := c010.trans0 c11
    have s11 := c11.size
    obtain ⟨t1, t2, t3, t4, t5, t6, t7, t8, t9, t10, t11, hr'⟩ := len11 hr'l
    refine ⟨t1, t2, t3, t4, t5, t6, t7, t8, t9, t10, t11, rules_at hR11 hr', ?_⟩
    refine ⟨fun b4 w12 => b4 = false ∧ Chg [] w11 w12, ?_, fun _ => ?_, fun h => by simp at h⟩
    rotate_left
    · refine (pol_rules hP11 hr').mono ?_
      rintro _ w13 ⟨q1, q2, q3, q4, q5, q6, q7, q8, q9, q10, q11, rfl, rfl, rfl, rfl, rfl, rfl, rfl, rfl, rfl, rfl, rfl, rfl, c13⟩
      have hR13 : RulesAt w13 b1 r' := c13.obj (by simp) hR11
      refine ⟨_, _, _, _, _, _, _, _, _, _, _, rfl, ⟨rules_at hR13 hr', trivial⟩, _, fun w => ne66 _ _ w _ _ _ _ _ _ _ _ _ _ _ _ _ _ _ _ _ _ _ _ _ _, by simp, c13⟩
    rintro b4 w12 ⟨rfl, c12⟩
    have c012 := c011.trans0 c12
    have hR12 : RulesAt w12 b1 r' := c12.obj (by simp) hR11
    refine ⟨fun b5 w14 => b5 = false ∧ Chg [] w11 w14, ?_, fun _ => ?_, fun h => by simp at h⟩
    rotate_left
    · obtain ⟨v1, v2, v3, v4, v5, v6, v7, v8, v9, v10, v11, hv⟩ := len11 hrl
      refine (pol_rules (hPc11.chg c12 (by simp)) hv).mono ?_
      rintro _ w15 ⟨q1, q2, q3, q4, q5, q6, q7, q8, q9, q10, q11, rfl, rfl, rfl, rfl, rfl, rfl, rfl, rfl, rfl, rfl, rfl, rfl, c15⟩
      have hR15 : RulesAt w15 b1 r' := c15.obj (by simp) hR12
      refine ⟨_, _, _, _, _, _, _, _, _, _, _, rfl, ⟨rules_at hR15 hr', trivial⟩, _, fun w => ne66 _ _ w _ _ _ _ _ _ _ _ _ _ _ _ _ _ _ _ _ _ _ _ _ _, ?_, c12.trans0 c15⟩
      rw [← hr', ← hv]
      by_cases hz : s3 = 0
      · simp [hz]
      · simp [hr'0 hz]
    rintro b5 w14 ⟨rfl, c14⟩
    refine ⟨fun h => by simp at h, fun _ => ?_⟩
    simp only []
    rw [wr (by omega) (by omega)]
    have hR14 : RulesAt w14 b1 r' := c14.obj (by simp) hR11
    exact ⟨⟨j + 1, r', by omega, by omega, hr'l, hP11.chg c14 (by simp), hR14, c011.trans0 c14, by have := c14.size; omega⟩, by omega⟩
  · -- the act
    have hPblt := hP6.lt
    have hb'b : b' ≠ b := by omega
    have hb'b1 : b' ≠ b1 := by omega
    have hset : ∀ (i : Nat), i < 11 → ∀ {w16 w17 : World}, PolAt w16 b (r.set i st) → Chg [b] w9 w16 → RulesAt w17 b1 (r.set i st) → Chg [b1] w16 w17 → s2v = 0 →
        ((0 : Int) = s2v ∧ ∃ r', r'.length = 11 ∧ (s2v ≠ 0 → r' = r) ∧ PolAt w17 b r' ∧ RulesAt w17 b1 r' ∧ PolAt w17 b' r ∧ Chg [] w w17 ∧ w2.heap.size ≤ w17.heap.size) := by
      intro i hi w16 w17 hP16 c16 hR17 c17 hz
      refine ⟨hz.symm, r.set i st, by simp [hrl], fun h => absurd hz h, hP16.chg c17 (by simpa using hbb1), hR17, (hPc.chg c16 (by simpa using hb'b)).chg c17 (by simpa using hb'b1), ?_, ?_⟩
      · exact (c09.trans c16 (fun i hi hlt => by simp at hi; omega)).trans c17 (fun i hi hlt => by simp at hi; omega)
      · have := c16.size; have := c17.size; omega
    have hstay : s2v ≠ 0 → ((2 : Int) = s2v ∧ ∃ r', r'.length = 11 ∧ (s2v ≠ 0 → r' = r) ∧ PolAt w9 b r' ∧ RulesAt w9 b1 r' ∧ PolAt w9 b' r ∧ Chg [] w w9 ∧ w2.heap.size ≤ w9.heap.size) := by
      intro hz
      have hg : ¬ goodA (k, wh, st) := fun hg => hz (by rw [hs2, if_pos hg])
      exact ⟨by rw [hs2, if_neg hg], r, hrl, fun _ => rfl, hP9, hR9, hPc, c09, by omega⟩
    refine ⟨k, by rw [cell_of h9]; rfl, fun hk => ?_, fun hk => ⟨fun hk2 => ?_, fun hk2 => ?_⟩⟩
    · have hk' : k = 1 := by simpa using hk
      have hg : goodA (k, wh, st) ↔ mayS wh st := by unfold goodA mayS; simp only []; omega
      refine ⟨wh, by rw [cell_of h9]; rfl, st, by rw [cell_of h9]; rfl, ?_⟩
      refine (pol_source hP9 wh st).mono ?_
      rintro _ w16 ⟨r39, rfl, hr39⟩
      by_cases hm : mayS wh st
      · rw [if_pos hm] at hr39
        obtain ⟨rfl, hP16, c16⟩ := hr39
        have hz : s2v = 0 := by rw [hs2, if_pos (hg.2 hm)]
        have h16 := c16.obj (by simp; omega) h9
        have hR16 : RulesAt w16 b1 r := c16.obj (by simpa using Ne.symm hbb1) hR9
        unfold mayS at hm
        refine ⟨_, rfl, fun _ => ⟨wh, by rw [cell_of h16]; rfl, st, by rw [cell_of h16]; rfl, by omega, by omega, ?_⟩, fun h => by simp [hz] at h⟩
        rw [Nat.mul_one]
        refine rules_set hR16 hrl (o := 0) (by omega) st fun w17 hR17 c17 => ?_
        rw [Nat.zero_add] at hR17
        exact hset wh.toNat (by omega) hP16 c16 hR17 c17 hz
      · rw [if_neg hm] at hr39
        obtain ⟨rfl, hw⟩ := hr39
        subst w16
        have hz : s2v ≠ 0 := by rw [hs2, if_neg (fun h => hm (hg.1 h))]; omega
        exact ⟨_, rfl, fun h => by simp [hz] at h, fun _ => hstay hz⟩
    · have hk' : k = 2 := by simpa using hk2
      have hg : goodA (k, wh, st) ↔ mayS wh st := by unfold goodA mayS; simp only []; omega
      refine ⟨wh, by rw [cell_of h9]; rfl, st, by rw [cell_of h9]; rfl, ?_⟩
      refine (pol_sink hP9 wh st).mono ?_
      rintro _ w16 ⟨r39, rfl, hr39⟩
      by_cases hm : mayS wh st
      · rw [if_pos hm] at hr39
        obtain ⟨rfl, hP16, c16⟩ := hr39
        have hz : s2v = 0 := by rw [hs2, if_pos (hg.2 hm)]
        have h16 := c16.obj (by simp; omega) h9
        have hR16 : RulesAt w16 b1 r := c16.obj (by simpa using Ne.symm hbb1) hR9
        unfold mayS at hm
        refine ⟨_, rfl, fun _ => ⟨wh, by rw [cell_of h16]; rfl, st, by rw [cell_of h16]; rfl, by omega, by omega, ?_⟩, fun h => by simp [hz] at h⟩
        rw [Nat.mul_one]
        refine rules_set hR16 hrl (o := 5) (by omega) st fun w17 hR17 c17 => ?_
        exact hset (5 + wh.toNat) (by omega) hP16 c16 hR17 c17 hz
      · rw [if_neg hm] at hr39
        obtain ⟨rfl, hw⟩ := hr39
        subst w16
        have hz : s2v ≠ 0 := by rw [hs2, if_neg (fun h => hm (hg.1 h))]; omega
        exact ⟨_, rfl, fun h => by simp [hz] at h, fun _ => hstay hz⟩
    · have hk1' : k ≠ 1 := by simpa using hk
      have hk2' : k ≠ 2 := by simpa using hk2
      have hg : goodA (k, wh, st) ↔ st < 65536 := by unfold goodA; simp only []; omega
      refine ⟨st, by rw [cell_of h9]; rfl, ?_⟩
      refine (pol_strict hP9 st).mono ?_
      rintro _ w16 ⟨r39, rfl, hr39⟩
      by_cases hm : st < 65536
      · rw [if_pos hm] at hr39
        obtain ⟨rfl, hP16, c16⟩ := hr39
        have hz : s2v = 0 := by rw [hs2, if_pos (hg.2 hm)]
        have h16 := c16.obj (by simp; omega) h9
        have hR16 : RulesAt w16 b1 r := c16.obj (by simpa using Ne.symm hbb1) hR9
        refine ⟨_, rfl, fun _ => ⟨st, by rw [cell_of h16]; rfl, ?_⟩, fun h => by simp [hz] at h⟩
        have := rules_set (K := fun w17 => (0 : Int) = s2v ∧ ∃ r', r'.length = 11 ∧ (s2v ≠ 0 → r' = r) ∧ PolAt w17 b r' ∧ RulesAt w17 b1 r' ∧ PolAt w17 b' r ∧ Chg [] w w17 ∧ w2.heap.size ≤ w17.heap.size) hR16 hrl (o := 10) (i := 0) (by omega) st fun w17 hR17 c17 => hset 10 (by omega) hP16 c16 hR17 c17 hz
        rw [add_at] at this
        exact this
      · rw [if_neg hm] at hr39
        obtain ⟨rfl, hw⟩ := hr39
        subst w16
        have hz : s2v ≠ 0 := by rw [hs2, if_neg (fun h => hm (hg.1 h))]; omega
        exact ⟨_, rfl, fun h => by simp [hz] at h, fun _ => hstay hz⟩

theorem play_lifted (os : Os) (started : os.Started) (H : Type) (enc : TypeId × Value → H) :
    ReturnsInHanded {} Try.checked os 5 .any (Rows.policyPlaySpec.pre6 enc Try.prog Try.f5 Rows.policyPlayRow.domain false) (Rows.policyPlaySpec.post enc Try.prog Try.f5 false true false false) := by
  refine returnsInHanded_of_change (C := Try.checked) ownX started (by kernel_rfl) Try.func5
    (ChangeSpec.witness6 (enc := enc) (C := Try.checked) false ⟨#[], #[.agg #[.int .u32 0, .int .u32 0, .int .u32 0, .int .u32 0, .int .u32 0, .int .u32 0, .int .u32 0, .int .u32 0, .int .u32 0, .int .u32 0, .int .u32 0], .slice none 0 0], []⟩ 8 (by kernel_rfl) (by kernel_rfl) (by kernel_rfl) (by kernel_rfl)) ?_
  intro W base args ds gs before hval0 hW hcnd _
  have hval : ∀ (j : Nat) t v, Try.f5.params[j]? = some t → args[j]? = some v → Value.okWide Try.prog W .any base t v := hval0
  have hW' := hW
  obtain ⟨p, q, hA0, hV, rfl, hfz, hnd⟩ := hW
  have hA : DataW.TrodAll enc Try.prog W 0 (fun _ => true) true Try.f5.params.toList args.toList ds p := hA0
  rw [Try.params5] at hA hval
  have hAll := hA
  obtain ⟨v0, vs0, d0, ds0, p0, q0, hargs, rfl, rfl, h0, r0⟩ := trodAll_cons hA
  obtain ⟨v1, vs1, d1, ds1, p1, q1, rfl, rfl, rfl, h1, r1⟩ := trodAll_cons r0
  obtain ⟨rfl, rfl, rfl⟩ := trodAll_nil r1
  obtain rfl : args = #[v0, v1] := by cases args; simp_all
  obtain ⟨rfl, rfl⟩ := trodVars_none hV
  have hblt : ∀ x ∈ p0 ++ (p1 ++ []), x.block < W.heap.size := fun x hx => hW'.lt x (by simpa using hx)
  obtain ⟨c0, rfl, _⟩ := okWide_struct Try.underlying66 (hval 0 66 v0 rfl rfl)
  obtain ⟨a1, n1, k1, rfl⟩ := okWide_slice (e := 71) (by kernel_rfl) (hval 1 67 v1 rfl rfl)
  obtain ⟨f0, g0⟩ := h0
  obtain ⟨f1, g1⟩ := h1
  obtain ⟨x1, x2, x3, x4, x5, x6, x7, x8, x9, x10, x11, hx, _⟩ := open_rules g0
  obtain ⟨q2, m2, c2, acs, hacs, hm2, hT⟩ := open_acts g1
  simp [Value.cells] at hacs
  obtain ⟨rfl, rfl, rfl⟩ := hacs
  obtain rfl : c0 = #[.int .u32 x1, .int .u32 x2, .int .u32 x3, .int .u32 x4, .int .u32 x5, .int .u32 x6, .int .u32 x7, .int .u32 x8, .int .u32 x9, .int .u32 x10, .int .u32 x11] := Array.ext' (by simpa [Value.cells] using hx)
  clear hA0 hval0
  refine (play_walk hT hm2 x1 x2 x3 x4 x5 x6 x7 x8 x9 x10 x11).mono fun e W' ⟨r, he, hr, hc⟩ => ?_
  subst he hr
  have bel := hc.below
  exact ⟨_, rfl, _, _, _, [], _, [], hW', trodAll_mk1 (shut_bool (by kernel_rfl) _), all_below laidOutX bel _ _ _ _ (fun t ht => by
    simp at ht
    rcases ht with rfl | rfl <;> exact ⟨by kernel_rfl, of_decide_eq_true (by kernel_rfl)⟩) hAll (fun x hx => hblt x (by simpa using hx)), rfl, bel.frame _, fun h => by cases h⟩

theorem play_over : Rows.policyPlayRow.holds Try.pinned (OpenSpec.ofChange Rows.policyPlaySpec) :=
  OpenClaim.holds_of_wide 5 Try.f5 rfl rfl rfl rfl rfl rfl rfl ⟨rfl, rfl, rfl, rfl, rfl⟩ rfl rfl rfl rfl rfl (by kernel_rfl) Try.func5 (by kernel_rfl)
    (of_decide_eq_true (by kernel_rfl)) (by unfold Func.isWrapper; first | (rw [if_pos (by decide +kernel)]; kernel_rfl) | (rw [if_neg (by decide +kernel)]; exact ⟨rfl, rfl⟩))
    (fun os started H enc _ => play_lifted os started H enc)

theorem policyPlay_proved : Rows.PolicyPlaySaid := play_over
#print axioms policyPlay_proved

end Go.Proofs.Ytkfncibmfcdokaa
