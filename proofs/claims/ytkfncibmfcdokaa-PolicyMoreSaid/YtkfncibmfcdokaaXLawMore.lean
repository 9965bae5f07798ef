/- PolicyMore: with more labels in the strict set a policy stops no less; with none it never stops. -/
import Derived.Test.YtkfncibmfcdokaaXPol2
import Derived.Test.YtkfncibmfcdokaaRows
set_option linter.unusedVariables false
set_option linter.unusedSimpArgs false
set_option maxRecDepth 100000
namespace Go.Proofs.Ytkfncibmfcdokaa
open Go Go.RowKit Go.X Go.ChangeShapes Go.WideShapes Go.ChangeAt

theorem ownX : ownKnob Try.prog.godebug = none := by kernel_rfl
theorem laidOutX : laidOutB Try.prog = true := by kernel_rfl


theorem more_walk {w : World} {S : Nat → Prop} {m1 l1 : Option Addr} {mn mc ln lc : Nat} {ms : List Pr} {ts : List Tch} {s1 s2 : Int} (hm : MarksAt w S m1 mn ms) (hmn : mn ≤ maxLen) (ht : TouchesAt w S l1 ln ts) (hln : ln ≤ maxLen) (hin : ∀ t ∈ ts, t.2.length ≤ maxLen)
    (h1 : 0 ≤ s1) (h2 : 0 ≤ s2) :
    Calls Try.prog 3 #[.agg #[.int .u32 s1, .int .u32 s2], .slice m1 mn mc, .slice l1 ln lc] w fun e w' => ∃ r : Bool, e = .returned (.bool r) ∧ (r = true ∧ Chg [] w w') := by
  have hmn' := hmn
  have hln' := hln
  simp only [maxLen] at hmn' hln'
  have hin' : ∀ t ∈ ts, t.2.length ≤ 9223372036854775807 := fun t h => by have := hin t h; simp only [maxLen] at this; omega
  refine ok_pomanderlaw13_PolicyMore _ _ _ _ _ _ _ _ _ _ ?_
  unfold V_pomanderlaw13_PolicyMore
  refine v_alloc fun b1 w1 e1 hb1 c1 => ?_
  refine (broad_ok (ht.chg c1 (by simp)) hln hmn).mono ?_
  rintro _ w2 ⟨_, rfl, rfl, hw⟩
  subst w2
  refine ⟨_, rfl, ?_⟩
  refine ⟨fun b w' => w' = w1 ∧ b = decide (broadP mn ts ∨ 65536 ≤ s1), ?_, fun hb => ?_, fun hb => ?_⟩
  rotate_left
  · have hb' : ¬ broadP mn ts := by simpa using hb
    refine ⟨by omega, by omega, s1, by rw [add_at, cell_of hb1]; rfl, rfl, ?_⟩
    exact decide_eq_decide.2 ⟨.inr, fun h => h.resolve_left hb'⟩
  · have hb' : broadP mn ts := by simpa using hb
    exact ⟨rfl, by symm; rw [decide_eq_true_eq]; exact .inl hb'⟩
  rintro b2 w3 ⟨hw, rfl⟩
  subst w3
  refine ⟨fun b w' => w' = w1 ∧ b = decide (broadP mn ts ∨ 65536 ≤ s1 ∨ 65536 ≤ s2), ?_, fun hb => ?_, fun hb => ?_⟩
  rotate_left
  · have hb' : ¬ (broadP mn ts ∨ 65536 ≤ s1) := by rwa [decide_eq_false_iff_not] at hb
    refine ⟨by omega, by omega, s2, by rw [add_at, cell_of hb1]; rfl, rfl, ?_⟩
    exact decide_eq_decide.2 ⟨fun h => .inr (.inr h), fun h => by
      rcases h with h | h | h
      · exact absurd (.inl h) hb'
      · exact absurd (.inr h) hb'
      · exact h⟩
  · have hb' : broadP mn ts ∨ 65536 ≤ s1 := by rwa [decide_eq_true_eq] at hb
    exact ⟨rfl, by symm; rw [decide_eq_true_eq]; exact hb'.imp id .inl⟩
  rintro b3 w4 ⟨hw, rfl⟩
  subst w4
  refine ⟨fun hb => ?_, fun hb => ?_⟩
  · refine (known_true w1).mono ?_
    rintro _ w5 ⟨_, rfl, rfl, c5⟩
    exact ⟨_, rfl, rfl, c1.trans0 c5⟩
  have hb' : ¬ (broadP mn ts ∨ 65536 ≤ s1 ∨ 65536 ≤ s2) := by rwa [decide_eq_false_iff_not] at hb
  have hbr : ¬ broadP mn ts := fun h => hb' (.inl h)
  have hs1 : s1 < 65536 := by
    by_cases h : s1 < 65536
    · exact h
    · exact absurd (.inr (.inl (by omega))) hb'
  have hs2 : s2 < 65536 := by
    by_cases h : s2 < 65536
    · exact h
    · exact absurd (.inr (.inr (by omega))) hb'
  have hmn30 : mn ≤ 30 := by unfold broadP at hbr; omega
  refine (made_ok (hm.chg c1 (by simp)) (by omega)).mono ?_
  rintro _ w6 ⟨r4, r5, r6, r7, r8, r8n, r8c, r9, r9n, r9c, rfl, bf, fp, rfl, hF, rfl, rfl, rfl, hR, c6, hfp, _⟩
  refine ⟨_, _, _, _, _, _, _, _, _, _, rfl, ?_⟩
  refine v_box (by rfl) (by rfl) fun b4 w8 e8 h8 c8 => ?_
  refine (pol_new w8).mono ?_
  rintro _ w9 ⟨_, rfl, b, rfl, hP, c9, hbP⟩
  refine ⟨_, rfl, ?_⟩
  have s1' := c1.size
  have s6 := c6.size
  have s8 := c8.size
  have s9 := c9.size
  have c69 := c8.trans0 c9
  have c19 := c6.trans0 c69
  have c09 := c1.trans0 c19
  have hFlt := hF.lt
  have hF9 := hF.chg c69 (by simp)
  have hbfp : b ∉ fp := fun hm => by have := hFlt _ hm; omega
  have hb19 := c19.obj (by simp) hb1
  have hl1 : b1 < w1.heap.size := lt_of_heap hb1
  refine (pol_stops (c := lc) (st := 0) hP hF9 (ht.chg c09 (by simp)) (by omega) hin' (by decide)).mono ?_
  rintro _ w10 ⟨r11, r12, rfl, rfl, rfl, c10⟩
  have c010 := c09.trans0 c10
  have s10 := c10.size
  refine ⟨_, _, rfl, by omega, by omega, s1, by rw [add_at, cell_of (c10.obj (by simp) hb19)]; rfl, ?_⟩
  refine (pol_strict_ok (hP.chg c10 (by simp)) hs1).mono ?_
  rintro _ w11 ⟨r13, rfl, rfl, hP11, c11⟩
  have s11 := c11.size
  have c011 : Chg [] w w11 := c010.trans c11 (fun i hi hlt => by simp at hi; omega)
  have hF11 := (hF9.chg c10 (by simp)).chg c11 (fun i hi hm => by simp at hm; exact hbfp (hm ▸ hi))
  refine ⟨_, rfl, ?_⟩
  refine (pol_stops (c := lc) (st := s1) hP11 hF11 (ht.chg c011 (by simp)) (by omega) hin' rfl).mono ?_
  rintro _ w12 ⟨r14, r15, rfl, rfl, rfl, c12⟩
  have c012 := c011.trans0 c12
  have s12 := c12.size
  have hb112 : w12.heap[b1]? = some (.cells #[.int .u32 s1, .int .u32 s2] 23 (0, 0)) := c12.obj (by simp) (c11.obj (by simp; omega) (c10.obj (by simp) hb19))
  refine ⟨_, _, rfl, by omega, by omega, s1, by rw [add_at, cell_of hb112]; rfl, by omega, by omega, s2, by rw [add_at, cell_of hb112]; rfl, ?_⟩
  have hor := or_u16 ⟨h1, hs1⟩ ⟨h2, hs2⟩
  refine (pol_strict_ok (hP11.chg c12 (by simp)) hor.2).mono ?_
  rintro _ w13 ⟨r16, rfl, rfl, hP13, c13⟩
  have c013 : Chg [] w w13 := c012.trans c13 (fun i hi hlt => by simp at hi; omega)
  have hF13 := (hF11.chg c12 (by simp)).chg c13 (fun i hi hm => by simp at hm; exact hbfp (hm ▸ hi))
  refine ⟨_, rfl, ?_⟩
  refine (pol_stops (c := lc) (st := bits .or .u32 s1 s2) hP13 hF13 (ht.chg c013 (by simp)) (by omega) hin' rfl).mono ?_
  rintro _ w14 ⟨r17, r18, rfl, rfl, rfl, c14⟩
  have c014 := c013.trans0 c14
  refine ⟨_, _, rfl, _, fun b w h => h, fun _ => ?_, fun hf => ?_⟩
  · refine (known_true w14).mono ?_
    rintro _ w16 ⟨_, rfl, rfl, c16⟩
    exact ⟨_, rfl, rfl, c014.trans0 c16⟩
  · exfalso
    have hdu : u16 (decN (madeF ms) ts) := by
      unfold decN; split
      · exact decidesP_u16 (fun p => hF.each p) ts
      · exact ⟨by omega, by omega⟩
    have hz := and_zero_u32 hdu
    by_cases hA : bits .and .u32 (decN (madeF ms) ts) s1 = 0
    · simp [hz, hA] at hf
    · have hB := and_or_ne hdu ⟨h1, hs1⟩ ⟨h2, hs2⟩ hA
      simp [hz, hA, hB] at hf


theorem more_lifted (os : Os) (started : os.Started) (H : Type) (enc : TypeId × Value → H) :
    ReturnsInHanded {} Try.checked os 3 .any (Rows.policyMoreSpec.pre6 enc Try.prog Try.f3 Rows.policyMoreRow.domain false) (Rows.policyMoreSpec.post enc Try.prog Try.f3 false true false false) := by
  refine returnsInHanded_of_change (C := Try.checked) ownX started (by kernel_rfl) Try.func3
    (ChangeSpec.witness6 (enc := enc) (C := Try.checked) false ⟨#[], #[.agg #[.int .u32 0, .int .u32 0], .slice none 0 0, .slice none 0 0], []⟩ 8 (by kernel_rfl) (by kernel_rfl) (by kernel_rfl) (by kernel_rfl)) ?_
  intro W base args ds gs before hval0 hW hcnd _
  have hval : ∀ (j : Nat) t v, Try.f3.params[j]? = some t → args[j]? = some v → Value.okWide Try.prog W .any base t v := hval0
  have hW' := hW
  obtain ⟨p, q, hA0, hV, rfl, hfz, hnd⟩ := hW
  have hA : DataW.TrodAll enc Try.prog W 0 (fun _ => true) true Try.f3.params.toList args.toList ds p := hA0
  rw [Try.params3] at hA hval
  have hAll := hA
  obtain ⟨v0, vs0, d0, ds0, p0, q0, hargs, rfl, rfl, h0, r0⟩ := trodAll_cons hA
  obtain ⟨v1, vs1, d1, ds1, p1, q1, rfl, rfl, rfl, h1, r1⟩ := trodAll_cons r0
  obtain ⟨v2, vs2, d2, ds2, p2, q2, rfl, rfl, rfl, h2, r2⟩ := trodAll_cons r1
  obtain ⟨rfl, rfl, rfl⟩ := trodAll_nil r2
  obtain rfl : args = #[v0, v1, v2] := by cases args; simp_all
  obtain ⟨rfl, rfl⟩ := trodVars_none hV
  have hblt : ∀ x ∈ p0 ++ (p1 ++ (p2 ++ [])), x.block < W.heap.size := fun x hx => hW'.lt x (by simpa using hx)
  obtain ⟨a0, rfl, _⟩ := okWide_array Try.underlying23 (hval 0 23 v0 rfl rfl)
  obtain ⟨a1, n1, k1, rfl⟩ := okWide_slice Try.underlying24 (hval 1 24 v1 rfl rfl)
  obtain ⟨a2, n2, k2, rfl⟩ := okWide_slice Try.underlying25 (hval 2 25 v2 rfl rfl)
  obtain ⟨f0, g0⟩ := h0
  obtain ⟨f1, g1⟩ := h1
  obtain ⟨f2, g2⟩ := h2
  obtain ⟨s1, s2, hs, hs1, hs2⟩ := open_two g0
  obtain ⟨q1, m1, c1, ms, hms, hm1, hM⟩ := open_marks g1
  obtain ⟨q2, m2, c2, ts, hts, hm2, hT, hTin⟩ := open_touches g2
  simp [Value.cells] at hs hms hts
  obtain ⟨rfl, rfl, rfl⟩ := hms
  obtain ⟨rfl, rfl, rfl⟩ := hts
  obtain rfl : a0 = #[.int .u32 s1, .int .u32 s2] := by
    apply Array.ext'
    simpa using hs
  clear hA0 hval0
  refine (more_walk hM hm1 hT hm2 hTin hs1.1 hs2.1).mono fun e W' ⟨r, he, hr, hc⟩ => ?_
  subst he hr
  have bel := hc.below
  exact ⟨_, rfl, _, _, _, [], _, [], hW', trodAll_mk1 (shut_bool Try.underlying4 _), all_below laidOutX bel _ _ _ _ (fun t ht => by
    simp at ht
    rcases ht with rfl | rfl | rfl <;> exact ⟨by kernel_rfl, of_decide_eq_true (by kernel_rfl)⟩) hAll (fun x hx => hblt x (by simpa using hx)), rfl, bel.frame _, fun h => by cases h⟩

theorem more_over : Rows.policyMoreRow.holds Try.pinned (OpenSpec.ofChange Rows.policyMoreSpec) :=
  OpenClaim.holds_of_wide 3 Try.f3 rfl rfl rfl rfl rfl rfl rfl ⟨rfl, rfl, rfl, rfl, rfl⟩ rfl rfl rfl rfl rfl (by kernel_rfl) Try.func3 (by kernel_rfl)
    (of_decide_eq_true (by kernel_rfl)) (by unfold Func.isWrapper; first | (rw [if_pos (by decide +kernel)]; kernel_rfl) | (rw [if_neg (by decide +kernel)]; exact ⟨rfl, rfl⟩))
    (fun os started H enc _ => more_lifted os started H enc)

theorem policyMore_proved : Rows.PolicyMoreSaid := more_over
#print axioms policyMore_proved
end Go.Proofs.Ytkfncibmfcdokaa
