/- The law ShadowUnions (any number of pages, any calls, any bytes): true. -/
import Derived.Test.YtkfncibmfcdokaaXStepS
import Derived.Test.YtkfncibmfcdokaaXHunions
set_option linter.unusedVariables false
set_option linter.unusedSimpArgs false
set_option maxRecDepth 100000
namespace Go.Proofs.Ytkfncibmfcdokaa
open Go Go.RowKit Go.X Go.XR Go.ChangeShapes Go.WideShapes Go.ChangeAt

theorem unions_walk {w : World} {pages at1 m : Int} {p : Option Addr} {n c : Nat} {acts : List Act3} (h : Acts3At w p n acts) (hn : n ≤ maxLen) (ha : -9223372036854775808 ≤ at1 ∧ at1 ≤ 9223372036854775807) :
    Calls Try.prog 10 #[.int .i64 pages, .slice p n c, .int .i64 at1, .int .i64 m] w fun e w' => ∃ r : Bool, e = .returned (.bool r) ∧ (r = true ∧ Chg [] w w') := by
  refine go_pomanderlaw03_ShadowUnions _ _ _ _ _ _ _ _ ?_
  unfold W_pomanderlaw03_ShadowUnions
  refine ⟨fun _ => works_last (Chg.refl _ _), fun hp => ?_⟩
  simp at hp
  refine (played_true (by omega) (by omega) h hn).mono ?_
  rintro _ w3 ⟨r3, r4, r4n, r4c, _, rfl, rfl, g, fp, hB⟩
  refine ⟨_, _, _, _, _, rfl, ?_⟩
  obtain ⟨b, rfl, hS⟩ := hB.shadow
  refine (shadow_union hS ha).mono ?_
  rintro _ w4 ⟨u1, u2, rfl, c4, h4⟩
  refine ⟨_, _, rfl, ?_⟩
  have hB4 := hB.later c4
  refine (r3_union hB4.row hS.each ha hB4.len (by omega) (by omega)).mono ?_
  rintro _ w5 ⟨v1, v2, rfl, hw, h5⟩
  subst w5
  have e12 : u1 = v1 ∧ u2 = v2 := by
    by_cases k : inShadow pages at1 m
    · rw [if_pos k] at h4 h5; exact ⟨h4.1.trans h5.1.symm, h4.2.trans h5.2.symm⟩
    · rw [if_neg k] at h4 h5; exact ⟨h4.1.trans h5.1.symm, h4.2.trans h5.2.symm⟩
  obtain ⟨rfl, rfl⟩ := e12
  refine ⟨_, _, rfl, fun b2 w' => b2 = true ∧ w' = w4, ?_, fun _ => ?_, fun hf => by simp at hf⟩
  · rintro _ w6 ⟨rfl, hw⟩
    subst w6
    refine ⟨fun b3 w' => b3 = true ∧ Chg [] w w', ?_, fun _ => ?_, fun hf => by simp at hf⟩
    · rintro _ w8 ⟨rfl, c8⟩
      refine ⟨fun b4 w' => b4 = true ∧ Chg [] w w', fun b4 w' h => h, fun _ => works_last c8, fun hf => by simp at hf⟩
    · refine (is_both hB4).mono ?_
      rintro _ w9 ⟨_, rfl, rfl, c9⟩
      exact ⟨_, rfl, rfl, hB4.chg.trans0 c9⟩
  · refine (num44 w4 _).mono ?_
    rintro _ w7 ⟨_, rfl, rfl, hw⟩
    subst w7
    exact ⟨_, rfl, by simp, rfl⟩

theorem unions_lifted (os : Os) (started : os.Started) (H : Type) (enc : TypeId × Value → H) :
    ReturnsInHanded {} Try.checked os 10 .any (Rows.shadowUnionsSpec.pre6 enc Try.prog Try.f10 Rows.shadowUnionsRow.domain false) (Rows.shadowUnionsSpec.post enc Try.prog Try.f10 false true false false) := by
  refine returnsInHanded_of_change (C := Try.checked) ownX started (by kernel_rfl) Try.func10
    (ChangeSpec.witness6 (enc := enc) (C := Try.checked) false ⟨#[], #[.int .i64 0, .slice none 0 0, .int .i64 0, .int .i64 0], []⟩ 8 (by kernel_rfl) (by kernel_rfl) (by kernel_rfl) (by kernel_rfl)) ?_
  intro W base args ds gs before hval0 hW hcnd _
  have hval : ∀ (j : Nat) t v, Try.f10.params[j]? = some t → args[j]? = some v → Value.okWide Try.prog W .any base t v := hval0
  have hW' := hW
  obtain ⟨p, q, hA0, hV, rfl, hfz, hnd⟩ := hW
  have hA : DataW.TrodAll enc Try.prog W 0 (fun _ => true) true Try.f10.params.toList args.toList ds p := hA0
  rw [Try.params10] at hA hval
  have hAll := hA
  obtain ⟨v0, vs0, d0, ds0, p0, q0, hargs, rfl, rfl, h0, r0⟩ := trodAll_cons hA
  obtain ⟨v1, vs1, d1, ds1, p1, q1, rfl, rfl, rfl, h1, r1⟩ := trodAll_cons r0
  obtain ⟨v2, vs2, d2, ds2, p2, q2, rfl, rfl, rfl, h2, r2⟩ := trodAll_cons r1
  obtain ⟨v3, vs3, d3, ds3, p3, q3, rfl, rfl, rfl, h3, r3⟩ := trodAll_cons r2
  obtain ⟨rfl, rfl, rfl⟩ := trodAll_nil r3
  obtain rfl : args = #[v0, v1, v2, v3] := by cases args; simp_all
  obtain ⟨rfl, rfl⟩ := trodVars_none hV
  have hblt : ∀ x ∈ p0 ++ (p1 ++ (p2 ++ (p3 ++ []))), x.block < W.heap.size := fun x hx => hW'.lt x (by simpa using hx)
  obtain ⟨a0, rfl, rfl, rfl, w0⟩ := open_int un3 (hval 0 3 v0 rfl rfl) h0
  obtain ⟨b1, n1, k1, rfl⟩ := okWide_slice Try.underlying95 (hval 1 95 v1 rfl rfl)
  obtain ⟨f1, g1⟩ := h1
  obtain ⟨q1, m1, c1, acts, hms, hm1, hM⟩ := open_acts3 g1
  simp [Value.cells] at hms
  obtain ⟨rfl, rfl, rfl⟩ := hms
  obtain ⟨a2, rfl, rfl, rfl, w2⟩ := open_int un3 (hval 2 3 v2 rfl rfl) h2
  obtain ⟨a3, rfl, rfl, rfl, w3⟩ := open_int un3 (hval 3 3 v3 rfl rfl) h3
  clear hA0 hval0
  refine (unions_walk hM hm1 (wf_i64 w2)).mono fun e W' ⟨r, he, hr, hc⟩ => ?_
  subst he hr
  have bel := hc.below
  exact ⟨_, rfl, _, _, _, [], _, [], hW', trodAll_mk1 (shut_bool (by kernel_rfl) _), all_below laidOutX bel _ _ _ _ (fun t ht => by
    simp at ht
    rcases ht with rfl | rfl | rfl | rfl <;> exact ⟨by kernel_rfl, of_decide_eq_true (by kernel_rfl)⟩) hAll (fun x hx => hblt x (by simpa using hx)), rfl, bel.frame _, fun h => by cases h⟩

theorem unions_over : Rows.shadowUnionsRow.holds Try.pinned (OpenSpec.ofChange Rows.shadowUnionsSpec) :=
  OpenClaim.holds_of_wide 10 Try.f10 rfl rfl rfl rfl rfl rfl rfl ⟨rfl, rfl, rfl, rfl, rfl⟩ rfl rfl rfl rfl rfl (by kernel_rfl) Try.func10 (by kernel_rfl)
    (of_decide_eq_true (by kernel_rfl)) (by unfold Func.isWrapper; first | (rw [if_pos (by decide +kernel)]; kernel_rfl) | (rw [if_neg (by decide +kernel)]; exact ⟨rfl, rfl⟩))
    (fun os started H enc _ => unions_lifted os started H enc)

theorem shadowUnions_proved : Rows.ShadowUnionsSaid := unions_over
#print axioms shadowUnions_proved
end Go.Proofs.Ytkfncibmfcdokaa
