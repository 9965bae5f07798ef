/- The law ShadowSets (any number of pages, any byte and set): true. -/
import Derived.Test.YtkfncibmfcdokaaXStepS
import Derived.Test.YtkfncibmfcdokaaXHsets
set_option linter.unusedVariables false
set_option linter.unusedSimpArgs false
set_option maxRecDepth 100000
namespace Go.Proofs.Ytkfncibmfcdokaa
open Go Go.RowKit Go.X Go.XR Go.ChangeShapes Go.WideShapes Go.ChangeAt

theorem sets_walk {w : World} {pages at1 set : Int} (ha : -9223372036854775808 ≤ at1 ∧ at1 ≤ 9223372036854775807) (hs : 0 ≤ set) :
    Calls Try.prog 8 #[.int .i64 pages, .int .i64 at1, .int .u32 set] w fun e w' => ∃ r : Bool, e = .returned (.bool r) ∧ (r = true ∧ Chg [] w w') := by
  refine go_pomanderlaw03_ShadowSets _ _ _ _ _ ?_
  unfold W_pomanderlaw03_ShadowSets
  refine ⟨fun _ => works_last (Chg.refl _ _), fun hp => ?_⟩
  simp at hp
  refine v_alloc fun b1 w2 e1 hb1 c2 => ?_
  refine (played_true (by omega) (by omega) (acts_one (a := ⟨0, at1, 0, set⟩) hb1 ha hs) (by simp [maxLen])).mono ?_
  rintro _ w3 ⟨r3, r4, r4n, r4c, _, rfl, rfl, g, fp, hB⟩
  refine ⟨_, _, _, _, _, rfl, ?_⟩
  obtain ⟨b, rfl, hS⟩ := hB.shadow
  refine (shadow_getp hS ha).mono ?_
  rintro _ w4 ⟨_, _, rfl, c4, rfl, rfl⟩
  refine ⟨_, _, rfl, ?_⟩
  have hB4 := hB.later c4
  refine (r3_get hB4.row at1).mono ?_
  rintro _ w5 ⟨r8, r9, rfl, hw, h5⟩
  subst w5
  have h5' : g at1 = r8 ∧ (if 0 ≤ at1 ∧ at1 < 64 * pages then (0 : Int) else 4) = r9 := by
    rw [hB.len] at h5
    by_cases k : 0 ≤ at1 ∧ at1 < 64 * pages
    · rw [if_pos k] at h5 ⊢
      exact ⟨h5.1.symm, h5.2.symm⟩
    · rw [if_neg k] at h5 ⊢
      exact ⟨(hS.out (by omega)).trans h5.1.symm, h5.2.symm⟩
  refine ⟨_, _, rfl, fun b2 w' => b2 = true ∧ w' = w4, ?_, fun _ => ?_, fun hf => by simp [h5'.1] at hf⟩
  · rintro _ w6 ⟨rfl, hw⟩
    subst w6
    refine ⟨fun b3 w' => b3 = true ∧ Chg [] w w', ?_, fun _ => ?_, fun hf => by simp at hf⟩
    · rintro _ w8 ⟨rfl, c8⟩
      refine ⟨fun b4 w' => b4 = true ∧ Chg [] w w', fun b4 w' h => h, fun _ => works_last c8, fun hf => by simp at hf⟩
    · refine (is_both hB4).mono ?_
      rintro _ w9 ⟨_, rfl, rfl, c9⟩
      exact ⟨_, rfl, rfl, ((c2.trans0 hB.chg).trans0 c4).trans0 c9⟩
  · refine (num44 w4 _).mono ?_
    rintro _ w7 ⟨_, rfl, rfl, hw⟩
    subst w7
    exact ⟨_, rfl, by simp [h5'.2], rfl⟩

theorem sets_lifted (os : Os) (started : os.Started) (H : Type) (enc : TypeId × Value → H) :
    ReturnsInHanded {} Try.checked os 8 .any (Rows.shadowSetsSpec.pre6 enc Try.prog Try.f8 Rows.shadowSetsRow.domain false) (Rows.shadowSetsSpec.post enc Try.prog Try.f8 false true false false) := by
  refine returnsInHanded_of_change (C := Try.checked) ownX started (by kernel_rfl) Try.func8
    (ChangeSpec.witness6 (enc := enc) (C := Try.checked) false ⟨#[], #[.int .i64 0, .int .i64 0, .int .u32 0], []⟩ 8 (by kernel_rfl) (by kernel_rfl) (by kernel_rfl) (by kernel_rfl)) ?_
  intro W base args ds gs before hval0 hW hcnd _
  have hval : ∀ (j : Nat) t v, Try.f8.params[j]? = some t → args[j]? = some v → Value.okWide Try.prog W .any base t v := hval0
  have hW' := hW
  obtain ⟨p, q, hA0, hV, rfl, hfz, hnd⟩ := hW
  have hA : DataW.TrodAll enc Try.prog W 0 (fun _ => true) true Try.f8.params.toList args.toList ds p := hA0
  rw [Try.params8] at hA hval
  have hAll := hA
  obtain ⟨v0, vs0, d0, ds0, p0, q0, hargs, rfl, rfl, h0, r0⟩ := trodAll_cons hA
  obtain ⟨v1, vs1, d1, ds1, p1, q1, rfl, rfl, rfl, h1, r1⟩ := trodAll_cons r0
  obtain ⟨v2, vs2, d2, ds2, p2, q2, rfl, rfl, rfl, h2, r2⟩ := trodAll_cons r1
  obtain ⟨rfl, rfl, rfl⟩ := trodAll_nil r2
  obtain rfl : args = #[v0, v1, v2] := by cases args; simp_all
  obtain ⟨rfl, rfl⟩ := trodVars_none hV
  have hblt : ∀ x ∈ p0 ++ (p1 ++ (p2 ++ [])), x.block < W.heap.size := fun x hx => hW'.lt x (by simpa using hx)
  obtain ⟨a0, rfl, rfl, rfl, w0⟩ := open_int un3 (hval 0 3 v0 rfl rfl) h0
  obtain ⟨a1, rfl, rfl, rfl, w1⟩ := open_int un3 (hval 1 3 v1 rfl rfl) h1
  obtain ⟨a2, rfl, rfl, rfl, w2⟩ := open_int un22 (hval 2 22 v2 rfl rfl) h2
  clear hA0 hval0
  refine (sets_walk (wf_i64 w1) (wf_u32 w2).1).mono fun e W' ⟨r, he, hr, hc⟩ => ?_
  subst he hr
  have bel := hc.below
  exact ⟨_, rfl, _, _, _, [], _, [], hW', trodAll_mk1 (shut_bool (by kernel_rfl) _), all_below laidOutX bel _ _ _ _ (fun t ht => by
    simp at ht
    rcases ht with rfl | rfl | rfl <;> exact ⟨by kernel_rfl, of_decide_eq_true (by kernel_rfl)⟩) hAll (fun x hx => hblt x (by simp at hx)), rfl, bel.frame _, fun h => by cases h⟩

theorem sets_over : Rows.shadowSetsRow.holds Try.pinned (OpenSpec.ofChange Rows.shadowSetsSpec) :=
  OpenClaim.holds_of_wide 8 Try.f8 rfl rfl rfl rfl rfl rfl rfl ⟨rfl, rfl, rfl, rfl, rfl⟩ rfl rfl rfl rfl rfl (by kernel_rfl) Try.func8 (by kernel_rfl)
    (of_decide_eq_true (by kernel_rfl)) (by unfold Func.isWrapper; first | (rw [if_pos (by decide +kernel)]; kernel_rfl) | (rw [if_neg (by decide +kernel)]; exact ⟨rfl, rfl⟩))
    (fun os started H enc _ => sets_lifted os started H enc)

theorem shadowSets_proved : Rows.ShadowSetsSaid := sets_over
#print axioms shadowSets_proved
end Go.Proofs.Ytkfncibmfcdokaa
