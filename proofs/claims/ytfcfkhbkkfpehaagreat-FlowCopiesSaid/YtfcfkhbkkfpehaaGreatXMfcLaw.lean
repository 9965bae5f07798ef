/- FlowCopies: a copy of a flow goes on apart, as the document's flow does, and behind the same acts is the same. -/
import Derived.Test.YtfcfkhbkkfpehaaGreatXMfc7
set_option linter.unusedVariables false
set_option linter.unusedSimpArgs false
set_option maxRecDepth 100000
namespace Go.Proofs.YtfcfkhbkkfpehaaGreat
open Go Go.RowKit Go.X Go.XR Go.ChangeShapes Go.WideShapes Go.ChangeAt

theorem fcopies_lifted (os : Os) (started : os.Started) (H : Type) (enc : TypeId × Value → H) :
    ReturnsInHanded {} Tryz.checked os 8 .any (Rows.flowCopiesSpec.pre6 enc Tryz.prog Tryz.f8 Rows.flowCopiesRow.domain false) (Rows.flowCopiesSpec.post enc Tryz.prog Tryz.f8 false true false false) := by
  refine returnsInHanded_of_change (C := Tryz.checked) ownX started (by kernel_rfl) Tryz.func8
    (ChangeSpec.witness6 (enc := enc) (C := Tryz.checked) false ⟨#[], #[.slice none 0 0, .slice none 0 0, .int .i64 0], []⟩ 8 (by kernel_rfl) (by kernel_rfl) (by kernel_rfl) (by kernel_rfl)) ?_
  intro W base args ds gs before hval0 hW hcnd _
  have hval : ∀ (j : Nat) t v, Tryz.f8.params[j]? = some t → args[j]? = some v → Value.okWide Tryz.prog W .any base t v := hval0
  have hW' := hW
  obtain ⟨p, q, hA0, hV, rfl, hfz, hnd⟩ := hW
  have hA : DataW.TrodAll enc Tryz.prog W 0 (fun _ => true) true Tryz.f8.params.toList args.toList ds p := hA0
  rw [Tryz.params8] at hA hval
  have hAll := hA
  obtain ⟨v0, vs0, d0, ds0, p0, q0, hargs, rfl, rfl, h0, r0⟩ := trodAll_cons hA
  obtain ⟨v1, vs1, d1, ds1, p1, q1, rfl, rfl, rfl, h1, r1⟩ := trodAll_cons r0
  obtain ⟨v2, vs2, d2, ds2, p2, q2, rfl, rfl, rfl, h2, r2⟩ := trodAll_cons r1
  obtain ⟨rfl, rfl, rfl⟩ := trodAll_nil r2
  obtain rfl : args = #[v0, v1, v2] := by cases args; simp_all
  obtain ⟨rfl, rfl⟩ := trodVars_none hV
  have hblt : ∀ x ∈ p0 ++ (p1 ++ (p2 ++ [])), x.block < W.heap.size := fun x hx => hW'.lt x (by simpa using hx)
  obtain ⟨b0, n0, k0, rfl⟩ := okWide_slice Tryz.underlying69 (hval 0 69 v0 rfl rfl)
  obtain ⟨b1, n1, k1, rfl⟩ := okWide_slice Tryz.underlying69 (hval 1 69 v1 rfl rfl)
  obtain ⟨a2, rfl, rfl, rfl, w2⟩ := open_int un3 (hval 2 3 v2 rfl rfl) h2
  obtain ⟨f0, g0⟩ := h0
  obtain ⟨f1, g1⟩ := h1
  obtain ⟨q0', m0, c0, acts, hms, hm0, hM⟩ := open_acts g0
  simp [Value.cells] at hms
  obtain ⟨rfl, rfl, rfl⟩ := hms
  obtain ⟨q1', m1, c1, acts1, hms1, hm1, hM1⟩ := open_acts g1
  simp [Value.cells] at hms1
  obtain ⟨rfl, rfl, rfl⟩ := hms1
  clear hA0 hval0
  refine (fcopies_walk hM hm0 hM1 hm1 (wf_i64 w2)).mono fun e W' ⟨r, he, hr, hc⟩ => ?_
  subst he hr
  have bel := hc.below
  exact ⟨_, rfl, _, _, _, [], _, [], hW', trodAll_mk1 (shut_bool (by kernel_rfl) _), all_below laidOutX bel _ _ _ _ (fun t ht => by
    simp at ht
    rcases ht with rfl | rfl | rfl <;> exact ⟨by kernel_rfl, of_decide_eq_true (by kernel_rfl)⟩) hAll (fun x hx => hblt x (by simpa using hx)), rfl, bel.frame _, fun h => by cases h⟩

theorem fcopies_over : Rows.flowCopiesRow.holds Tryz.pinned (OpenSpec.ofChange Rows.flowCopiesSpec) :=
  OpenClaim.holds_of_wide 8 Tryz.f8 rfl rfl rfl rfl rfl rfl rfl ⟨rfl, rfl, rfl, rfl, rfl⟩ rfl rfl rfl rfl rfl (by kernel_rfl) Tryz.func8 (by kernel_rfl)
    (of_decide_eq_true (by kernel_rfl)) (by unfold Func.isWrapper; first | (rw [if_pos (by decide +kernel)]; kernel_rfl) | (rw [if_neg (by decide +kernel)]; exact ⟨rfl, rfl⟩))
    (fun os started H enc _ => fcopies_lifted os started H enc)

theorem flowCopies_proved : Rows.FlowCopiesSaid := fcopies_over
#print axioms flowCopies_proved
end Go.Proofs.YtfcfkhbkkfpehaaGreat
