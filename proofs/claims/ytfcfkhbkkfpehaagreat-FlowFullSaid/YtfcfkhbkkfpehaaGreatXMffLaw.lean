/- FlowFull: sets are full just where a set that is needed is not kept, and as many are as there may be; then no place has another set; pages are as bytes tell. -/
import Derived.Test.YtfcfkhbkkfpehaaGreatXMff5
set_option linter.unusedVariables false
set_option linter.unusedSimpArgs false
set_option maxRecDepth 100000
namespace Go.Proofs.YtfcfkhbkkfpehaaGreat
open Go Go.RowKit Go.X Go.XR Go.ChangeShapes Go.WideShapes Go.ChangeAt

theorem ffull_lifted (os : Os) (started : os.Started) (H : Type) (enc : TypeId × Value → H) :
    ReturnsInHanded {} Tryz.checked os 7 .any (Rows.flowFullSpec.pre6 enc Tryz.prog Tryz.f7 Rows.flowFullRow.domain false) (Rows.flowFullSpec.post enc Tryz.prog Tryz.f7 false true false false) := by
  refine returnsInHanded_of_change (C := Tryz.checked) ownX started (by kernel_rfl) Tryz.func7
    (ChangeSpec.witness6 (enc := enc) (C := Tryz.checked) false ⟨#[], #[.int .i64 0, .slice none 0 0], []⟩ 8 (by kernel_rfl) (by kernel_rfl) (by kernel_rfl) (by kernel_rfl)) ?_
  intro W base args ds gs before hval0 hW hcnd _
  have hval : ∀ (j : Nat) t v, Tryz.f7.params[j]? = some t → args[j]? = some v → Value.okWide Tryz.prog W .any base t v := hval0
  have hW' := hW
  obtain ⟨p, q, hA0, hV, rfl, hfz, hnd⟩ := hW
  have hA : DataW.TrodAll enc Tryz.prog W 0 (fun _ => true) true Tryz.f7.params.toList args.toList ds p := hA0
  rw [Tryz.params7] at hA hval
  have hAll := hA
  obtain ⟨v0, vs0, d0, ds0, p0, q0, hargs, rfl, rfl, h0, r0⟩ := trodAll_cons hA
  obtain ⟨v1, vs1, d1, ds1, p1, q1, rfl, rfl, rfl, h1, r1⟩ := trodAll_cons r0
  obtain ⟨rfl, rfl, rfl⟩ := trodAll_nil r1
  obtain rfl : args = #[v0, v1] := by cases args; simp_all
  obtain ⟨rfl, rfl⟩ := trodVars_none hV
  have hblt : ∀ x ∈ p0 ++ (p1 ++ []), x.block < W.heap.size := fun x hx => hW'.lt x (by simpa using hx)
  obtain ⟨a0, rfl, rfl, rfl, w0⟩ := open_int un3 (hval 0 3 v0 rfl rfl) h0
  obtain ⟨b1, n1, k1, rfl⟩ := okWide_slice Tryz.underlying69 (hval 1 69 v1 rfl rfl)
  obtain ⟨f1, g1⟩ := h1
  obtain ⟨q0', m0, c0, acts, hms, hm0, hM⟩ := open_acts g1
  simp [Value.cells] at hms
  obtain ⟨rfl, rfl, rfl⟩ := hms
  clear hA0 hval0
  refine (ffull_walk hM hm0).mono fun e W' ⟨r, he, hr, hc⟩ => ?_
  subst he hr
  have bel := hc.below
  exact ⟨_, rfl, _, _, _, [], _, [], hW', trodAll_mk1 (shut_bool (by kernel_rfl) _), all_below laidOutX bel _ _ _ _ (fun t ht => by
    simp at ht
    rcases ht with rfl | rfl <;> exact ⟨by kernel_rfl, of_decide_eq_true (by kernel_rfl)⟩) hAll (fun x hx => hblt x (by simpa using hx)), rfl, bel.frame _, fun h => by cases h⟩

theorem ffull_over : Rows.flowFullRow.holds Tryz.pinned (OpenSpec.ofChange Rows.flowFullSpec) :=
  OpenClaim.holds_of_wide 7 Tryz.f7 rfl rfl rfl rfl rfl rfl rfl ⟨rfl, rfl, rfl, rfl, rfl⟩ rfl rfl rfl rfl rfl (by kernel_rfl) Tryz.func7 (by kernel_rfl)
    (of_decide_eq_true (by kernel_rfl)) (by unfold Func.isWrapper; first | (rw [if_pos (by decide +kernel)]; kernel_rfl) | (rw [if_neg (by decide +kernel)]; exact ⟨rfl, rfl⟩))
    (fun os started H enc _ => ffull_lifted os started H enc)

theorem flowFull_proved : Rows.FlowFullSaid := ffull_over
#print axioms flowFull_proved
end Go.Proofs.YtfcfkhbkkfpehaaGreat
