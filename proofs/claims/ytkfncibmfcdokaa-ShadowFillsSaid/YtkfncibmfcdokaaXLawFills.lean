/- The law ShadowFills (any number of pages, any bytes, any two sets): true. -/
import Derived.Test.YtkfncibmfcdokaaXStepS
import Derived.Test.YtkfncibmfcdokaaXHfills
set_option linter.unusedVariables false
set_option linter.unusedSimpArgs false
set_option maxRecDepth 100000
namespace Go.Proofs.Ytkfncibmfcdokaa
open Go Go.RowKit Go.X Go.XR Go.ChangeShapes Go.WideShapes Go.ChangeAt

theorem fills_walk {w : World} {pages at1 m set other : Int} (ha : -9223372036854775808 ≤ at1 ∧ at1 ≤ 9223372036854775807) (hs : 0 ≤ set) (ho : 0 ≤ other) :
    Calls Try.prog 11 #[.int .i64 pages, .int .i64 at1, .int .i64 m, .int .u32 set, .int .u32 other] w fun e w' => ∃ r : Bool, e = .returned (.bool r) ∧ (r = true ∧ Chg [] w w') := by
  refine go_pomanderlaw03_ShadowFills _ _ _ _ _ _ _ ?_
  unfold W_pomanderlaw03_ShadowFills
  refine ⟨fun _ => works_last (Chg.refl _ _), fun hp => ?_⟩
  simp at hp
  refine v_alloc fun b1 w2 e1 hb1 c2 => ?_
  refine (played_true (by omega) (by omega) (acts_one (a := ⟨1, at1, m, set⟩) hb1 ha hs) (by simp [maxLen])).mono ?_
  rintro _ w3 ⟨r3, r4, r4n, r4c, _, rfl, rfl, g, fp, hB⟩
  refine ⟨_, _, _, _, _, rfl, fun b2 w' => b2 = false ∧ Both w2 w' pages g r3 r4 r4n r4c fp, ?_, fun _ => ?_, fun hf => by simp at hf⟩
  rotate_left
  · refine (is_both hB).mono ?_
    rintro _ w5 ⟨_, rfl, rfl, c5⟩
    exact ⟨_, rfl, rfl, hB.later c5⟩
  rintro _ w4 ⟨rfl, hB4⟩
  refine ⟨fun h => by simp at h, fun _ => ?_⟩
  refine (both_fill hB4 ha ho).mono ?_
  rintro _ w6 ⟨r7, r7n, r7c, r8, rfl, c6, k⟩
  refine ⟨_, _, _, _, rfl, ?_⟩
  refine (k w6 (Chg.refl _ _)).mono ?_
  rintro _ w7 ⟨_, rfl, rfl, fp7, hB7, c7⟩
  refine ⟨_, rfl, ?_⟩
  refine (num44 w7 _).mono ?_
  rintro _ w8 ⟨_, rfl, rfl, hw⟩
  subst w8
  refine ⟨_, rfl, fun b3 w' => b3 = true ∧ Chg [] w w', ?_, fun _ => ?_, fun hf => by simp at hf⟩
  · rintro _ w9 ⟨rfl, c9⟩
    exact ⟨fun b4 w' => b4 = true ∧ Chg [] w w', fun b4 w' h => h, fun _ => works_last c9, fun hf => by simp at hf⟩
  · refine (is_both hB7).mono ?_
    rintro _ w10 ⟨_, rfl, rfl, c10⟩
    exact ⟨_, rfl, rfl, (c2.trans0 hB7.chg).trans0 c10⟩

theorem fills_lifted (os : Os) (started : os.Started) (H : Type) (enc : TypeId × Value → H) :
    ReturnsInHanded {} Try.checked os 11 .any (Rows.shadowFillsSpec.pre6 enc Try.prog Try.f11 Rows.shadowFillsRow.domain false) (Rows.shadowFillsSpec.post enc Try.prog Try.f11 false true false false) := by
  refine returnsInHanded_of_change (C := Try.checked) ownX started (by kernel_rfl) Try.func11
    (ChangeSpec.witness6 (enc := enc) (C := Try.checked) false ⟨#[], #[.int .i64 0, .int .i64 0, .int .i64 0, .int .u32 0, .int .u32 0], []⟩ 8 (by kernel_rfl) (by kernel_rfl) (by kernel_rfl) (by kernel_rfl)) ?_
  intro W base args ds gs before hval0 hW hcnd _
  have hval : ∀ (j : Nat) t v, Try.f11.params[j]? = some t → args[j]? = some v → Value.okWide Try.prog W .any base t v := hval0
  have hW' := hW
  obtain ⟨p, q, hA0, hV, rfl, hfz, hnd⟩ := hW
  have hA : DataW.TrodAll enc Try.prog W 0 (fun _ => true) true Try.f11.params.toList args.toList ds p := hA0
  rw [Try.params11] at hA hval
  have hAll := hA
  obtain ⟨v0, vs0, d0, ds0, p0, q0, hargs, rfl, rfl, h0, r0⟩ := trodAll_cons hA
  obtain ⟨v1, vs1, d1, ds1, p1, q1, rfl, rfl, rfl, h1, r1⟩ := trodAll_cons r0
  obtain ⟨v2, vs2, d2, ds2, p2, q2, rfl, rfl, rfl, h2, r2⟩ := trodAll_cons r1
  obtain ⟨v3, vs3, d3, ds3, p3, q3, rfl, rfl, rfl, h3, r3⟩ := trodAll_cons r2
  obtain ⟨v4, vs4, d4, ds4, p4, q4, rfl, rfl, rfl, h4, r4⟩ := trodAll_cons r3
  obtain ⟨rfl, rfl, rfl⟩ := trodAll_nil r4
  obtain rfl : args = #[v0, v1, v2, v3, v4] := by cases args; simp_all
  obtain ⟨rfl, rfl⟩ := trodVars_none hV
  have hblt : ∀ x ∈ p0 ++ (p1 ++ (p2 ++ (p3 ++ (p4 ++ [])))), x.block < W.heap.size := fun x hx => hW'.lt x (by simpa using hx)
  obtain ⟨a0, rfl, rfl, rfl, w0⟩ := open_int un3 (hval 0 3 v0 rfl rfl) h0
  obtain ⟨a1, rfl, rfl, rfl, w1⟩ := open_int un3 (hval 1 3 v1 rfl rfl) h1
  obtain ⟨a2, rfl, rfl, rfl, w2⟩ := open_int un3 (hval 2 3 v2 rfl rfl) h2
  obtain ⟨a3, rfl, rfl, rfl, w3⟩ := open_int un22 (hval 3 22 v3 rfl rfl) h3
  obtain ⟨a4, rfl, rfl, rfl, w4⟩ := open_int un22 (hval 4 22 v4 rfl rfl) h4
  clear hA0 hval0
  refine (fills_walk (wf_i64 w1) (wf_u32 w3).1 (wf_u32 w4).1).mono fun e W' ⟨r, he, hr, hc⟩ => ?_
  subst he hr
  have bel := hc.below
  exact ⟨_, rfl, _, _, _, [], _, [], hW', trodAll_mk1 (shut_bool (by kernel_rfl) _), all_below laidOutX bel _ _ _ _ (fun t ht => by
    simp at ht
    rcases ht with rfl | rfl | rfl | rfl | rfl <;> exact ⟨by kernel_rfl, of_decide_eq_true (by kernel_rfl)⟩) hAll (fun x hx => hblt x (by simp at hx)), rfl, bel.frame _, fun h => by cases h⟩

theorem fills_over : Rows.shadowFillsRow.holds Try.pinned (OpenSpec.ofChange Rows.shadowFillsSpec) :=
  OpenClaim.holds_of_wide 11 Try.f11 rfl rfl rfl rfl rfl rfl rfl ⟨rfl, rfl, rfl, rfl, rfl⟩ rfl rfl rfl rfl rfl (by kernel_rfl) Try.func11 (by kernel_rfl)
    (of_decide_eq_true (by kernel_rfl)) (by unfold Func.isWrapper; first | (rw [if_pos (by decide +kernel)]; kernel_rfl) | (rw [if_neg (by decide +kernel)]; exact ⟨rfl, rfl⟩))
    (fun os started H enc _ => fills_lifted os started H enc)

theorem shadowFills_proved : Rows.ShadowFillsSaid := fills_over
#print axioms shadowFills_proved
end Go.Proofs.Ytkfncibmfcdokaa
