/- The law ShadowMakes (any number of pages): true. -/
import Derived.Test.YtkfncibmfcdokaaXStepS
import Derived.Test.YtkfncibmfcdokaaXShNil
import Derived.Test.YtkfncibmfcdokaaXHmakes
set_option linter.unusedVariables false
set_option linter.unusedSimpArgs false
set_option maxRecDepth 100000
namespace Go.Proofs.Ytkfncibmfcdokaa
open Go Go.RowKit Go.X Go.XR Go.ChangeShapes Go.WideShapes Go.ChangeAt

theorem makes_walk {w : World} {pages : Int} : Calls Try.prog 13 #[.int .i64 pages] w fun e w' => ∃ r : Bool, e = .returned (.bool r) ∧ (r = true ∧ Chg [] w w') := by
  refine go_pomanderlaw03_ShadowMakes _ _ _ ?_
  unfold W_pomanderlaw03_ShadowMakes
  rintro b1 w1 ⟨i1, i2⟩ c1
  refine (shadow_new w1 pages).mono ?_
  rintro _ w2 ⟨r2, r3, rfl, c2, hnew⟩
  have s2 := c2.size
  refine ⟨_, _, rfl, Same.chg c2 (by simp; omega), ?_⟩
  refine (nil_get w2 0).mono ?_
  rintro _ w3 ⟨r4, _, rfl, rfl, c3⟩
  have s3 := c3.size
  refine ⟨_, _, rfl, Same.chg c3 (by simp; omega), ?_⟩
  refine (nil_union w3 0 0).mono ?_
  rintro _ w4 ⟨r6, _, rfl, rfl, c4⟩
  have s4 := c4.size
  refine ⟨_, _, rfl, Same.chg c4 (by simp; omega), ?_⟩
  refine (nil_all w4).mono ?_
  rintro _ w5 ⟨_, rfl, cb, rfl, _, c5⟩
  have s5 := c5.size
  refine ⟨_, rfl, Same.chg c5 (by simp; omega), false, fun w => func_ne_nil _ _ _ _ w, fun h => by simp at h, fun _ => ?_⟩
  refine (nil_all w5).mono ?_
  rintro _ w7 ⟨_, rfl, cb', rfl, hcb, c7⟩
  have s7 := c7.size
  have hlcb := lt_of_heap hcb
  have c27 : Chg [] w2 w7 := ((c3.trans0 c4).trans0 c5).trans0 c7
  have c07 : Chg [] w w7 := (c1.trans0 c2).trans0 c27
  have s07 := c07.size
  refine ⟨_, rfl, Same.chg c7 (by simp; omega), _, _, _, isFn93 cb', nil_iterates hcb, by simp; exact hlcb, fun O pre w' => Chg [] w2 w' ∧ w7.heap.size ≤ w'.heap.size, fun _ _ _ _ => False, ?_, ?_, ?_, ?_, ?_, ?_⟩
  · rintro pre O O' A B ⟨k1, k2⟩ hO hc hO' hg
    have := hc.size
    exact ⟨k1.trans hc (fun i hi hlt => by have := (hO i hi).1; omega), by omega⟩
  · rintro _ _ _ _ _ _ hf; exact hf.elim
  · intro O w8 c8 hO
    exact ⟨c27.trans0 c8, c8.size⟩
  · rintro l1 O pre x1 x2 w8 hO hl hsp
    simp at hsp
  · rintro d1 O xs w11 hO hd hxs ⟨c11, s11⟩
    have hd' := hO d1 hd
    have N : ∀ {A B : World}, w11.heap.size ≤ A.heap.size → Chg [] A B → Same A B [b1, d1] := fun h hc => Same.chg hc (by simp; omega)
    have fin : ∀ {A B C : World}, Chg [] w2 A → w11.heap.size ≤ A.heap.size → Chg [b1] A B → Chg [d1] B C → Chg [] w C := fun h1 h2 h3 h4 =>
      (((c1.trans0 c2).trans0 h1).trans h3 (fun i hi hlt => by simp at hi; omega)).trans h4 (fun i hi hlt => by simp at hi; omega)
    refine (num44 w11 1).mono ?_
    rintro _ w12 ⟨_, rfl, rfl, hw⟩
    subst w12
    refine ⟨_, rfl, Same.refl _ _, fun b w' => b = false ∧ Chg [] w2 w' ∧ w11.heap.size ≤ w'.heap.size, ?_, fun _ => ?_, fun h => by simp at h⟩
    rotate_left
    · refine (num44 w11 1).mono ?_
      rintro _ w12 ⟨_, rfl, rfl, hw⟩
      subst w12
      exact ⟨_, rfl, Same.refl _ _, by simp, c11, Nat.le_refl _⟩
    rintro _ w13 ⟨rfl, c13, s13⟩
    refine ⟨fun b w' => b = false ∧ Chg [] w2 w' ∧ w11.heap.size ≤ w'.heap.size, ?_, fun _ => ?_, fun h => by simp at h⟩
    rotate_left
    · refine (nil_set w13 0 0).mono ?_
      rintro _ w16 ⟨_, rfl, rfl, c16⟩
      have := c16.size
      refine ⟨_, rfl, N s13 c16, ?_⟩
      refine (num44 w16 1).mono ?_
      rintro _ w17 ⟨_, rfl, rfl, hw⟩
      subst w17
      exact ⟨_, rfl, Same.refl _ _, by simp, c13.trans0 c16, by omega⟩
    rintro _ w15 ⟨rfl, c15, s15⟩
    refine ⟨fun b w' => b = false ∧ Chg [] w2 w' ∧ w11.heap.size ≤ w'.heap.size, ?_, fun _ => ?_, fun h => by simp at h⟩
    rotate_left
    · refine (nil_fill w15 0 0 0).mono ?_
      rintro _ w19 ⟨_, rfl, rfl, c19⟩
      have := c19.size
      refine ⟨_, rfl, N s15 c19, ?_⟩
      refine (num44 w19 1).mono ?_
      rintro _ w20 ⟨_, rfl, rfl, hw⟩
      subst w20
      exact ⟨_, rfl, Same.refl _ _, by simp, c15.trans0 c19, by omega⟩
    rintro _ w18 ⟨rfl, c18, s18⟩
    refine ⟨fun b w' => b = false ∧ Chg [] w2 w' ∧ w11.heap.size ≤ w'.heap.size, ?_, fun _ => ?_, fun h => by simp at h⟩
    rotate_left
    · refine (nil_size w18).mono ?_
      rintro _ w22 ⟨_, rfl, rfl, hw⟩
      subst w22
      exact ⟨_, rfl, Same.refl _ _, by simp, c18, s18⟩
    rintro _ w21 ⟨rfl, c21, s21⟩
    refine ⟨fun b w' => b = false ∧ Chg [] w2 w' ∧ w11.heap.size ≤ w'.heap.size, ?_, fun _ => ?_, fun h => by simp at h⟩
    rotate_left
    · refine (nil_pages w21).mono ?_
      rintro _ w22 ⟨_, rfl, rfl, hw⟩
      subst w22
      exact ⟨_, rfl, Same.refl _ _, by simp, c21, s21⟩
    rintro _ w23 ⟨rfl, c23, s23⟩
    refine ⟨fun b w' => b = false ∧ Chg [] w2 w' ∧ w11.heap.size ≤ w'.heap.size, ?_, fun _ => ?_, fun h => by simp at h⟩
    rotate_left
    · refine (nil_private w23 0).mono ?_
      rintro _ w24 ⟨_, rfl, rfl, hw⟩
      subst w24
      exact ⟨_, rfl, Same.refl _ _, by simp, c23, s23⟩
    rintro _ w25 ⟨rfl, c25, s25⟩
    refine ⟨fun b w' => b = false ∧ Chg [] w2 w' ∧ w11.heap.size ≤ w'.heap.size, ?_, fun _ => ?_, fun h => by simp at h⟩
    rotate_left
    · refine (nil_copy w25).mono ?_
      rintro _ w26 ⟨_, rfl, rfl, hw⟩
      subst w26
      exact ⟨_, rfl, Same.refl _ _, by simp, c25, s25⟩
    rintro _ w27 ⟨rfl, c27, s27⟩
    refine ⟨fun b w' => b = false ∧ Chg [] w2 w' ∧ w11.heap.size ≤ w'.heap.size, ?_, fun _ => ?_, fun h => by simp at h⟩
    rotate_left
    · refine (nil_same w27).mono ?_
      rintro _ w28 ⟨_, rfl, rfl, hw⟩
      subst w28
      exact ⟨_, rfl, Same.refl _ _, by simp, c27, s27⟩
    rintro _ w29 ⟨rfl, c29, s29⟩
    refine ⟨fun b w' => b = false ∧ Chg [] w2 w' ∧ w11.heap.size ≤ w'.heap.size, ?_, fun _ => ?_, fun h => by simp at h⟩
    rotate_left
    · refine ⟨fun b w' => b = false ∧ Chg [] w2 w' ∧ w11.heap.size ≤ w'.heap.size, fun _ _ h => h, fun hs => ?_, fun _ => ⟨rfl, c29, s29⟩⟩
      by_cases hp : 1 ≤ pages ∧ pages ≤ 32
      · rw [if_pos hp] at hnew
        obtain ⟨rfl, b, fp, rfl, hS, hf⟩ := hnew
        refine (nil_same_r (hS.chg c29 (by simp))).mono ?_
        rintro _ w33 ⟨_, rfl, rfl, hw⟩
        subst w33
        refine ⟨_, rfl, Same.refl _ _, fun b w' => b = false ∧ Chg [] w2 w' ∧ w11.heap.size ≤ w'.heap.size, fun _ _ h => h, fun _ => ?_, fun h => by simp at h⟩
        refine (nil_same_l (hS.chg c29 (by simp))).mono ?_
        rintro _ w33 ⟨_, rfl, rfl, hw⟩
        subst w33
        exact ⟨_, rfl, Same.refl _ _, rfl, c29, s29⟩
      · rw [if_neg hp] at hnew
        rw [hnew.1] at hs; simp at hs
    rintro _ w31 ⟨rfl, c31, s31⟩
    refine ⟨fun h => by simp at h, fun _ => ⟨fun hp => ?_, fun hp => ?_⟩⟩
    · have hp' : ¬ (1 ≤ pages ∧ pages ≤ 32) := by simp at hp; omega
      rw [if_neg hp'] at hnew
      obtain ⟨rfl, rfl⟩ := hnew
      refine ⟨fun b w' => b = true ∧ w' = w31, ?_, fun _ => ?_, fun h => by simp at h⟩
      · rintro _ w38 ⟨rfl, hw⟩
        subst w38
        refine ⟨fun b w' => b = true ∧ Chg [] w2 w' ∧ w11.heap.size ≤ w'.heap.size, ?_, fun _ => ?_, fun h => by simp at h⟩
        · rintro _ w40 ⟨rfl, c40, s40⟩ w42 c42 w43 c43
          exact ⟨rfl, fin c40 s40 c42 c43⟩
        · refine (works_true w31).mono ?_
          rintro _ w41 ⟨_, rfl, rfl, c41⟩
          have := c41.size
          exact ⟨_, rfl, N s31 c41, rfl, c31.trans0 c41, by omega⟩
      · refine (num44 w31 2).mono ?_
        rintro _ w39 ⟨_, rfl, rfl, hw⟩
        subst w39
        exact ⟨_, rfl, Same.refl _ _, by simp, rfl⟩
    · have hp' : 1 ≤ pages ∧ pages ≤ 32 := by simp at hp; omega
      rw [if_pos hp'] at hnew
      obtain ⟨rfl, b, fp, rfl, hS, hf⟩ := hnew
      refine (num44 w31 0).mono ?_
      rintro _ w44 ⟨_, rfl, rfl, hw⟩
      subst w44
      refine ⟨_, rfl, Same.refl _ _, fun b w' => b = true ∧ Chg [] w2 w' ∧ w11.heap.size ≤ w'.heap.size, ?_, fun _ => ?_, fun h => by simp at h⟩
      · rintro _ w45 ⟨rfl, c45, s45⟩
        refine ⟨fun b w' => b = true ∧ Chg [] w2 w' ∧ w11.heap.size ≤ w'.heap.size, ?_, fun _ => ?_, fun h => by simp at h⟩
        · rintro _ w40 ⟨rfl, c40, s40⟩ w42 c42 w43 c43
          exact ⟨rfl, fin c40 s40 c42 c43⟩
        · refine (works_true w45).mono ?_
          rintro _ w41 ⟨_, rfl, rfl, c41⟩
          have := c41.size
          exact ⟨_, rfl, N s45 c41, rfl, c45.trans0 c41, by omega⟩
      · refine (r3_new w31 pages).mono ?_
        rintro _ w46 ⟨l, ln, lc, rfl, c46, hr⟩
        rw [if_pos hp'] at hr
        have s46 := c46.size
        refine ⟨_, _, _, rfl, N s31 c46, ?_⟩
        refine (is_true ((hS.chg c31 (by simp)).chg c46 (by simp)) hr.2.1 hr.1).mono ?_
        rintro _ w47 ⟨_, rfl, rfl, c47⟩
        have := c47.size
        exact ⟨_, rfl, N (by omega) c47, rfl, (c31.trans0 c46).trans0 c47, by omega⟩
  · rintro _ _ _ _ _ _ _ _ hf; exact hf.elim

theorem makes_lifted (os : Os) (started : os.Started) (H : Type) (enc : TypeId × Value → H) :
    ReturnsInHanded {} Try.checked os 13 .any (Rows.shadowMakesSpec.pre6 enc Try.prog Try.f13 Rows.shadowMakesRow.domain false) (Rows.shadowMakesSpec.post enc Try.prog Try.f13 false true false false) := by
  refine returnsInHanded_of_change (C := Try.checked) ownX started (by kernel_rfl) Try.func13
    (ChangeSpec.witness6 (enc := enc) (C := Try.checked) false ⟨#[], #[.int .i64 0], []⟩ 8 (by kernel_rfl) (by kernel_rfl) (by kernel_rfl) (by kernel_rfl)) ?_
  intro W base args ds gs before hval0 hW hcnd _
  have hval : ∀ (j : Nat) t v, Try.f13.params[j]? = some t → args[j]? = some v → Value.okWide Try.prog W .any base t v := hval0
  have hW' := hW
  obtain ⟨p, q, hA0, hV, rfl, hfz, hnd⟩ := hW
  have hA : DataW.TrodAll enc Try.prog W 0 (fun _ => true) true Try.f13.params.toList args.toList ds p := hA0
  rw [Try.params13] at hA hval
  have hAll := hA
  obtain ⟨v0, vs0, d0, ds0, p0, q0, hargs, rfl, rfl, h0, r0⟩ := trodAll_cons hA
  obtain ⟨rfl, rfl, rfl⟩ := trodAll_nil r0
  obtain rfl : args = #[v0] := by cases args; simp_all
  obtain ⟨rfl, rfl⟩ := trodVars_none hV
  have hblt : ∀ x ∈ p0 ++ [], x.block < W.heap.size := fun x hx => hW'.lt x (by simpa using hx)
  obtain ⟨a0, rfl, rfl, rfl, w0⟩ := open_int un3 (hval 0 3 v0 rfl rfl) h0
  clear hA0 hval0
  refine (makes_walk).mono fun e W' ⟨r, he, hr, hc⟩ => ?_
  subst he hr
  have bel := hc.below
  exact ⟨_, rfl, _, _, _, [], _, [], hW', trodAll_mk1 (shut_bool (by kernel_rfl) _), all_below laidOutX bel _ _ _ _ (fun t ht => by
    simp at ht
    subst ht; exact ⟨by kernel_rfl, of_decide_eq_true (by kernel_rfl)⟩) hAll (fun x hx => hblt x (by simp at hx)), rfl, bel.frame _, fun h => by cases h⟩

theorem makes_over : Rows.shadowMakesRow.holds Try.pinned (OpenSpec.ofChange Rows.shadowMakesSpec) :=
  OpenClaim.holds_of_wide 13 Try.f13 rfl rfl rfl rfl rfl rfl rfl ⟨rfl, rfl, rfl, rfl, rfl⟩ rfl rfl rfl rfl rfl (by kernel_rfl) Try.func13 (by kernel_rfl)
    (of_decide_eq_true (by kernel_rfl)) (by unfold Func.isWrapper; first | (rw [if_pos (by decide +kernel)]; kernel_rfl) | (rw [if_neg (by decide +kernel)]; exact ⟨rfl, rfl⟩))
    (fun os started H enc _ => makes_lifted os started H enc)

theorem shadowMakes_proved : Rows.ShadowMakesSaid := makes_over
#print axioms shadowMakes_proved
end Go.Proofs.Ytkfncibmfcdokaa
