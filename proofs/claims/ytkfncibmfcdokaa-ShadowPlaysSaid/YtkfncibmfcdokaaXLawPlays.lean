/- The law ShadowPlays (any number of pages, any calls): true. -/
import Derived.Test.YtkfncibmfcdokaaXStepS
import Derived.Test.YtkfncibmfcdokaaXHplays
set_option linter.unusedVariables false
set_option linter.unusedSimpArgs false
set_option maxRecDepth 100000
namespace Go.Proofs.Ytkfncibmfcdokaa
open Go Go.RowKit Go.X Go.XR Go.ChangeShapes Go.WideShapes Go.ChangeAt

theorem plays_walk {w : World} {pages : Int} {p : Option Addr} {n c : Nat} {acts : List Act3} (h : Acts3At w p n acts) (hn : n ≤ maxLen) :
    Calls Try.prog 9 #[.int .i64 pages, .slice p n c] w fun e w' => ∃ r : Bool, e = .returned (.bool r) ∧ (r = true ∧ Chg [] w w') := by
  refine go_pomanderlaw03_ShadowPlays _ _ _ _ _ _ ?_
  unfold W_pomanderlaw03_ShadowPlays
  refine ⟨fun _ => works_last (Chg.refl _ _), fun hp => ?_⟩
  simp at hp
  refine (played_true (by omega) (by omega) h hn).mono ?_
  rintro _ w3 ⟨r3, r4, r4n, r4c, _, rfl, rfl, g, fp, hB⟩
  refine ⟨_, _, _, _, _, rfl, fun b1 w' => b1 = true ∧ Chg [] w w', ?_, fun _ => ?_, fun hf => by simp at hf⟩
  · rintro _ w4 ⟨rfl, c4⟩
    exact ⟨fun b2 w' => b2 = true ∧ Chg [] w w', fun b2 w' h => h, fun _ => works_last c4, fun hf => by simp at hf⟩
  · refine (is_both hB).mono ?_
    rintro _ w5 ⟨_, rfl, rfl, c5⟩
    exact ⟨_, rfl, rfl, hB.chg.trans0 c5⟩

theorem plays_lifted (os : Os) (started : os.Started) (H : Type) (enc : TypeId × Value → H) :
    ReturnsInHanded {} Try.checked os 9 .any (Rows.shadowPlaysSpec.pre6 enc Try.prog Try.f9 Rows.shadowPlaysRow.domain false) (Rows.shadowPlaysSpec.post enc Try.prog Try.f9 false true false false) := by
  refine returnsInHanded_of_change (C := Try.checked) ownX started (by kernel_rfl) Try.func9
    (ChangeSpec.witness6 (enc := enc) (C := Try.checked) false ⟨#[], #[.int .i64 0, .slice none 0 0], []⟩ 8 (by kernel_rfl) (by kernel_rfl) (by kernel_rfl) (by kernel_rfl)) ?_
  intro W base args ds gs before hval0 hW hcnd _
  have hval : ∀ (j : Nat) t v, Try.f9.params[j]? = some t → args[j]? = some v → Value.okWide Try.prog W .any base t v := hval0
  have hW' := hW
  obtain ⟨p, q, hA0, hV, rfl, hfz, hnd⟩ := hW
  have hA : DataW.TrodAll enc Try.prog W 0 (fun _ => true) true Try.f9.params.toList args.toList ds p := hA0
  rw [Try.params9] at hA hval
  have hAll := hA
  obtain ⟨v0, vs0, d0, ds0, p0, q0, hargs, rfl, rfl, h0, r0⟩ := trodAll_cons hA
  obtain ⟨v1, vs1, d1, ds1, p1, q1, rfl, rfl, rfl, h1, r1⟩ := trodAll_cons r0
  obtain ⟨rfl, rfl, rfl⟩ := trodAll_nil r1
  obtain rfl : args = #[v0, v1] := by cases args; simp_all
  obtain ⟨rfl, rfl⟩ := trodVars_none hV
  have hblt : ∀ x ∈ p0 ++ (p1 ++ []), x.block < W.heap.size := fun x hx => hW'.lt x (by simpa using hx)
  obtain ⟨a0, rfl, rfl, rfl, w0⟩ := open_int un3 (hval 0 3 v0 rfl rfl) h0
  obtain ⟨b1, n1, k1, rfl⟩ := okWide_slice Try.underlying95 (hval 1 95 v1 rfl rfl)
  obtain ⟨f1, g1⟩ := h1
  obtain ⟨q1, m1, c1, acts, hms, hm1, hM⟩ := open_acts3 g1
  simp [Value.cells] at hms
  obtain ⟨rfl, rfl, rfl⟩ := hms
  clear hA0 hval0
  refine (plays_walk hM hm1).mono fun e W' ⟨r, he, hr, hc⟩ => ?_
  subst he hr
  have bel := hc.below
  exact ⟨_, rfl, _, _, _, [], _, [], hW', trodAll_mk1 (shut_bool (by kernel_rfl) _), all_below laidOutX bel _ _ _ _ (fun t ht => by
    simp at ht
    rcases ht with rfl | rfl <;> exact ⟨by kernel_rfl, of_decide_eq_true (by kernel_rfl)⟩) hAll (fun x hx => hblt x (by simpa using hx)), rfl, bel.frame _, fun h => by cases h⟩

theorem plays_over : Rows.shadowPlaysRow.holds Try.pinned (OpenSpec.ofChange Rows.shadowPlaysSpec) :=
  OpenClaim.holds_of_wide 9 Try.f9 rfl rfl rfl rfl rfl rfl rfl ⟨rfl, rfl, rfl, rfl, rfl⟩ rfl rfl rfl rfl rfl (by kernel_rfl) Try.func9 (by kernel_rfl)
    (of_decide_eq_true (by kernel_rfl)) (by unfold Func.isWrapper; first | (rw [if_pos (by decide +kernel)]; kernel_rfl) | (rw [if_neg (by decide +kernel)]; exact ⟨rfl, rfl⟩))
    (fun os started H enc _ => plays_lifted os started H enc)

theorem shadowPlays_proved : Rows.ShadowPlaysSaid := plays_over
#print axioms shadowPlays_proved
end Go.Proofs.Ytkfncibmfcdokaa
