/- PolicyNil: a policy, a flow that is not there answers ErrNil. -/
import Derived.Test.YtkfncibmfcdokaaXPol2
import Derived.Test.YtkfncibmfcdokaaXStep
import Derived.Test.YtkfncibmfcdokaaXFnil
import Derived.Test.YtkfncibmfcdokaaXEq66
set_option linter.unusedVariables false
set_option linter.unusedSimpArgs false
set_option maxRecDepth 100000
namespace Go.Proofs.Ytkfncibmfcdokaa
open Go Go.RowKit Go.X Go.ChangeShapes Go.WideShapes Go.ChangeAt

/-- There is no policy there. -/
def NoPol (w : World) (p : Option Addr) : Prop := p = none ∨ ∃ b, p = some ⟨b, 0, none⟩ ∧ w.cell? ⟨b, 11, none⟩ = some (.bool false)
theorem NoPol.chg {w w' : World} {p : Option Addr} (h : NoPol w p) (hc : Chg [] w w') : NoPol w' p := by
  rcases h with h | ⟨b, h1, h2⟩
  · exact .inl h
  · exact .inr ⟨b, h1, hc.cell (by simp) h2⟩
theorem nopol_none {w : World} {p : Option Addr} (h : NoPol w p) : Calls Try.prog 64 #[.pointer p] w fun e w' => ∃ r1 : Bool, e = .returned (.bool r1) ∧ (r1 = true ∧ w' = w) := by
  refine ok_policy_Policy_none _ _ _ ?_
  unfold V_policy_Policy_none
  rcases h with rfl | ⟨b, rfl, h2⟩
  · exact ⟨_, fun b w h => h, fun h => by simp at h, fun _ => ⟨rfl, rfl⟩⟩
  · exact ⟨_, fun b w h => h, fun _ => ⟨_, rfl, false, by rw [add_at]; exact h2, rfl, rfl⟩, fun h => by simp at h⟩
theorem nopol_stops {w : World} {p : Option Addr} (h : NoPol w p) (f l : Option Addr) (n c : Nat) : Calls Try.prog 21 #[.pointer p, .pointer f, .slice l n c] w fun e w' => ∃ (r1 : Bool) (r2 : Int), e = .returned (.tuple #[.bool r1, .int .i64 r2]) ∧ (r2 = 1 ∧ w' = w) := by
  refine ok_policy_Policy_Stops _ _ _ _ _ _ _ ?_
  unfold V_policy_Policy_Stops
  refine (nopol_none h).mono ?_
  rintro _ w1 ⟨_, rfl, rfl, hw⟩
  subst w1
  exact ⟨_, rfl, fun _ => ⟨rfl, rfl⟩, fun h => by simp at h⟩
theorem nopol_alerts {w : World} {p : Option Addr} (h : NoPol w p) (f l : Option Addr) (n c : Nat) : Calls Try.prog 39 #[.pointer p, .pointer f, .slice l n c] w fun e w' => ∃ (r1 : Option Addr) (r1n : Nat) (r1c : Nat) (r2 : Int), e = .returned (.tuple #[.slice r1 r1n r1c, .int .i64 r2]) ∧ (r2 = 1 ∧ w' = w) := by
  refine ok_policy_Policy_Alerts _ _ _ _ _ _ _ ?_
  unfold V_policy_Policy_Alerts
  refine (nopol_none h).mono ?_
  rintro _ w1 ⟨_, rfl, rfl, hw⟩
  subst w1
  exact ⟨_, rfl, fun _ => ⟨rfl, rfl⟩, fun h => by simp at h⟩
theorem nopol_source {w : World} {p : Option Addr} (h : NoPol w p) (s n : Int) : Calls Try.prog 33 #[.pointer p, .int .i64 s, .int .u32 n] w fun e w' => ∃ r1 : Int, e = .returned (.int .i64 r1) ∧ (r1 = 1 ∧ w' = w) := by
  refine ok_policy_Policy_Source _ _ _ _ _ ?_
  unfold V_policy_Policy_Source
  refine (nopol_none h).mono ?_
  rintro _ w1 ⟨_, rfl, rfl, hw⟩
  subst w1
  exact ⟨_, rfl, fun _ => ⟨rfl, rfl⟩, fun h => by simp at h⟩
theorem nopol_sink {w : World} {p : Option Addr} (h : NoPol w p) (s n : Int) : Calls Try.prog 34 #[.pointer p, .int .i64 s, .int .u32 n] w fun e w' => ∃ r1 : Int, e = .returned (.int .i64 r1) ∧ (r1 = 1 ∧ w' = w) := by
  refine ok_policy_Policy_Sink _ _ _ _ _ ?_
  unfold V_policy_Policy_Sink
  refine (nopol_none h).mono ?_
  rintro _ w1 ⟨_, rfl, rfl, hw⟩
  subst w1
  exact ⟨_, rfl, fun _ => ⟨rfl, rfl⟩, fun h => by simp at h⟩
theorem nopol_strict {w : World} {p : Option Addr} (h : NoPol w p) (n : Int) : Calls Try.prog 22 #[.pointer p, .int .u32 n] w fun e w' => ∃ r1 : Int, e = .returned (.int .i64 r1) ∧ (r1 = 1 ∧ w' = w) := by
  refine ok_policy_Policy_Strict _ _ _ _ ?_
  unfold V_policy_Policy_Strict
  refine (nopol_none h).mono ?_
  rintro _ w1 ⟨_, rfl, rfl, hw⟩
  subst w1
  exact ⟨_, rfl, fun _ => ⟨rfl, rfl⟩, fun h => by simp at h⟩
theorem nopol_copy {w : World} {p : Option Addr} (h : NoPol w p) : Calls Try.prog 32 #[.pointer p] w fun e w' => ∃ r1 : Option Addr, e = .returned (.pointer r1) ∧ (r1 = none ∧ w' = w) := by
  refine ok_policy_Policy_Copy _ _ _ ?_
  unfold V_policy_Policy_Copy
  refine (nopol_none h).mono ?_
  rintro _ w1 ⟨_, rfl, rfl, hw⟩
  subst w1
  exact ⟨_, rfl, fun _ => ⟨rfl, rfl⟩, fun h => by simp at h⟩
theorem nopol_rules {w : World} {p : Option Addr} (h : NoPol w p) : Calls Try.prog 35 #[.pointer p] w fun e w' => ∃ (r1 : Int) (r2 : Int) (r3 : Int) (r4 : Int) (r5 : Int) (r6 : Int) (r7 : Int) (r8 : Int) (r9 : Int) (r10 : Int) (r11 : Int), e = .returned (.agg #[.int .u32 r1, .int .u32 r2, .int .u32 r3, .int .u32 r4, .int .u32 r5, .int .u32 r6, .int .u32 r7, .int .u32 r8, .int .u32 r9, .int .u32 r10, .int .u32 r11]) ∧
    (r1 = 0 ∧ r2 = 0 ∧ r3 = 0 ∧ r4 = 0 ∧ r5 = 0 ∧ r6 = 0 ∧ r7 = 0 ∧ r8 = 0 ∧ r9 = 0 ∧ r10 = 0 ∧ r11 = 0 ∧ Chg [] w w') := by
  refine ok_policy_Policy_Rules _ _ _ ?_
  unfold V_policy_Policy_Rules
  refine v_alloc fun b1 w1 e1 h1 c1 => ?_
  refine (nopol_none (h.chg c1)).mono ?_
  rintro _ w2 ⟨_, rfl, rfl, hw⟩
  subst w2
  refine ⟨_, rfl, fun _ => ?_, fun h => by simp at h⟩
  refine v_fill h1 (by rfl) (by rfl) fun w3 h3 c3 _ => ?_
  exact ⟨_, _, _, _, _, _, _, _, _, _, _, cellsAt_of h3, rfl, rfl, rfl, rfl, rfl, rfl, rfl, rfl, rfl, rfl, rfl, c1.trans c3 (fun i hi hlt => by simp at hi; omega)⟩
/-- No flow: what decides is told as ErrNil. -/
theorem noflow_decides {w : World} (l : Option Addr) (n c : Nat) : Calls Try.prog 65 #[.pointer none, .slice l n c] w fun e w' => ∃ (r1 : Int) (r2 : Int), e = .returned (.tuple #[.int .u32 r1, .int .i64 r2]) ∧ (r1 = 0 ∧ r2 = 1 ∧ w' = w) := by
  refine ok_flow_Flow_Decides _ _ _ _ _ _ ?_
  unfold V_flow_Flow_Decides
  have hn : Calls Try.prog 73 #[.pointer none] w fun e w' => ∃ r : Bool, e = .returned (.bool r) ∧ (r = true ∧ w' = w) := by
    refine ok_flow_Flow_none _ _ _ ?_
    unfold V_flow_Flow_none
    exact ⟨_, fun b w h => h, fun h => by simp at h, fun _ => ⟨rfl, rfl⟩⟩
  refine hn.mono ?_
  rintro _ w1 ⟨_, rfl, rfl, hw⟩
  subst w1
  exact ⟨_, rfl, fun _ => ⟨rfl, rfl, rfl⟩, fun h => by simp at h⟩
theorem noflow_stops {w : World} {b : Nat} {r : List Int} (h : PolAt w b r) (l : Option Addr) (n c : Nat) : Calls Try.prog 21 #[.pointer (some ⟨b, 0, none⟩), .pointer none, .slice l n c] w fun e w' => ∃ (r1 : Bool) (r2 : Int), e = .returned (.tuple #[.bool r1, .int .i64 r2]) ∧ (r2 = 1 ∧ w' = w) := by
  refine ok_policy_Policy_Stops _ _ _ _ _ _ _ ?_
  unfold V_policy_Policy_Stops
  refine (pol_none h).mono ?_
  rintro _ w1 ⟨_, rfl, rfl, hw⟩
  subst w1
  refine ⟨_, rfl, fun h => by simp at h, fun _ => ?_⟩
  refine (noflow_decides l n c).mono ?_
  rintro _ w2 ⟨r4, r5, rfl, rfl, rfl, hw⟩
  subst w2
  obtain ⟨st, hst⟩ := get_of (l := r) (j := 10) (by rw [h.length]; omega)
  exact ⟨_, _, rfl, _, rfl, st, by rw [add_at]; exact h.at (by simpa using hst), rfl, rfl⟩
theorem noflow_alerts {w : World} {b : Nat} {r : List Int} (h : PolAt w b r) (l : Option Addr) (n c : Nat) : Calls Try.prog 39 #[.pointer (some ⟨b, 0, none⟩), .pointer none, .slice l n c] w fun e w' => ∃ (r1 : Option Addr) (r1n : Nat) (r1c : Nat) (r2 : Int), e = .returned (.tuple #[.slice r1 r1n r1c, .int .i64 r2]) ∧ (r2 = 1 ∧ w' = w) := by
  refine ok_policy_Policy_Alerts _ _ _ _ _ _ _ ?_
  unfold V_policy_Policy_Alerts
  refine (pol_none h).mono ?_
  rintro _ w1 ⟨_, rfl, rfl, hw⟩
  subst w1
  refine ⟨_, rfl, fun h => by simp at h, fun _ => ?_⟩
  refine (noflow_decides l n c).mono ?_
  rintro _ w2 ⟨r4, r5, rfl, rfl, rfl, hw⟩
  subst w2
  exact ⟨_, _, rfl, fun _ => ⟨rfl, rfl⟩, fun h => by simp at h⟩
theorem nil_walk {w : World} {S : Nat → Prop} {l1 : Option Addr} {ln lc : Nat} {ts : List Tch} {set : Int} (ht : TouchesAt w S l1 ln ts) (hln : ln ≤ maxLen) (h1 : 0 ≤ set) :
    Calls Try.prog 7 #[.int .u32 set, .slice l1 ln lc] w fun e w' => ∃ r : Bool, e = .returned (.bool r) ∧ (r = true ∧ Chg [] w w') := by
  refine ok_pomanderlaw13_PolicyNil _ _ _ _ _ _ ?_
  unfold V_pomanderlaw13_PolicyNil
  refine (broad_ok ht hln (by simp [maxLen])).mono ?_
  rintro _ w1 ⟨_, rfl, rfl, hw⟩
  subst w1
  refine ⟨_, rfl, fun _ => ?_, fun _ => ?_⟩
  · refine (known_true w).mono ?_
    rintro _ w5 ⟨_, rfl, rfl, c5⟩
    exact ⟨_, rfl, rfl, c5⟩
  refine v_alloc fun b1 w3 e3 h3 c3 => ?_
  have hz3 : NoPol w3 (some ⟨b1, 0, none⟩) := .inr ⟨b1, rfl, by rw [cell_of h3]; rfl⟩
  refine (flow_new w3 1 1 1).mono ?_
  rintro _ w4 ⟨r4, r5, rfl, c4, _⟩
  refine ⟨_, _, rfl, ?_⟩
  refine (nopol_stops (.inl rfl) _ _ _ _).mono ?_
  rintro _ w5 ⟨r6, r7, rfl, rfl, hw⟩
  subst w5
  refine ⟨_, _, rfl, ?_⟩
  refine (nopol_alerts (hz3.chg c4) _ _ _ _).mono ?_
  rintro _ w6 ⟨r8, r8n, r8c, r9, rfl, rfl, hw⟩
  subst w6
  refine ⟨_, _, _, _, rfl, ?_⟩
  refine (pol_new w4).mono ?_
  rintro _ w7 ⟨_, rfl, b, rfl, hP, c7, hb⟩
  refine ⟨_, rfl, ?_⟩
  refine (noflow_stops hP _ _ _).mono ?_
  rintro _ w8 ⟨r11, r12, rfl, rfl, hw⟩
  subst w8
  refine ⟨_, _, rfl, ?_⟩
  refine (pol_new w7).mono ?_
  rintro _ w9 ⟨_, rfl, b', rfl, hP', c9, hb'⟩
  refine ⟨_, rfl, ?_⟩
  refine (noflow_alerts hP' _ _ _).mono ?_
  rintro _ w10 ⟨r14, r14n, r14c, r15, rfl, rfl, hw⟩
  subst w10
  refine ⟨_, _, _, _, rfl, ?_⟩
  have c39 : Chg [] w3 w9 := (c4.trans0 c7).trans0 c9
  have c09 := c3.trans0 c39
  have hz := hz3.chg c39
  refine (nopol_source (.inl rfl) _ _).mono ?_
  rintro _ w11 ⟨r16, rfl, rfl, hw⟩
  subst w11
  refine ⟨_, rfl, fun b w' => b = true ∧ w' = w9, ?_, fun _ => ?_, fun h => by simp at h⟩
  rotate_left
  · refine (nopol_sink hz _ _).mono ?_
    rintro _ w13 ⟨r17, rfl, rfl, hw⟩
    exact ⟨_, rfl, rfl, hw⟩
  rintro _ w12 ⟨rfl, hw⟩
  subst w12
  refine ⟨fun b w' => b = true ∧ w' = w9, ?_, fun _ => ?_, fun h => by simp at h⟩
  rotate_left
  · refine (nopol_strict (.inl rfl) _).mono ?_
    rintro _ w13 ⟨r17, rfl, rfl, hw⟩
    exact ⟨_, rfl, rfl, hw⟩
  rintro _ w14 ⟨rfl, hw⟩
  subst w14
  refine ⟨fun b w' => b = true ∧ Chg [] w w', ?_, fun _ => ?_, fun h => by simp at h⟩
  rotate_left
  · refine (nopol_rules hz).mono ?_
    rintro _ w17 ⟨r19, r20, r21, r22, r23, r24, r25, r26, r27, r28, r29, rfl, rfl, rfl, rfl, rfl, rfl, rfl, rfl, rfl, rfl, rfl, rfl, c17⟩
    exact ⟨_, _, _, _, _, _, _, _, _, _, _, rfl, true, fun w => eq66 _ _ w 0 0 0 0 0 0 0 0 0 0 0 0 0 0 0 0 0 0 0 0 0 0, rfl, c09.trans0 c17⟩
  rintro _ w16 ⟨rfl, c16⟩
  refine ⟨fun b w' => b = true ∧ Chg [] w w', ?_, fun _ => ?_, fun h => by simp at h⟩
  rotate_left
  · refine (nopol_copy (.inl rfl)).mono ?_
    rintro _ w19 ⟨r30, rfl, rfl, hw⟩
    exact ⟨_, rfl, rfl, hw ▸ c16⟩
  rintro _ w18 ⟨rfl, c18⟩
  refine ⟨_, fun b w h => h, fun _ => ?_, fun h => by simp at h⟩
  refine (known_true w18).mono ?_
  rintro _ w21 ⟨_, rfl, rfl, c21⟩
  exact ⟨_, rfl, rfl, c18.trans0 c21⟩

theorem nil_lifted (os : Os) (started : os.Started) (H : Type) (enc : TypeId × Value → H) :
    ReturnsInHanded {} Try.checked os 7 .any (Rows.policyNilSpec.pre6 enc Try.prog Try.f7 Rows.policyNilRow.domain false) (Rows.policyNilSpec.post enc Try.prog Try.f7 false true false false) := by
  refine returnsInHanded_of_change (C := Try.checked) ownX started (by kernel_rfl) Try.func7
    (ChangeSpec.witness6 (enc := enc) (C := Try.checked) false ⟨#[], #[.int .u32 0, .slice none 0 0], []⟩ 8 (by kernel_rfl) (by kernel_rfl) (by kernel_rfl) (by kernel_rfl)) ?_
  intro W base args ds gs before hval0 hW hcnd _
  have hval : ∀ (j : Nat) t v, Try.f7.params[j]? = some t → args[j]? = some v → Value.okWide Try.prog W .any base t v := hval0
  have hW' := hW
  obtain ⟨p, q, hA0, hV, rfl, hfz, hnd⟩ := hW
  have hA : DataW.TrodAll enc Try.prog W 0 (fun _ => true) true Try.f7.params.toList args.toList ds p := hA0
  rw [Try.params7] at hA hval
  have hAll := hA
  obtain ⟨v0, vs0, d0, ds0, p0, q0, hargs, rfl, rfl, h0, r0⟩ := trodAll_cons hA
  obtain ⟨v1, vs1, d1, ds1, p1, q1, rfl, rfl, rfl, h1, r1⟩ := trodAll_cons r0
  obtain ⟨rfl, rfl, rfl⟩ := trodAll_nil r1
  obtain rfl : args = #[v0, v1] := by cases args; simp_all
  obtain ⟨rfl, rfl⟩ := trodVars_none hV
  have hblt : ∀ x ∈ p0 ++ (p1 ++ []), x.block < W.heap.size := fun x hx => hW'.lt x (by simpa using hx)
  obtain ⟨a0, rfl, rfl, rfl, w0⟩ := open_int un22 (hval 0 22 v0 rfl rfl) h0
  obtain ⟨a1, n1, k1, rfl⟩ := okWide_slice Try.underlying25 (hval 1 25 v1 rfl rfl)
  obtain ⟨f1, g1⟩ := h1
  obtain ⟨q2, m2, c2, ts, hts, hm2, hT, hTin⟩ := open_touches g1
  simp [Value.cells] at hts
  obtain ⟨rfl, rfl, rfl⟩ := hts
  clear hA0 hval0
  refine (nil_walk hT hm2 (wf_u32 w0).1).mono fun e W' ⟨r, he, hr, hc⟩ => ?_
  subst he hr
  have bel := hc.below
  exact ⟨_, rfl, _, _, _, [], _, [], hW', trodAll_mk1 (shut_bool Try.underlying4 _), all_below laidOutX bel _ _ _ _ (fun t ht => by
    simp at ht
    rcases ht with rfl | rfl <;> exact ⟨by kernel_rfl, of_decide_eq_true (by kernel_rfl)⟩) hAll (fun x hx => hblt x (by simpa using hx)), rfl, bel.frame _, fun h => by cases h⟩

theorem nil_over : Rows.policyNilRow.holds Try.pinned (OpenSpec.ofChange Rows.policyNilSpec) :=
  OpenClaim.holds_of_wide 7 Try.f7 rfl rfl rfl rfl rfl rfl rfl ⟨rfl, rfl, rfl, rfl, rfl⟩ rfl rfl rfl rfl rfl (by kernel_rfl) Try.func7 (by kernel_rfl)
    (of_decide_eq_true (by kernel_rfl)) (by unfold Func.isWrapper; first | (rw [if_pos (by decide +kernel)]; kernel_rfl) | (rw [if_neg (by decide +kernel)]; exact ⟨rfl, rfl⟩))
    (fun os started H enc _ => nil_lifted os started H enc)

theorem policyNil_proved : Rows.PolicyNilSaid := nil_over
#print axioms policyNil_proved
end Go.Proofs.Ytkfncibmfcdokaa
