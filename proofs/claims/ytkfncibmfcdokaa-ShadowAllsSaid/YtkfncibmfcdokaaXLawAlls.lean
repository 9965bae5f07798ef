/- The law ShadowAlls (any number of pages, any calls, so many that are gone over): true. -/
import Derived.Test.YtkfncibmfcdokaaXStepS
import Derived.Test.YtkfncibmfcdokaaXSame
import Derived.Test.YtkfncibmfcdokaaXHalls
set_option linter.unusedVariables false
set_option linter.unusedSimpArgs false
set_option maxRecDepth 100000
namespace Go.Proofs.Ytkfncibmfcdokaa
open Go Go.RowKit Go.X Go.XR Go.ChangeShapes Go.WideShapes Go.ChangeAt

def cutG (g : Int → Int) (k : Nat) : Int → Int := fun i => if 0 ≤ i ∧ i < k then g i else 0
theorem cutG_next {g : Int → Int} {k j : Nat} (hk : k ≤ j) (hz : ∀ i : Nat, k ≤ i → i < j → g i = 0) : putG (cutG g k) j (g j) = cutG g (j + 1) := by
  funext i
  unfold putG cutG
  by_cases e : i = j
  · subst e; rw [if_pos rfl, if_pos (by omega)]
  · rw [if_neg e]
    by_cases h : 0 ≤ i ∧ i < k
    · rw [if_pos h, if_pos (by omega)]
    · rw [if_neg h]
      by_cases h' : 0 ≤ i ∧ i < ((j + 1 : Nat) : Int)
      · rw [if_pos h']
        have := hz i.toNat (by omega) (by omega)
        rw [Int.toNat_of_nonneg h'.1] at this; exact this.symm
      · rw [if_neg h']
theorem cutG_all {g : Int → Int} {k n : Nat} (hk : k ≤ n) (hz : ∀ i : Nat, k ≤ i → i < n → g i = 0) (ho : ∀ i : Int, i < 0 ∨ (n : Int) ≤ i → g i = 0) : cutG g k = g := by
  funext i
  unfold cutG
  by_cases h : 0 ≤ i ∧ i < k
  · rw [if_pos h]
  · rw [if_neg h]
    by_cases h' : 0 ≤ i ∧ i < (n : Int)
    · have := hz i.toNat (by omega) (by omega)
      rw [Int.toNat_of_nonneg h'.1] at this; exact this.symm
    · exact (ho i (by omega)).symm
theorem cutG_zero (g : Int → Int) : cutG g 0 = fun _ => 0 := by
  funext i; unfold cutG; rw [if_neg (by omega)]

theorem alls_tail {w w2 w22 : World} {pages : Int} {g : Int → Int} {r3 r4 : Option Addr} {r4n r4c b2 d1 : Nat} {fp : List Nat} (hB : Both w2 w22 pages g r3 r4 r4n r4c fp) (c2 : Chg [] w w2) (hb2 : w.heap.size ≤ b2 ∧ b2 < w2.heap.size) (hd : w2.heap.size ≤ d1 ∧ d1 < w22.heap.size)
    {r5 : Bool} (h5 : r5 = true) (R : Bool → World → Prop) (hR : R = fun r w' => r = true ∧ Chg [] w w') :
    (Calls Try.prog 51 #[.int .i64 pages] w22 fun e w23 => ∃ (r8 : Option Addr) (r9 : Int), e = .returned (.tuple #[.pointer r8, .int .i64 r9]) ∧ (Same w22 w23 [b2, d1] ∧ (∀ (b8 : Nat) (w25 : World), (w23.heap.size ≤ b8 ∧ b8 < w25.heap.size) → Chg [] w23 w25 → (Calls Try.prog 50 #[.pointer r3] w25 fun e w26 => ∃ (r10 : Value), e = .returned (r10) ∧ (Same w25 w26 [b8, b2, d1] ∧ (∃ (S2 Sp2 : List (Int × Int) → Prop) (keep2 : List Nat), XR.IsFn Try.prog r10 ∧ XR.Iterates Try.prog r10 (fun x : Int × Int => #[.int .i64 x.1, .int .u32 x.2]) S2 Sp2 keep2 w26 ∧ (∀ i_ ∈ keep2, i_ < w26.heap.size) ∧ ∃ (I2 : List Nat → List (Int × Int) → World → Prop), (∀ (pre_ : List (Int × Int)), XR.Stab w26 (fun O_ w_ => I2 O_ pre_ w_)) ∧ (∀ (O3 : List Nat) (w27 : World), Chg [] w26 w27 → XR.InO w26 O3 w27 → I2 O3 ([]) w27) ∧ (∀ (l2 : Nat) (O3 : List Nat) (pre2 : List (Int × Int)) (x3 : Int) (x4 : Int) (w27 : World), XR.InO w26 O3 w27 → l2 ∈ O3 → Sp2 (pre2 ++ [(x3, x4)]) → I2 O3 pre2 w27 → (∀ (w28 : World), Chg [l2] w27 w28 → (Calls Try.prog 52 #[.pointer r8, .int .i64 x3, .int .u32 x4] w28 fun e w29 => ∃ (r11 : Int), e = .returned (.int .i64 r11) ∧ (Same w28 w29 [b2, b8, d1] ∧ ((w28.heap.size ≤ w29.heap.size ∧ I2 O3 (pre2 ++ [(x3, x4)]) w29 ∧ Same w28 w29 (keep2 ++ O3))))))) ∧ (∀ (d2 : Nat) (O4 : List Nat) (xs2 : List (Int × Int)) (w30 : World), XR.InO w26 O4 w30 → d2 ∈ O4 → S2 xs2 → I2 O4 xs2 w30 → (∃ J3 : Bool → World → Prop, (∀ (b9 : Bool) (w31 : World), J3 b9 w31 → ∃ J4 : Bool → World → Prop, (∀ (b10 : Bool) (w33 : World), J4 b10 w33 → ∃ J5 : Bool → World → Prop, (∀ (b11 : Bool) (w35 : World), J5 b11 w35 → ∀ (w37 : World), Chg [b2] w35 w37 → (∀ w38 : World, Chg [d2, d1] w37 w38 → (R b11 w38))) ∧ ((b10 = true → Calls Try.prog 40 #[] w33 fun e w36 => ∃ (r14 : Bool), e = .returned (.bool r14) ∧ (Same w33 w36 [b2, d2, d1] ∧ (J5 r14 w36))) ∧ (b10 = false → J5 false w33))) ∧ ((b9 = true → Calls Try.prog 53 #[.pointer r8, .pointer r3] w31 fun e w34 => ∃ (r13 : Bool), e = .returned (.bool r13) ∧ (Same w31 w34 [b2, d2, d1] ∧ (J4 r13 w34))) ∧ (b9 = false → J4 false w31))) ∧ ((r5 = true → Calls Try.prog 44 #[.int .i64 r9] w30 fun e w32 => ∃ (r12 : Int), e = .returned (.int .i64 r12) ∧ (Same w30 w32 [b2, b8, d2, d1] ∧ (J3 (r12 == 0) w32))) ∧ (r5 = false → J3 false w30)))))))))) := by
  subst h5
  obtain ⟨bs, rfl, hS⟩ := hB.shadow
  have hp := hS.pages1
  have hp2 := hS.pages2
  have en : (64 * pages.toNat : Nat) = r4n := by have := hB.len; omega
  have s02 := c2.size
  have s2 := hB.chg.size
  refine (shadow_new w22 pages).mono ?_
  rintro _ w23 ⟨r8, r9, rfl, c23, hn⟩
  rw [if_pos ⟨hp, hp2⟩] at hn
  obtain ⟨rfl, bc, fpc, rfl, hC, hfc⟩ := hn
  have s23 := c23.size
  refine ⟨_, _, rfl, Same.chg c23 (by simp; omega), ?_⟩
  rintro b8 w25 ⟨i8, j8⟩ c25
  have s25 := c25.size
  have c2225 := c23.trans0 c25
  refine (shadow_all (hS.chg c2225 (by simp))).mono ?_
  rintro _ w26 ⟨_, rfl, cb, b', fp', rfl, hcb, hA, c26, hnew⟩
  have s26 := c26.size
  have hlA := hA.lt
  have hlcb := lt_of_heap hcb
  have c2226 := c2225.trans0 c26
  have hlC := hC.lt
  refine ⟨_, rfl, Same.chg c26 (by simp; omega), _, _, _, isFn93 cb, iterates_shadow hcb hA, by simp; exact ⟨hlcb, hlA⟩, ?_⟩
  rw [en]
  refine ⟨fun O pre w' => ∃ k : Nat, k ≤ r4n ∧ pre = someL g k ∧ Chg [] w22 w' ∧ w26.heap.size ≤ w'.heap.size ∧ ∃ fpc', ShadowAt w' bc pages (cutG g k) fpc' ∧ ∀ i ∈ fpc', i ∉ O ∧ ((w22.heap.size ≤ i ∧ i < w23.heap.size) ∨ w26.heap.size ≤ i), ?_, ?_, ?_, ?_⟩
  · rintro pre O O' A B ⟨k, k1, k2, k3, k4, fpc', k5, k6⟩ hO hc hO' hg
    have := hc.size
    refine ⟨k, k1, k2, k3.trans hc (fun i hi hlt => by have := (hO i hi).1; omega), by omega, fpc', k5.chg hc (fun i hi => (k6 i hi).1), fun i hi => ⟨fun hm => ?_, (k6 i hi).2⟩⟩
    rcases hg i hm with h | h
    · exact (k6 i hi).1 h
    · have := k5.lt i hi; omega
  · intro O w27 c27 hO
    refine ⟨0, Nat.zero_le _, rfl, c2226.trans0 c27, c27.size, fpc, ?_, fun i hi => ⟨fun hm => ?_, .inl ⟨hfc i hi, hlC i hi⟩⟩⟩
    · rw [cutG_zero]; exact ((hC.chg c25 (by simp)).chg c26 (by simp)).chg c27 (by simp)
    · have := (hO i hm).1; have := hlC i hi; omega
  · rintro l2 O pre x3 x4 w27 hO hl2 ⟨suf, hsuf⟩ ⟨k, k1, rfl, k3, k4, fpc', k5, k6⟩ w28 c28
    have hl2' := hO l2 hl2
    have s28 := c28.size
    rw [List.append_assoc] at hsuf
    obtain ⟨j, rfl, hkj, hjn, rfl, hj0, hz, hnext⟩ := someL_next (r4n - k) k (by omega) hsuf
    have c2228 : Chg [] w22 w28 := k3.trans c28 (fun i hi hlt => by simp at hi; omega)
    have h28 := k5.chg c28 (fun i hi hm => by simp at hm; subst hm; exact (k6 _ hi).1 hl2)
    have hgj := hS.each j
    refine (shadow_setp h28 (at1 := j) (set := g j) (by omega) hgj.1).mono ?_
    rintro _ w29 ⟨r, rfl, h29⟩
    rw [if_neg (by omega), if_pos (by omega)] at h29
    obtain ⟨rfl, fp9, hS9, c29, hn9⟩ := h29
    have s29 := c29.size
    refine ⟨_, rfl, Same.of c29 (fun i hi => ?_), by omega, ⟨j + 1, by omega, hnext.symm, c2228.trans c29 (fun i hi hlt => ?_), by omega, fp9, ?_, fun i hi => ?_⟩, Same.of c29 (fun i hi => ?_)⟩
    · simp at hi
      refine ⟨by omega, fun hm => ?_⟩
      have := (k6 i hm).2; omega
    · have := (k6 i hi).2; omega
    · rw [← cutG_next hkj hz]; exact hS9
    · rcases hn9 i hi with h | h
      · exact k6 i h
      · refine ⟨fun hm => ?_, .inr (by omega)⟩
        have := (hO i hm).2; omega
    · rcases List.mem_append.1 hi with h | h
      · have h1 := hnew i h
        have h2 : i < w26.heap.size := by
          rcases List.mem_cons.1 h with e | e
          · omega
          · exact hlA i e
        exact ⟨by omega, fun hm => by have := (k6 i hm).2; omega⟩
      · have := hO i h
        exact ⟨by omega, fun hm => (k6 i hm).1 h⟩
  · rintro d2 O xs w30 hO hd2 hxs ⟨k, k1, hxs', k3, k4, fpc', k5, k6⟩
    have hd2' := hO d2 hd2
    have hz := someL_rest (g := g) (n := r4n) (r4n - k) k (by omega) (hxs'.symm.trans hxs)
    have eg : cutG g k = g := cutG_all k1 hz (fun i hi => hS.out (by omega))
    rw [eg] at k5
    have c230 : Chg [] w2 w30 := hB.chg.trans0 k3
    have N : ∀ {A B : World}, w30.heap.size ≤ A.heap.size → Chg [] A B → Same A B [b2, d2, d1] := fun h hc => Same.chg hc (by simp; omega)
    refine ⟨fun b w' => b = true ∧ w' = w30, ?_, fun _ => ?_, fun h => by simp at h⟩
    · rintro _ w31 ⟨rfl, hw⟩
      subst w31
      refine ⟨fun b w' => b = true ∧ Chg [] w30 w', ?_, fun _ => ?_, fun h => by simp at h⟩
      · rintro _ w33 ⟨rfl, c33⟩
        have s33 := c33.size
        refine ⟨fun b w' => b = true ∧ Chg [] w30 w', ?_, fun _ => ?_, fun h => by simp at h⟩
        · rintro _ w35 ⟨rfl, c35⟩ w37 c37 w38 c38
          subst hR
          exact ⟨rfl, (((c2.trans0 c230).trans0 c35).trans c37 (fun i hi hlt => by simp at hi; omega)).trans c38 (fun i hi hlt => by simp at hi; omega)⟩
        · refine (works_true w33).mono ?_
          rintro _ w36 ⟨_, rfl, rfl, c36⟩
          exact ⟨_, rfl, N s33 c36, rfl, c33.trans0 c36⟩
      · refine (shadow_same k5 (hS.chg k3 (by simp))).mono ?_
        rintro _ w34 ⟨r, rfl, hr, c34⟩
        have : r = true := hr.2 ⟨rfl, fun _ => rfl⟩
        exact ⟨_, rfl, N (Nat.le_refl _) c34, this, c34⟩
    · refine (num44 w30 0).mono ?_
      rintro _ w32 ⟨_, rfl, rfl, hw⟩
      subst w32
      exact ⟨_, rfl, Same.refl _ _, by simp, rfl⟩

theorem alls_walk {w : World} {pages many1 : Int} {p : Option Addr} {n c : Nat} {acts : List Act3} (h : Acts3At w p n acts) (hn : n ≤ maxLen) :
    Calls Try.prog 12 #[.int .i64 pages, .slice p n c, .int .i64 many1] w fun e w' => ∃ r : Bool, e = .returned (.bool r) ∧ (r = true ∧ Chg [] w w') := by
  refine go_pomanderlaw03_ShadowAlls _ _ _ _ _ _ _ ?_
  unfold W_pomanderlaw03_ShadowAlls
  rintro b2 b1 w2 ⟨i2, j2⟩ ⟨i1, j1⟩ c2
  have s2 := c2.size
  refine ⟨fun _ => ?_, fun hp => ?_⟩
  · refine (works_true w2).mono ?_
    rintro _ w3 ⟨_, rfl, rfl, c3⟩
    exact ⟨_, rfl, Same.chg c3 (by simp; omega), fun w4 c4 => ⟨rfl, (c2.trans0 c3).trans c4 (fun i hi hlt => by simp at hi; omega)⟩⟩
  simp at hp
  refine (played_true (by omega) (by omega) (h.chg c2 (by simp)) hn).mono ?_
  rintro _ w5 ⟨r3, r4, r4n, r4c, _, rfl, rfl, g, fp, hB⟩
  obtain ⟨bs, rfl, hS⟩ := hB.shadow
  have s5 := hB.chg.size
  refine ⟨_, _, _, _, _, rfl, Same.chg hB.chg (by simp; omega), ?_⟩
  rintro b5 b4 b3 w11 ⟨m5, n5⟩ ⟨m4, n4⟩ ⟨m3, n3⟩ c11
  have s11 := c11.size
  refine (shadow_all (hS.chg c11 (by simp))).mono ?_
  rintro _ w12 ⟨_, rfl, cb0, _, _, rfl, _, _, c12, _⟩
  have s12 := c12.size
  refine ⟨_, rfl, Same.chg c12 (by simp; omega), false, fun w => func_ne_nil _ _ _ _ w, fun h => by simp at h, fun _ => ?_⟩
  refine (shadow_all ((hS.chg c11 (by simp)).chg c12 (by simp))).mono ?_
  rintro _ w14 ⟨_, rfl, cb, b', fp', rfl, hcb, hA, c14, hnew⟩
  have s14 := c14.size
  have hlA := hA.lt
  have hlcb := lt_of_heap hcb
  have c514 := (c11.trans0 c12).trans0 c14
  have en : (64 * pages.toNat : Nat) = r4n := by have := hB.len; omega
  refine ⟨_, rfl, Same.chg c14 (by simp; omega), _, _, _, isFn93 cb, iterates_shadow hcb hA, by simp; exact ⟨hlcb, hlA⟩, ?_⟩
  rw [en]
  refine ⟨fun c1 _ O pre w' => (∃ k : Nat, k ≤ r4n ∧ pre = someL g k ∧ c1 < k) ∧ Chg [] w5 w' ∧ w14.heap.size ≤ w'.heap.size, fun _ _ _ _ _ _ => False, fun _ _ O pre w' => Chg [] w5 w' ∧ w14.heap.size ≤ w'.heap.size, ?_, ?_, ?_, ?_, ?_, ?_, ?_, ?_⟩
  · rintro c1 c2 pre O O' A B ⟨k1, k2, k3⟩ hO hc hO' hg
    have := hc.size
    exact ⟨k1, k2.trans hc (fun i hi hlt => by have := (hO i hi).1; omega), by omega⟩
  · rintro _ _ _ _ _ _ _ _ hf; exact hf.elim
  · rintro c1 c2 pre O O' A B ⟨k2, k3⟩ hO hc hO' hg
    have := hc.size
    exact ⟨k2.trans hc (fun i hi hlt => by have := (hO i hi).1; omega), by omega⟩
  · intro O w15 c15 hO
    exact ⟨⟨0, Nat.zero_le _, rfl, by omega⟩, c514.trans0 c15, c15.size⟩
  · rintro l1 O pre x1 x2 c1 c2' w15 hO hl1 ⟨suf, hsuf⟩ ⟨⟨k, hk, rfl, hck⟩, k3, k4⟩ w16 c16
    have hl1' := hO l1 hl1
    have s16 := c16.size
    rw [List.append_assoc] at hsuf
    obtain ⟨j, rfl, hkj, hjn, rfl, hj0, hz, hnext⟩ := someL_next (r4n - k) k (by omega) hsuf
    have c516 : Chg [] w5 w16 := k3.trans c16 (fun i hi hlt => by simp at hi; omega)
    refine ⟨fun b w' => b = false ∧ w' = w16, ?_, fun _ => ⟨decide_eq_false (by omega), rfl⟩, fun h => by have := of_decide_eq_true h; omega⟩
    rintro _ w17 ⟨rfl, hw⟩
    subst w17
    obtain ⟨a, rfl, q0, q1, t, ht, rfl⟩ := row_cell (hB.row.chg c516 (by simp)) (i := (j : Int)) (by omega) (by omega)
    refine ⟨fun b w' => b = false ∧ w' = w16, ?_, fun _ => ⟨a, rfl, q0, q1, _, ht, by simp, rfl⟩, fun h => by simp at h⟩
    rintro _ w18 ⟨rfl, hw⟩
    subst w18
    refine ⟨fun h => by simp [hj0] at h, fun _ w21 c21 => ?_⟩
    have s21 := c21.size
    have c521 : Chg [] w5 w21 := c516.trans c21 (fun i hi hlt => by simp at hi; omega)
    have hsm : Same w16 w21 (cb :: fp' ++ O) := Same.of c21 (fun i hi => by
      rcases List.mem_append.1 hi with h | h
      · have h1 := hnew i h
        have h2 : i < w14.heap.size := by
          rcases List.mem_cons.1 h with e | e
          · omega
          · exact hlA i e
        exact ⟨by omega, by simp; omega⟩
      · have := hO i h
        exact ⟨by omega, by simp; omega⟩)
    exact ⟨fun _ => ⟨by omega, ⟨c521, by omega⟩, hsm⟩, fun _ => ⟨by omega, ⟨⟨j + 1, by omega, hnext.symm, by omega⟩, c521, by omega⟩, hsm⟩⟩
  · rintro d1 O xs c1 c2' w22 hO hd hxs ⟨_, k3, k4⟩
    have := hO d1 hd
    exact alls_tail (hB.later k3) c2 ⟨i2, j2⟩ ⟨by omega, by omega⟩ rfl _ rfl
  · rintro _ _ _ _ _ _ _ _ _ _ hf; exact hf.elim
  · rintro d4 O xs c1 c2' w40 hO hd hxs ⟨k3, k4⟩
    have := hO d4 hd
    exact alls_tail (hB.later k3) c2 ⟨i2, j2⟩ ⟨by omega, by omega⟩ rfl _ rfl

theorem alls_lifted (os : Os) (started : os.Started) (H : Type) (enc : TypeId × Value → H) :
    ReturnsInHanded {} Try.checked os 12 .any (Rows.shadowAllsSpec.pre6 enc Try.prog Try.f12 Rows.shadowAllsRow.domain false) (Rows.shadowAllsSpec.post enc Try.prog Try.f12 false true false false) := by
  refine returnsInHanded_of_change (C := Try.checked) ownX started (by kernel_rfl) Try.func12
    (ChangeSpec.witness6 (enc := enc) (C := Try.checked) false ⟨#[], #[.int .i64 0, .slice none 0 0, .int .i64 0], []⟩ 8 (by kernel_rfl) (by kernel_rfl) (by kernel_rfl) (by kernel_rfl)) ?_
  intro W base args ds gs before hval0 hW hcnd _
  have hval : ∀ (j : Nat) t v, Try.f12.params[j]? = some t → args[j]? = some v → Value.okWide Try.prog W .any base t v := hval0
  have hW' := hW
  obtain ⟨p, q, hA0, hV, rfl, hfz, hnd⟩ := hW
  have hA : DataW.TrodAll enc Try.prog W 0 (fun _ => true) true Try.f12.params.toList args.toList ds p := hA0
  rw [Try.params12] at hA hval
  have hAll := hA
  obtain ⟨v0, vs0, d0, ds0, p0, q0, hargs, rfl, rfl, h0, r0⟩ := trodAll_cons hA
  obtain ⟨v1, vs1, d1, ds1, p1, q1, rfl, rfl, rfl, h1, r1⟩ := trodAll_cons r0
  obtain ⟨v2, vs2, d2, ds2, p2, q2, rfl, rfl, rfl, h2, r2⟩ := trodAll_cons r1
  obtain ⟨rfl, rfl, rfl⟩ := trodAll_nil r2
  obtain rfl : args = #[v0, v1, v2] := by cases args; simp_all
  obtain ⟨rfl, rfl⟩ := trodVars_none hV
  have hblt : ∀ x ∈ p0 ++ (p1 ++ (p2 ++ [])), x.block < W.heap.size := fun x hx => hW'.lt x (by simpa using hx)
  obtain ⟨a0, rfl, rfl, rfl, w0⟩ := open_int un3 (hval 0 3 v0 rfl rfl) h0
  obtain ⟨b1, n1, k1, rfl⟩ := okWide_slice Try.underlying95 (hval 1 95 v1 rfl rfl)
  obtain ⟨f1, g1⟩ := h1
  obtain ⟨q1, m1, c1, acts, hms, hm1, hM⟩ := open_acts3 g1
  simp [Value.cells] at hms
  obtain ⟨rfl, rfl, rfl⟩ := hms
  obtain ⟨a2, rfl, rfl, rfl, w2⟩ := open_int un3 (hval 2 3 v2 rfl rfl) h2
  clear hA0 hval0
  refine (alls_walk hM hm1).mono fun e W' ⟨r, he, hr, hc⟩ => ?_
  subst he hr
  have bel := hc.below
  exact ⟨_, rfl, _, _, _, [], _, [], hW', trodAll_mk1 (shut_bool (by kernel_rfl) _), all_below laidOutX bel _ _ _ _ (fun t ht => by
    simp at ht
    rcases ht with rfl | rfl | rfl <;> exact ⟨by kernel_rfl, of_decide_eq_true (by kernel_rfl)⟩) hAll (fun x hx => hblt x (by simpa using hx)), rfl, bel.frame _, fun h => by cases h⟩

theorem alls_over : Rows.shadowAllsRow.holds Try.pinned (OpenSpec.ofChange Rows.shadowAllsSpec) :=
  OpenClaim.holds_of_wide 12 Try.f12 rfl rfl rfl rfl rfl rfl rfl ⟨rfl, rfl, rfl, rfl, rfl⟩ rfl rfl rfl rfl rfl (by kernel_rfl) Try.func12 (by kernel_rfl)
    (of_decide_eq_true (by kernel_rfl)) (by unfold Func.isWrapper; first | (rw [if_pos (by decide +kernel)]; kernel_rfl) | (rw [if_neg (by decide +kernel)]; exact ⟨rfl, rfl⟩))
    (fun os started H enc _ => alls_lifted os started H enc)

theorem shadowAlls_proved : Rows.ShadowAllsSaid := alls_over
#print axioms shadowAlls_proved
end Go.Proofs.Ytkfncibmfcdokaa
