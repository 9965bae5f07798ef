/- The law ShadowCopies (any number of pages, any calls, any one behind): true. -/
import Derived.Test.YtkfncibmfcdokaaXStepS
import Derived.Test.YtkfncibmfcdokaaXCut
import Derived.Test.YtkfncibmfcdokaaXHcopies
set_option linter.unusedVariables false
set_option linter.unusedSimpArgs false
set_option maxRecDepth 100000
namespace Go.Proofs.Ytkfncibmfcdokaa
open Go Go.RowKit Go.X Go.XR Go.ChangeShapes Go.WideShapes Go.ChangeAt

theorem copies_tail {w w0 w26 : World} {pages : Int} {g g' : Int → Int} {r3 r4 r6 next1 l1 : Option Addr} {r4n r4c next1n next1c l1n l1c b2 b4 b6 d1 d2 : Nat} {fp fpc : List Nat} {bc : Nat} {c2 : Int} (hB : Both w0 w26 pages g' r3 next1 next1n next1c fp)
    (hr4 : RowAt w26 22 1 r4 r4n r4c (row03 g r4n)) (hn4 : (r4n : Int) = 64 * pages) (h6 : r6 = some ⟨bc, 0, none⟩) (hC : ShadowAt w26 bc pages g fpc) (hl1 : RowAt w26 22 1 l1 l1n l1c (row03 g l1n)) (hnl : l1n = r4n) (hc2 : c2 = if (pagesL g pages pages.toNat : Int) < 1 then (pagesL g pages pages.toNat : Int) else 1)
    (cw : Chg [] w w26) (hb2 : w.heap.size ≤ b2 ∧ b2 < w26.heap.size) (hb4 : b4 < w26.heap.size) (hb6 : b6 < w26.heap.size) (hd1 : w.heap.size ≤ d1 ∧ d1 < w26.heap.size) (hd2 : w.heap.size ≤ d2 ∧ d2 < w26.heap.size)
    (R : Bool → World → Prop) (hR : R = fun r w' => r = true ∧ Chg [] w w') :
    (Calls Try.prog 60 #[.slice r4 r4n r4c, .slice next1 next1n next1c] w26 fun e w27 => ∃ (r9 : Bool), e = .returned (.bool r9) ∧ (Same w26 w27 [b2, b4, b6, d2, d1] ∧ (Calls Try.prog 51 #[.int .i64 (IntKind.wrap .i64 ((Int.tmod pages 32) + 1))] w27 fun e w28 => ∃ (r10 : Option Addr) (r11 : Int), e = .returned (.tuple #[.pointer r10, .int .i64 r11]) ∧ (Same w27 w28 [b2, b4, b6, d2, d1] ∧ (Calls Try.prog 51 #[.int .i64 pages] w28 fun e w29 => ∃ (r12 : Option Addr) (r13 : Int), e = .returned (.tuple #[.pointer r12, .int .i64 r13]) ∧ (Same w28 w29 [b2, b4, b6, d2, d1] ∧ (∀ (w30 : World), Chg [] w29 w30 → (Calls Try.prog 60 #[.slice l1 l1n l1c, .slice r4 r4n r4c] w30 fun e w31 => ∃ (r14 : Bool), e = .returned (.bool r14) ∧ (Same w30 w31 [b2, b4, b6, d2, d1] ∧ (∃ J4 : Bool → World → Prop, (∀ (b7 : Bool) (w32 : World), J4 b7 w32 → ∃ J5 : Bool → World → Prop, (∀ (b8 : Bool) (w34 : World), J5 b8 w34 → ∃ J6 : Bool → World → Prop, (∀ (b9 : Bool) (w36 : World), J6 b9 w36 → ∃ J7 : Bool → World → Prop, (∀ (b10 : Bool) (w38 : World), J7 b10 w38 → ∃ J8 : Bool → World → Prop, (∀ (b11 : Bool) (w40 : World), J8 b11 w40 → ∃ J9 : Bool → World → Prop, (∀ (b12 : Bool) (w42 : World), J9 b12 w42 → ∃ J10 : Bool → World → Prop, (∀ (b13 : Bool) (w44 : World), J10 b13 w44 → ∀ (w46 : World), Chg [b2] w44 w46 → (∀ w47 : World, Chg [d2, d1] w46 w47 → (R b13 w47))) ∧ ((b12 = true → Calls Try.prog 40 #[] w42 fun e w45 => ∃ (r21 : Bool), e = .returned (.bool r21) ∧ (Same w42 w45 [b2, b4, b6, d2, d1] ∧ (J10 r21 w45))) ∧ (b12 = false → J10 false w42))) ∧ ((b11 = true → Calls Try.prog 53 #[.pointer r10, .pointer r12] w40 fun e w43 => ∃ (r20 : Bool), e = .returned (.bool r20) ∧ (Same w40 w43 [b2, b4, b6, d2, d1] ∧ (J9 (!r20) w43))) ∧ (b11 = false → J9 false w40))) ∧ ((b10 = true → Calls Try.prog 53 #[.pointer r6, .pointer r3] w38 fun e w41 => ∃ (r19 : Bool), e = .returned (.bool r19) ∧ (Same w38 w41 [b2, b4, b6, d2, d1] ∧ (J8 (r19 == r9) w41))) ∧ (b10 = false → J8 false w38))) ∧ ((b9 = true → Calls Try.prog 53 #[.pointer r3, .pointer r6] w36 fun e w39 => ∃ (r18 : Bool), e = .returned (.bool r18) ∧ (Same w36 w39 [b2, b4, b6, d2, d1] ∧ (J7 (r18 == r9) w39))) ∧ (b9 = false → J7 false w36))) ∧ ((b8 = true → Calls Try.prog 45 #[.pointer r3, .slice next1 next1n next1c] w34 fun e w37 => ∃ (r17 : Bool), e = .returned (.bool r17) ∧ (Same w34 w37 [b2, b4, b6, d2, d1] ∧ (J6 r17 w37))) ∧ (b8 = false → J6 false w34))) ∧ ((b7 = true → Calls Try.prog 45 #[.pointer r6, .slice r4 r4n r4c] w32 fun e w35 => ∃ (r16 : Bool), e = .returned (.bool r16) ∧ (Same w32 w35 [b2, b4, b6, d2, d1] ∧ (J5 r16 w35))) ∧ (b7 = false → J5 false w32))) ∧ ((r14 = true → Calls Try.prog 61 #[.slice r4 r4n r4c] w31 fun e w33 => ∃ (r15 : Int), e = .returned (.int .i64 r15) ∧ (Same w31 w33 [b2, b4, b6, d2, d1] ∧ (J4 (c2 == (if r15 < 1 then r15 else 1)) w33))) ∧ (r14 = false → J4 false w31)))))))))))) := by
  subst h6 hnl
  have hp1 := hC.pages1
  have hp2 := hC.pages2
  obtain ⟨bs, rfl, hS⟩ := hB.shadow
  have N : ∀ {A B : World}, w26.heap.size ≤ A.heap.size → Chg [] A B → Same A B [b2, b4, b6, d2, d1] := fun h hc => Same.chg hc (by simp; omega)
  refine (r3_same hr4 hB.row (by omega)).mono ?_
  rintro _ w27 ⟨r9, rfl, h9, c27⟩
  have s27 := c27.size
  refine ⟨_, rfl, N (Nat.le_refl _) c27, ?_⟩
  have et : IntKind.wrap .i64 (Int.tmod pages 32 + 1) = pages % 32 + 1 := by rw [Int.tmod_eq_emod_of_nonneg (by omega), wr (by omega) (by omega)]
  rw [et]
  refine (shadow_new w27 _).mono ?_
  rintro _ w28 ⟨r10, r11, rfl, c28, hw⟩
  rw [if_pos (by omega)] at hw
  obtain ⟨rfl, bw, fw, rfl, hW, _⟩ := hw
  have s28 := c28.size
  refine ⟨_, _, rfl, N s27 c28, ?_⟩
  refine (shadow_new w28 pages).mono ?_
  rintro _ w29 ⟨r12, r13, rfl, c29, he⟩
  rw [if_pos ⟨hp1, hp2⟩] at he
  obtain ⟨rfl, be, fe, rfl, hE, _⟩ := he
  have s29 := c29.size
  refine ⟨_, _, rfl, N (by omega) c29, fun w30 c30 => ?_⟩
  have s30 := c30.size
  have c2630 := ((c27.trans0 c28).trans0 c29).trans0 c30
  refine (r3_same (hl1.chg c2630 (by simp)) (hr4.chg c2630 (by simp)) (by omega)).mono ?_
  rintro _ w31 ⟨r14, rfl, h14, c31⟩
  have s31 := c31.size
  have e14 : r14 = true := by rw [h14]; exact decide_eq_true ⟨rfl, fun _ _ => rfl⟩
  subst e14
  have c2631 := c2630.trans0 c31
  have eiff : (∀ i, g' i = g i) ↔ r9 = true := by
    rw [h9, decide_eq_true_iff]
    constructor
    · intro h; exact ⟨by have := hB.len; omega, fun i _ => (h i).symm⟩
    · rintro ⟨_, h⟩ i
      by_cases hi : 0 ≤ i ∧ i < 64 * pages
      · have := h i.toNat (by omega)
        rw [Int.toNat_of_nonneg hi.1] at this; exact this.symm
      · rw [hS.out (by omega), hC.out (by omega)]
  have B : ∀ {x : Bool}, (x = true ↔ (∀ i, g' i = g i)) → (x == r9) = true := fun {x} h => by
    have h' := h.trans eiff
    cases x with
    | true => rw [h'.1 rfl]; rfl
    | false =>
      cases r9 with
      | false => rfl
      | true => exact absurd (h'.2 rfl) (by simp)
  refine ⟨_, rfl, N (by omega) c31, fun b w' => b = true ∧ Chg [] w31 w', ?_, fun _ => ?_, fun h => by simp at h⟩
  · rintro _ w32 ⟨rfl, c32⟩
    have s32 := c32.size
    refine ⟨fun b w' => b = true ∧ Chg [] w31 w', ?_, fun _ => ?_, fun h => by simp at h⟩
    · rintro _ w34 ⟨rfl, c34⟩
      have s34 := c34.size
      refine ⟨fun b w' => b = true ∧ Chg [] w31 w', ?_, fun _ => ?_, fun h => by simp at h⟩
      · rintro _ w36 ⟨rfl, c36⟩
        have s36 := c36.size
        refine ⟨fun b w' => b = true ∧ Chg [] w31 w', ?_, fun _ => ?_, fun h => by simp at h⟩
        · rintro _ w38 ⟨rfl, c38⟩
          have s38 := c38.size
          refine ⟨fun b w' => b = true ∧ Chg [] w31 w', ?_, fun _ => ?_, fun h => by simp at h⟩
          · rintro _ w40 ⟨rfl, c40⟩
            have s40 := c40.size
            refine ⟨fun b w' => b = true ∧ Chg [] w31 w', ?_, fun _ => ?_, fun h => by simp at h⟩
            · rintro _ w42 ⟨rfl, c42⟩
              have s42 := c42.size
              refine ⟨fun b w' => b = true ∧ Chg [] w31 w', ?_, fun _ => ?_, fun h => by simp at h⟩
              · rintro _ w44 ⟨rfl, c44⟩ w46 c46 w47 c47
                subst hR
                exact ⟨rfl, (((cw.trans0 c2631).trans0 c44).trans c46 (fun i hi hlt => by simp at hi; omega)).trans c47 (fun i hi hlt => by simp at hi; omega)⟩
              · refine (works_true w42).mono ?_
                rintro _ w45 ⟨_, rfl, rfl, c45⟩
                exact ⟨_, rfl, N (by omega) c45, rfl, c42.trans0 c45⟩
            · refine (shadow_same ((((hW.chg c29 (by simp)).chg c30 (by simp)).chg c31 (by simp)).chg c40 (by simp)) (((hE.chg c30 (by simp)).chg c31 (by simp)).chg c40 (by simp))).mono ?_
              rintro _ w43 ⟨r20, rfl, hr, c43⟩
              have : r20 = false := by
                cases r20 with
                | false => rfl
                | true => have := (hr.1 rfl).1; omega
              subst this
              exact ⟨_, rfl, N (by omega) c43, rfl, c40.trans0 c43⟩
          · refine (shadow_same ((hC.chg c2631 (by simp)).chg c38 (by simp)) ((hS.chg c2631 (by simp)).chg c38 (by simp))).mono ?_
            rintro _ w41 ⟨r19, rfl, hr, c41⟩
            refine ⟨_, rfl, N (by omega) c41, B ?_, c38.trans0 c41⟩
            rw [hr]
            exact ⟨fun h i => (h.2 i).symm, fun h => ⟨rfl, fun i => (h i).symm⟩⟩
        · refine (shadow_same ((hS.chg c2631 (by simp)).chg c36 (by simp)) ((hC.chg c2631 (by simp)).chg c36 (by simp))).mono ?_
          rintro _ w39 ⟨r18, rfl, hr, c39⟩
          refine ⟨_, rfl, N (by omega) c39, B ?_, c36.trans0 c39⟩
          rw [hr]
          exact ⟨fun h i => h.2 i, fun h => ⟨rfl, h⟩⟩
      · refine (is_both ((hB.later c2631).later c34)).mono ?_
        rintro _ w37 ⟨_, rfl, rfl, c37⟩
        exact ⟨_, rfl, N (by omega) c37, rfl, c34.trans0 c37⟩
    · refine (is_true ((hC.chg c2631 (by simp)).chg c32 (by simp)) ((hr4.chg c2631 (by simp)).chg c32 (by simp)) hn4).mono ?_
      rintro _ w35 ⟨_, rfl, rfl, c35⟩
      exact ⟨_, rfl, N (by omega) c35, rfl, c32.trans0 c35⟩
  · refine (r3_pages (hr4.chg c2631 (by simp)) hn4 (by omega) hp2).mono ?_
    rintro _ w33 ⟨_, rfl, rfl, hw⟩
    subst w33
    exact ⟨_, rfl, Same.refl _ _, by rw [hc2]; simp, Chg.refl _ _⟩

theorem copies_walk {w : World} {pages : Int} {p : Option Addr} {n c : Nat} {acts : List Act3} {x1 x2 x3 x4 : Int} (h : Acts3At w p n acts) (hn : n ≤ maxLen) (hx2 : -9223372036854775808 ≤ x2 ∧ x2 ≤ 9223372036854775807) (hx4 : 0 ≤ x4) :
    Calls Try.prog 14 #[.int .i64 pages, .slice p n c, .agg #[.int .i64 x1, .int .i64 x2, .int .i64 x3, .int .u32 x4]] w fun e w' => ∃ r : Bool, e = .returned (.bool r) ∧ (r = true ∧ Chg [] w w') := by
  refine go_pomanderlaw03_ShadowCopies _ _ _ _ _ _ _ _ _ _ ?_
  unfold W_pomanderlaw03_ShadowCopies
  rintro b2 b1 w2 ⟨i2, j2⟩ ⟨i1, j1⟩ c2
  have s2 := c2.size
  refine ⟨fun _ => ?_, fun hp => ?_⟩
  · refine (works_true w2).mono ?_
    rintro _ w3 ⟨_, rfl, rfl, c3⟩
    exact ⟨_, rfl, Same.chg c3 (by simp; omega), fun w4 c4 => ⟨rfl, (c2.trans0 c3).trans c4 (fun i hi hlt => by simp at hi; omega)⟩⟩
  simp at hp
  refine (played_true (by omega) (by omega) (h.chg c2 (by simp)) hn).mono ?_
  rintro _ w5 ⟨r3, r4, r4n, r4c, _, rfl, rfl, g, fp, hB⟩
  obtain ⟨bs, rfl, hS⟩ := hB.shadow
  have s5 := hB.chg.size
  have hlS := hS.lt
  refine ⟨_, _, _, _, _, rfl, Same.chg hB.chg (by simp; omega), ?_⟩
  refine (shadow_copy hS).mono ?_
  rintro _ w6 ⟨_, rfl, bc, fpc, rfl, hC, c6, hfc⟩
  have s6 := c6.size
  have hlC := hC.lt
  refine ⟨_, rfl, Same.chg c6 (by simp; omega), ?_⟩
  refine (shadow_all (hS.chg c6 (by simp))).mono ?_
  rintro _ w7 ⟨_, rfl, cb, b', fp', rfl, hcb, hA, c7, hnew⟩
  have s7 := c7.size
  have hlA := hA.lt
  have hlcb := lt_of_heap hcb
  have c57 := c6.trans0 c7
  refine ⟨_, rfl, Same.chg c7 (by simp; omega), fun b w' => b = false ∧ Chg [] w7 w', ?_, fun _ => ?_, fun h => by simp at h⟩
  rotate_left
  · refine (shadow_same (hS.chg c57 (by simp)) (hC.chg c7 (by simp))).mono ?_
    rintro _ w9 ⟨r8, rfl, hr, c9⟩
    have : r8 = true := hr.2 ⟨rfl, fun _ => rfl⟩
    subst this
    exact ⟨_, rfl, Same.chg c9 (by simp; omega), rfl, c9⟩
  rintro _ w8 ⟨rfl, c8⟩
  have s8 := c8.size
  have c58 := c57.trans0 c8
  refine ⟨fun h => by simp at h, fun _ => ⟨fun nx nn nc w' => ∃ g' fp2, Both w2 w' pages g' (some ⟨bs, 0, none⟩) nx nn nc fp2 ∧ Chg fp w8 w', ?_, fun h0 => ?_, fun h0 => ?_⟩⟩
  rotate_left
  · refine (both_set (hB.later c58) hx2 hx4).mono ?_
    rintro _ w72 ⟨r35, r35n, r35c, r36, rfl, c72, k⟩
    have s72 := c72.size
    refine ⟨_, _, _, _, rfl, Same.chg c72 (by simp; omega), ?_⟩
    refine (k w72 (Chg.refl _ _)).mono ?_
    rintro _ w73 ⟨_, rfl, rfl, fp8, hB8, c73⟩
    exact ⟨_, rfl, Same.of c73 (fun y hy => by simp at hy; subst hy; exact ⟨by omega, fun hm => by have := hB.new _ hm; omega⟩), _, _, hB8, c72.nil.trans c73 (fun i hi _ => hi)⟩
  · refine (both_fill (hB.later c58) hx2 hx4).mono ?_
    rintro _ w72 ⟨r35, r35n, r35c, r36, rfl, c72, k⟩
    have s72 := c72.size
    refine ⟨_, _, _, _, rfl, Same.chg c72 (by simp; omega), ?_⟩
    refine (k w72 (Chg.refl _ _)).mono ?_
    rintro _ w73 ⟨_, rfl, rfl, fp8, hB8, c73⟩
    exact ⟨_, rfl, Same.of c73 (fun y hy => by simp at hy; subst hy; exact ⟨by omega, fun hm => by have := hB.new _ hm; omega⟩), _, _, hB8, c72.nil.trans c73 (fun i hi _ => hi)⟩
  rintro nx nn nc w11 ⟨g', fp2, hB2, c11⟩
  have s11 := c11.size
  have hn4 := hB.len
  have en : (64 * pages.toNat : Nat) = r4n := by omega
  have hr4 : RowAt w11 22 1 r4 r4n r4c (row03 g r4n) := (hB.row.chg c58 (by simp)).chg c11 hB.apart
  have hC11 : ShadowAt w11 bc pages g fpc := ((hC.chg c7 (by simp)).chg c8 (by simp)).chg c11 (fun i hi hm => by have := hfc i hi; have := hlS i hm; omega)
  have hA11 : ShadowAt w11 b' pages g fp' := (hA.chg c8 (by simp)).chg c11 (fun i hi hm => by have := hnew i (by simp [hi]); have := hlS i hm; omega)
  have hcb11 := c11.obj (fun hm => by have := hnew cb (by simp); have := hlS _ hm; omega) (c8.obj (by simp) hcb)
  obtain ⟨w12, h1, h2, h3⟩ := run_makeSlice_full (P := Try.prog) w11 0 31 22 Try.t22 (.int .u32 0) 1 (by kernel_rfl) (by kernel_rfl) (by kernel_rfl) (by kernel_rfl) .i64 .i64 r4n (by omega) (by rw [show Try.t22.bytes = 4 by kernel_rfl]; omega) (by simp only [maxLen]; omega) (Nat.zero_le _)
  have c12 : Chg [] w11 w12 := ⟨h3.os, h3.tape, h3.output, h3.size, fun k hk _ => h3.block k hk (by simp)⟩
  have s12 := c12.size
  have hz : RowAt w12 22 1 (some ⟨w11.heap.size, 0, none⟩) r4n r4n (row03 (fun _ => 0) r4n) := by
    have e : (madeCells (Value.int .u32 0).cells (r4n * 1)).toList = row03 (fun _ => 0) r4n := by
      rw [show (Value.int .u32 0).cells = #[Value.int .u32 0] from rfl, toList_madeCells_one, Nat.mul_one]
      apply List.ext_getElem?
      intro j
      by_cases hj : j < r4n
      · simp [row03, hj]
      · simp [row03, hj]
    rw [e] at h2; exact h2
  have hlz := hz.lt w11.heap.size (by simp [rowB])
  refine ⟨_, _, _, w12, h1, Same.chg c12 (by simp; omega), ?_⟩
  rintro b4 w14 ⟨m4, n4⟩ c14
  have s14 := c14.size
  have c1114 := c12.trans0 c14
  have hlcb11 := lt_of_heap hcb11
  have hlA11 := hA11.lt
  refine ⟨_, _, _, isFn93 cb, iterates_shadow (c1114.obj (by simp) hcb11) (hA11.chg c1114 (by simp)), (by simp; exact ⟨by omega, fun i hi => by have := hlA11 i hi; omega⟩), ?_⟩
  rw [en]
  refine ⟨fun O pre w' => ∃ k : Nat, k ≤ r4n ∧ pre = someL g k ∧ RowAt w' 22 1 (some ⟨w11.heap.size, 0, none⟩) r4n r4n (row03 (cutG g k) r4n) ∧ Chg [] w11 w' ∧ w14.heap.size ≤ w'.heap.size, fun _ _ _ _ => False, ?_, ?_, ?_, ?_, ?_, ?_⟩
  · rintro pre O O' A B ⟨k, k1, k2, k3, k4, k5⟩ hO hc hO' hg
    have := hc.size
    exact ⟨k, k1, k2, k3.chg hc (fun i hi hm => by simp [rowB] at hi; have := (hO _ hm).1; omega), k4.trans hc (fun i hi hlt => by have := (hO i hi).1; omega), by omega⟩
  · rintro _ _ _ _ _ _ hf; exact hf.elim
  · intro O w15 c15 hO
    refine ⟨0, Nat.zero_le _, rfl, ?_, c1114.trans0 c15, c15.size⟩
    rw [cutG_zero]; exact (hz.chg c14 (by simp)).chg c15 (by simp)
  · rintro l2 O pre x5 x6 w15 hO hl2 ⟨suf, hsuf⟩ ⟨k, k1, rfl, k3, k4, k5⟩ w16 c16
    have hl2' := hO l2 hl2
    have s16 := c16.size
    rw [List.append_assoc] at hsuf
    obtain ⟨j, rfl, hkj, hjn, rfl, hj0, hz', hnext⟩ := someL_next (r4n - k) k (by omega) hsuf
    have c1116 : Chg [] w11 w16 := k4.trans c16 (fun i hi hlt => by simp at hi; omega)
    have hr16 := k3.chg c16 (fun i hi hm => by simp [rowB] at hi hm; omega)
    refine ⟨fun b w' => b = false ∧ w' = w16, ?_, fun _ => ⟨decide_eq_false (by omega), rfl⟩, fun h => by have := of_decide_eq_true h; omega⟩
    rintro _ w17 ⟨rfl, hw⟩
    subst w17
    refine ⟨fun h => by simp at h, fun _ => row_put hr16 (i := (j : Int)) (by omega) (by omega) fun w19 hr19 c19 s19 => ?_⟩
    refine ⟨Same.of c19 (fun i hi => by simp at hi; exact ⟨by omega, by simp [rowB]; omega⟩), by omega, ⟨j + 1, by omega, hnext.symm, ?_, c1116.trans c19 (fun i hi hlt => by simp [rowB] at hi; omega), by omega⟩, Same.of c19 (fun i hi => ?_)⟩
    · rw [row03_set (g' := cutG g (j + 1)) (by omega) (fun q hq => ?_)] at hr19
      · exact hr19
      · rw [← cutG_next hkj hz']
        unfold putG
        by_cases e : (q : Int) = j
        · rw [if_pos e, if_pos (by omega)]
        · rw [if_neg e, if_neg (by omega)]
    · rcases List.mem_append.1 hi with h | h
      · have h2 : i < w11.heap.size := by
          rcases List.mem_cons.1 h with e | e
          · omega
          · exact hlA11 i e
        exact ⟨by omega, by simp [rowB]; omega⟩
      · have := hO i h
        exact ⟨by omega, by simp [rowB]; omega⟩
  · rintro d1 O xs w20 hO hd hxs ⟨k, k1, hxs', k3, k4, k5⟩ b6 w22 ⟨m6, n6⟩ c22
    have hd' := hO d1 hd
    have hz' := someL_rest (g := g) (n := r4n) (r4n - k) k (by omega) (hxs'.symm.trans hxs)
    have eg : cutG g k = g := cutG_all k1 hz' (fun i hi => hS.out (by omega))
    rw [eg] at k3
    have s22 := c22.size
    have c1122 := k4.trans0 c22
    refine ⟨_, _, _, isFn93 cb, iterates_shadow (c1122.obj (by simp) hcb11) (hA11.chg c1122 (by simp)), (by simp; exact ⟨by omega, fun i hi => by have := hlA11 i hi; omega⟩), ?_⟩
    rw [en]
    refine ⟨fun c2 O pre w' => c2 = 0 ∧ pre = [] ∧ Chg [] w20 w' ∧ w22.heap.size ≤ w'.heap.size, fun c2 O pre w' => c2 = 1 ∧ pre ≠ [] ∧ Chg [] w20 w' ∧ w22.heap.size ≤ w'.heap.size, ?_, ?_, ?_, ?_, ?_, ?_⟩
    · rintro c2 pre O O' A B ⟨q1, q2, q3, q4⟩ hO hc hO' hg
      have := hc.size
      exact ⟨q1, q2, q3.trans hc (fun i hi hlt => by have := (hO i hi).1; omega), by omega⟩
    · rintro c2 pre O O' A B ⟨q1, q2, q3, q4⟩ hO hc hO' hg
      have := hc.size
      exact ⟨q1, q2, q3.trans hc (fun i hi hlt => by have := (hO i hi).1; omega), by omega⟩
    · intro O w23 c23 hO
      exact ⟨rfl, rfl, c22.trans0 c23, c23.size⟩
    · rintro l3 O pre x7 x8 c2 w23 hO hl3 hsp ⟨rfl, rfl, q3, q4⟩ w24 c24 w25 c25
      have hl3' := hO l3 hl3
      have s24 := c24.size
      have s25 := c25.size
      refine ⟨by omega, ⟨by rw [wr (by omega) (by omega)]; rfl, by simp, (q3.trans c24 (fun i hi hlt => by simp at hi; omega)).trans c25 (fun i hi hlt => by simp at hi; omega), by omega⟩, Same.of c25 (fun i hi => ?_)⟩
      rcases List.mem_append.1 hi with h | h
      · have h2 : i < w11.heap.size := by
          rcases List.mem_cons.1 h with e | e
          · omega
          · exact hlA11 i e
        have := k4.size
        exact ⟨by omega, by simp; omega⟩
      · have := hO i h
        exact ⟨by omega, by simp; omega⟩
    · rintro d2 O xs2 c2 w26 hO hd2 hxs2 ⟨rfl, rfl, q3, q4⟩
      have hd2' := hO d2 hd2
      have s26 := q3.size
      have c1126 := Chg.trans0 k4 q3
      have hpg : (pagesL g pages pages.toNat : Int) = 0 := by
        have := (pagesL_zero (g := g) (pages := pages)).2 (by rw [en]; exact hxs2.symm)
        omega
      exact copies_tail (hB2.later c1126) (hr4.chg c1126 (by simp)) hn4 rfl (hC11.chg c1126 (by simp)) (k3.chg q3 (by simp)) rfl (by rw [hpg]; rfl)
        ((((c2.trans0 hB.chg).trans0 c58).trans c11 (fun i hi hlt => by have := hB.new i hi; omega)).trans0 c1126) ⟨i2, by omega⟩ (by omega) (by omega) ⟨by omega, by omega⟩ ⟨by omega, by omega⟩ _ rfl
    · rintro d3 O xs3 c2 w48 hO hd3 ⟨suf, hsuf⟩ ⟨rfl, hne, q3, q4⟩
      have hd3' := hO d3 hd3
      have s26 := q3.size
      have c1126 := Chg.trans0 k4 q3
      have hpg : ¬ (pagesL g pages pages.toNat : Int) < 1 := fun hlt => by
        have := (pagesL_zero (g := g) (pages := pages)).1 (by omega)
        rw [en] at this
        rw [this] at hsuf
        simp at hsuf
        exact hne hsuf.1
      exact copies_tail (hB2.later c1126) (hr4.chg c1126 (by simp)) hn4 rfl (hC11.chg c1126 (by simp)) (k3.chg q3 (by simp)) rfl (by rw [if_neg hpg])
        ((((c2.trans0 hB.chg).trans0 c58).trans c11 (fun i hi hlt => by have := hB.new i hi; omega)).trans0 c1126) ⟨i2, by omega⟩ (by omega) (by omega) ⟨by omega, by omega⟩ ⟨by omega, by omega⟩ _ rfl
  · rintro _ _ _ _ _ _ _ _ hf; exact hf.elim

theorem copies_lifted (os : Os) (started : os.Started) (H : Type) (enc : TypeId × Value → H) :
    ReturnsInHanded {} Try.checked os 14 .any (Rows.shadowCopiesSpec.pre6 enc Try.prog Try.f14 Rows.shadowCopiesRow.domain false) (Rows.shadowCopiesSpec.post enc Try.prog Try.f14 false true false false) := by
  refine returnsInHanded_of_change (C := Try.checked) ownX started (by kernel_rfl) Try.func14
    (ChangeSpec.witness6 (enc := enc) (C := Try.checked) false ⟨#[], #[.int .i64 0, .slice none 0 0, .agg #[.int .i64 0, .int .i64 0, .int .i64 0, .int .u32 0]], []⟩ 8 (by kernel_rfl) (by kernel_rfl) (by kernel_rfl) (by kernel_rfl)) ?_
  intro W base args ds gs before hval0 hW hcnd _
  have hval : ∀ (j : Nat) t v, Try.f14.params[j]? = some t → args[j]? = some v → Value.okWide Try.prog W .any base t v := hval0
  have hW' := hW
  obtain ⟨p, q, hA0, hV, rfl, hfz, hnd⟩ := hW
  have hA : DataW.TrodAll enc Try.prog W 0 (fun _ => true) true Try.f14.params.toList args.toList ds p := hA0
  rw [Try.params14] at hA hval
  have hAll := hA
  obtain ⟨v0, vs0, d0, ds0, p0, q0, hargs, rfl, rfl, h0, r0⟩ := trodAll_cons hA
  obtain ⟨v1, vs1, d1, ds1, p1, q1, rfl, rfl, rfl, h1, r1⟩ := trodAll_cons r0
  obtain ⟨v2, vs2, d2, ds2, p2, q2, rfl, rfl, rfl, h2, r2⟩ := trodAll_cons r1
  obtain ⟨rfl, rfl, rfl⟩ := trodAll_nil r2
  obtain rfl : args = #[v0, v1, v2] := by cases args; simp_all
  obtain ⟨rfl, rfl⟩ := trodVars_none hV
  have hblt : ∀ x ∈ p0 ++ (p1 ++ (p2 ++ [])), x.block < W.heap.size := fun x hx => hW'.lt x (by simpa using hx)
  obtain ⟨a0, rfl, rfl, rfl, w0⟩ := open_int un3 (hval 0 3 v0 rfl rfl) h0
  obtain ⟨b1, n1, k1, rfl⟩ := okWide_slice Try.underlying95 (hval 1 95 v1 rfl rfl)
  obtain ⟨f1, g1⟩ := h1
  obtain ⟨q1, m1, c1, acts, hms, hm1, hM⟩ := open_acts3 g1
  simp [Value.cells] at hms
  obtain ⟨rfl, rfl, rfl⟩ := hms
  have hv2 := hval 2 94 v2 rfl rfl
  simp only [Value.okWide, Try.underlying94] at hv2
  obtain ⟨cs2, rfl, _, _⟩ := hv2
  obtain ⟨f2, g2⟩ := h2
  obtain ⟨x, hx, hx1, hx2⟩ := open_act3 g2
  have hcs2 : cs2 = #[.int .i64 x.what, .int .i64 x.at1, .int .i64 x.n, .int .u32 x.set] := by
    have : cs2.toList = [.int .i64 x.what, .int .i64 x.at1, .int .i64 x.n, .int .u32 x.set] := by simpa [Value.cells] using hx
    exact Array.toList_inj.1 this
  subst hcs2
  clear hA0 hval0
  refine (copies_walk hM hm1 hx1 hx2).mono fun e W' ⟨r, he, hr, hc⟩ => ?_
  subst he hr
  have bel := hc.below
  exact ⟨_, rfl, _, _, _, [], _, [], hW', trodAll_mk1 (shut_bool (by kernel_rfl) _), all_below laidOutX bel _ _ _ _ (fun t ht => by
    simp at ht
    rcases ht with rfl | rfl | rfl <;> exact ⟨by kernel_rfl, of_decide_eq_true (by kernel_rfl)⟩) hAll (fun x hx => hblt x (by simpa using hx)), rfl, bel.frame _, fun h => by cases h⟩

theorem copies_over : Rows.shadowCopiesRow.holds Try.pinned (OpenSpec.ofChange Rows.shadowCopiesSpec) :=
  OpenClaim.holds_of_wide 14 Try.f14 rfl rfl rfl rfl rfl rfl rfl ⟨rfl, rfl, rfl, rfl, rfl⟩ rfl rfl rfl rfl rfl (by kernel_rfl) Try.func14 (by kernel_rfl)
    (of_decide_eq_true (by kernel_rfl)) (by unfold Func.isWrapper; first | (rw [if_pos (by decide +kernel)]; kernel_rfl) | (rw [if_neg (by decide +kernel)]; exact ⟨rfl, rfl⟩))
    (fun os started H enc _ => copies_lifted os started H enc)

theorem shadowCopies_proved : Rows.ShadowCopiesSaid := copies_over
#print axioms shadowCopies_proved
end Go.Proofs.Ytkfncibmfcdokaa
