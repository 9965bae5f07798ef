/- FlowGets: behind any acts a flow of 2 frames and 2 sectors tells of each place the set that the document's flow has, and refuses a place that may not be. -/
import Derived.Test.YtkfncibmfcdokaaXDoes
import Derived.Test.YtkfncibmfcdokaaXOpen4
import Derived.Test.YtkfncibmfcdokaaXStep
set_option linter.unusedVariables false
set_option linter.unusedSimpArgs false
set_option maxRecDepth 100000
namespace Go.Proofs.Ytkfncibmfcdokaa
open Go Go.RowKit Go.X Go.ChangeShapes Go.WideShapes Go.ChangeAt

def playF (F : Fl) (acts : List ActV) : Fl := acts.foldl stepF F
def playR (R : Rf) (acts : List ActV) : Rf := acts.foldl stepR R
theorem playF_snoc (F : Fl) (acts : List ActV) (a : ActV) : playF F (acts ++ [a]) = stepF (playF F acts) a := by simp [playF]
theorem playR_snoc (R : Rf) (acts : List ActV) (a : ActV) : playR R (acts ++ [a]) = stepR (playR R acts) a := by simp [playR]
theorem playR_shape (R : Rf) (acts : List ActV) : (playR R acts).fr = R.fr ∧ (playR R acts).se = R.se ∧ (playR R acts).most = R.most := by
  induction acts generalizing R with
  | nil => exact ⟨rfl, rfl, rfl⟩
  | cons a acts ih =>
    have h1 := ih (stepR R a)
    have h2 := stepR_shape R a
    exact ⟨h1.1.trans h2.1, h1.2.1.trans h2.2.1, h1.2.2.trans h2.2.2⟩
theorem playF_shape (F : Fl) (acts : List ActV) : (playF F acts).fr = F.fr ∧ (playF F acts).se = F.se ∧ (playF F acts).most = F.most := by
  induction acts generalizing F with
  | nil => exact ⟨rfl, rfl, rfl⟩
  | cons a acts ih =>
    have h1 := ih (stepF F a)
    have h2 := stepF_shape F a
    exact ⟨h1.1.trans h2.1, h1.2.1.trans h2.2.1, h1.2.2.trans h2.2.2⟩
theorem playR_len {R : Rf} (hne : R.sets ≠ []) : ∀ {acts : List ActV}, (∀ a ∈ acts, tame a) → (playR R acts).pairs.length ≤ R.pairs.length + 220 * acts.length ∧ (playR R acts).sets.length ≤ R.sets.length + 20 * acts.length ∧ (playR R acts).sets ≠ [] := by
  intro acts
  induction acts generalizing R with
  | nil => intro _; exact ⟨by simp [playR], by simp [playR], hne⟩
  | cons a acts ih =>
    intro h
    have h2 := stepR_len (h a (.head _)) hne
    have h1 := ih h2.2.2 (fun b hb => h b (.tail _ hb))
    simp only [List.length_cons]
    refine ⟨?_, ?_, h1.2.2⟩
    · show (playR (stepR R a) acts).pairs.length ≤ _
      omega
    · show (playR (stepR R a) acts).sets.length ≤ _
      omega
theorem RelF.play {F : Fl} {R : Rf} (h : RelF F R) (acts : List ActV) : RelF (playF F acts) (playR R acts) := by
  induction acts generalizing F R with
  | nil => exact h
  | cons a acts ih => exact ih (h.step a)
theorem vast_tame {acts : List ActV} (h : ¬ vastA acts) : acts.length ≤ 30 ∧ ∀ a ∈ acts, tame a := by
  unfold vastA at h
  refine ⟨?_, fun a ha hb => h (.inr ⟨a, ha, hb⟩)⟩
  by_cases h1 : acts.length ≤ 30
  · exact h1
  · exact absurd (.inl (by omega)) h

/-- Both flows, behind some acts, in memory of their own. -/
structure BothAt (w0 w : World) (bf : Nat) (F : Fl) (R : Rf) (p4 : Option Addr) (n4 c4 : Nat) (p5 : Option Addr) (n5 c5 : Nat) (fp : List Nat) : Prop where
  flow : FlowAt w bf F fp
  ref : RefAt w R p4 n4 c4 p5 n5 c5
  rel : RelF F R
  chg : Chg [] w0 w
  fresh : ∀ i ∈ fp, w0.heap.size ≤ i
  rows : ∀ i ∈ rowB p4 ++ rowB p5, i ∉ fp

theorem gets_walk {w : World} {l1 p1 : Option Addr} {ln lc pn pc : Nat} {acts : List ActV} {ps : List (Int × Int)} (hA : ActsAt w (oldS w) l1 ln acts) (hln : ln ≤ maxLen) (hp : PlacesAt w (oldS w) p1 pn ps) (hpn : pn ≤ maxLen) :
    Calls Try.prog 4 #[.slice l1 ln lc, .slice p1 pn pc] w fun e w' => ∃ r : Bool, e = .returned (.bool r) ∧ (r = true ∧ Chg [] w w') := by
  have hal := hA.length
  have hpl := hp.length
  have hln' := hln
  have hpn' := hpn
  simp only [maxLen] at hln' hpn'
  refine go_pomanderlaw12_FlowGets _ _ _ _ _ _ _ _ ?_
  unfold W_pomanderlaw12_FlowGets
  refine (vast_ok (c := lc) hA hln).mono ?_
  rintro _ w1 ⟨_, rfl, rfl, hw⟩
  subst w1
  refine ⟨_, rfl, fun hb => ?_, fun hb => ?_⟩
  · refine (known12 w).mono ?_
    rintro _ w2 ⟨_, rfl, rfl, c2⟩
    exact ⟨_, rfl, rfl, c2⟩
  have hb' : ¬ vastA acts ∧ pn ≤ 40 := by
    have : ¬ vastA acts ∧ (pn : Int) ≤ 40 := by simpa using hb
    exact ⟨this.1, by omega⟩
  obtain ⟨hl30, htame⟩ := vast_tame hb'.1
  intro b1 w4 l4 c4
  refine (flow_new w4 2 2 20).mono ?_
  rintro _ w5 ⟨r4, r5, rfl, c5, hr⟩
  rw [if_pos (by unfold rightP; decide)] at hr
  obtain ⟨rfl, bf, fp, rfl, hF, hfp⟩ := hr
  have s4 := c4.size
  have s5 := c5.size
  refine ⟨_, _, rfl, Same.chg c5 (by simp; omega), ?_⟩
  refine (ref_new 2 2 20).mono ?_
  rintro _ w6 ⟨r6, r7, r8, r9, r9n, r9c, r10, r10n, r10c, rfl, rfl, rfl, rfl, hR, c6, hf6⟩
  have s6 := c6.size
  refine ⟨_, _, _, _, _, _, _, _, _, rfl, ?_⟩
  intro b2 w8 l8 c8
  have s8 := c8.size
  have hlt5 := hF.lt
  have hb0 : BothAt w w8 bf (flowNew 2 2 20) ⟨2, 2, 20, [0], []⟩ r9 r9n r9c r10 r10n r10c fp :=
    ⟨(hF.chg c6 (by simp)).chg c8 (by simp), hR.chg c8 (by simp) (by simp), RelF.new 2 2 20, ((c4.trans0 c5).trans0 c6).trans0 c8, fun i hi => by have := hfp i hi; omega, fun i hi hm => by
      have := hf6 i hi; have := hlt5 i hm; omega⟩
  have hold : ∀ {i : Nat}, oldS w i → i < w.heap.size := fun h => h
  refine ⟨fun _ i c1 c2 c3 q4 q4n q4c q5 q5n q5c w' => ∃ (j : Nat) (fp : List Nat), i = (j : Int) ∧ j ≤ ln ∧ c1 = 2 ∧ c2 = 2 ∧ c3 = 20 ∧ BothAt w w' bf (playF (flowNew 2 2 20) (acts.take j)) (playR ⟨2, 2, 20, [0], []⟩ (acts.take j)) q4 q4n q4c q5 q5n q5c fp ∧ b2 ∉ fp ∧ b2 ∉ rowB q4 ++ rowB q5 ∧ w8.heap.size ≤ w'.heap.size,
    fun _ i _ _ _ _ _ _ _ _ _ _ => (ln - i).toNat, ⟨0, fp, rfl, by omega, rfl, rfl, rfl, hb0, fun hm => by have := hlt5 _ hm; omega, fun hm => by
      have := (List.mem_append.1 hm).elim (hR.sets.lt _) (hR.pairs.lt _); omega, Nat.le_refl _⟩, ?_⟩
  rintro x1 _ _ _ _ q4 q4n q4c q5 q5n q5c w9 ⟨j, fp9, rfl, hj, rfl, rfl, rfl, hB, hb2, hb2r, s9⟩
  have hsh := playR_shape ⟨2, 2, 20, [0], []⟩ (acts.take j)
  have hshF := playF_shape (flowNew 2 2 20) (acts.take j)
  have hlen := playR_len (R := ⟨2, 2, 20, [0], []⟩) (by simp) (acts := acts.take j) (fun a ha => htame a (List.mem_of_mem_take ha))
  have htl : (acts.take j).length ≤ 30 := by rw [List.length_take]; omega
  simp only [List.length_nil, List.length_cons] at hlen
  refine ⟨fun hlt => ?_, fun hge => ?_⟩
  · have hlt' : j < ln := by simpa using hlt
    obtain ⟨a, hx⟩ := get_of (l := acts) (j := j) (by omega)
    have hmem : a ∈ acts := List.mem_of_getElem? hx
    intro w10 c10
    have s10 := c10.size
    have c010 := hB.chg.trans0 c10
    obtain ⟨b, q, qn, qc, rfl, hbS, hc, hAct⟩ := (hA.chg c010 (by simp)).each j _ hx
    have hbb : ∀ k, (b.add k).block < w.heap.size := fun k => by rw [add_block]; exact hbS
    have hS : ∀ i ∈ fp9, ¬ oldS w i := fun i hi ho => by have := hB.fresh i hi; have := hold ho; omega
    have hlt9 := hB.flow.lt
    have hr9 : ∀ i ∈ rowB q4 ++ rowB q5, i < w9.heap.size := fun i hi => (List.mem_append.1 hi).elim (hB.ref.sets.lt i) (hB.ref.pairs.lt i)
    refine ⟨b, rfl, by omega, by omega, a.kind, a.n, a.p.1, a.p.2, a.set, q, qn, qc, by simpa using hc,
      fun b3 v1 v2 v3 g4 g4n g4c g5 g5n g5c ok w' => v1 = 2 ∧ v2 = 2 ∧ v3 = 20 ∧ ok = true ∧ w.heap.size ≤ b3 ∧ b3 ≠ b2 ∧ ∃ fp', BothAt w w' bf (playF (flowNew 2 2 20) (acts.take (j + 1))) (playR ⟨2, 2, 20, [0], []⟩ (acts.take (j + 1))) g4 g4n g4c g5 g5n g5c fp' ∧ b2 ∉ fp' ∧ b2 ∉ rowB g4 ++ rowB g5 ∧ b3 ∉ fp' ∧ b3 ∉ rowB g4 ++ rowB g5 ∧ w8.heap.size ≤ w'.heap.size, ?_, ?_, ?_⟩
    · rintro b3 _ _ _ g4 g4n g4c g5 g5n g5c _ w11 ⟨rfl, rfl, rfl, rfl, hb3, hne, fp', hB', hb2', hb2r', hb3', hb3r', s11⟩
      intro w16 c16
      refine ⟨fun h => by simp at h, fun _ w17 c17 => ?_⟩
      rw [wr (by omega) (by omega)]
      have s16 := c16.size
      have s17 := c17.size
      refine ⟨⟨j + 1, fp', by omega, by omega, rfl, rfl, rfl, ⟨(hB'.flow.chg c16 (fun i hi hm => by simp at hm; exact hb3' (hm ▸ hi))).chg c17 (fun i hi hm => by simp at hm; exact hb2' (hm ▸ hi)), (hB'.ref.chg c16 (fun i hi hm => by simp at hm; exact hb3r' (hm ▸ List.mem_append_left _ hi)) (fun i hi hm => by simp at hm; exact hb3r' (hm ▸ List.mem_append_right _ hi))).chg c17 (fun i hi hm => by simp at hm; exact hb2r' (hm ▸ List.mem_append_left _ hi)) (fun i hi hm => by simp at hm; exact hb2r' (hm ▸ List.mem_append_right _ hi)), hB'.rel,
        (hB'.chg.trans c16 (fun i hi hlt => by simp at hi; omega)).trans c17 (fun i hi hlt => by simp at hi; omega), hB'.fresh, hB'.rows⟩, hb2', hb2r', by omega⟩, by simp only []; omega⟩
    · have hd := does_ok (hB.flow.chg c10 (by simp)) (hB.ref.chg c10 (by simp) (by simp)) hB.rel hB.rows (by omega) (by omega) hlen.2.2 hAct hS (htame a hmem)
      rw [hsh.1, hsh.2.1, hsh.2.2] at hd
      refine hd.mono ?_
      rintro _ w12 ⟨_, _, _, g4, g4n, g4c, g5, g5n, g5c, _, rfl, rfl, rfl, rfl, rfl, hR12, fp12, hF12, c12, hf12, hg12, hd12⟩
      have s12 := c12.size
      refine ⟨_, _, _, _, _, _, _, _, _, _, rfl, by simpa using c12.cells (fun hm => by have := hB.fresh _ hm; have := hbb (j * 6); omega) hc, Same.of c12 (by simp; exact ⟨by omega, hb2⟩), fun b4 w13 l13 c13 => ?_⟩
      have s13 := c13.size
      have hlt12 := hF12.lt
      have hr12 : ∀ i ∈ rowB g4 ++ rowB g5, i < w12.heap.size := fun i hi => (List.mem_append.1 hi).elim (hR12.sets.lt i) (hR12.pairs.lt i)
      have hb2g : b2 ∉ rowB g4 ++ rowB g5 := fun hm => by
        rcases hg12 _ hm with h | h
        · exact hb2r h
        · omega
      have hb2f : b2 ∉ fp12 := fun hm => by
        rcases hf12 _ hm with h | h
        · exact hb2 h
        · omega
      rw [take_snoc hx, playF_snoc, playR_snoc]
      refine ⟨rfl, rfl, rfl, rfl, by have := hB.chg.size; omega, by omega, fp12, ⟨hF12.chg c13 (by simp), hR12.chg c13 (by simp) (by simp), hB.rel.step a, (c010.trans c12 (fun i hi hlt => by have := hB.fresh i hi; omega)).trans0 c13, fun i hi => ?_, hd12⟩, hb2f, hb2g, fun hm => by have := hlt12 _ hm; omega, fun hm => by have := hr12 _ hm; omega, by omega⟩
      rcases hf12 i hi with h | h
      · exact hB.fresh i h
      · have := hB.chg.size; omega
    · intro b5 w14 l14 c14
      have s14 := c14.size
      have c014 := c010.trans0 c14
      have hd := does_ok ((hB.flow.chg c10 (by simp)).chg c14 (by simp)) ((hB.ref.chg c10 (by simp) (by simp)).chg c14 (by simp) (by simp)) hB.rel hB.rows (by omega) (by omega) hlen.2.2 (hAct.chg c14 (by simp)) hS (htame a hmem)
      rw [hsh.1, hsh.2.1, hsh.2.2] at hd
      refine hd.mono ?_
      rintro _ w12 ⟨_, _, _, g4, g4n, g4c, g5, g5n, g5c, _, rfl, rfl, rfl, rfl, rfl, hR12, fp12, hF12, c12, hf12, hg12, hd12⟩
      have s12 := c12.size
      have hb5 : b5 ∉ fp9 := fun hm => by have := hlt9 _ hm; omega
      refine ⟨_, _, _, _, _, _, _, _, _, _, rfl, by simpa using c12.cells (fun hm => by have := hB.fresh _ hm; have := hbb (j * 6); omega) (c14.cells (by simp) hc), Same.of c12 (by simp; exact ⟨⟨by omega, hb5⟩, by omega, hb2⟩), ?_⟩
      have hlt12 := hF12.lt
      have hb2g : b2 ∉ rowB g4 ++ rowB g5 := fun hm => by
        rcases hg12 _ hm with h | h
        · exact hb2r h
        · omega
      have hb2f : b2 ∉ fp12 := fun hm => by
        rcases hf12 _ hm with h | h
        · exact hb2 h
        · omega
      rw [take_snoc hx, playF_snoc, playR_snoc]
      refine ⟨rfl, rfl, rfl, rfl, by have := hB.chg.size; omega, by omega, fp12, ⟨hF12, hR12, hB.rel.step a, c014.trans c12 (fun i hi hlt => by have := hB.fresh i hi; omega), fun i hi => ?_, hd12⟩, hb2f, hb2g, fun hm => ?_, fun hm => ?_, by omega⟩
      · rcases hf12 i hi with h | h
        · exact hB.fresh i h
        · have := hB.chg.size; omega
      · rcases hf12 _ hm with h | h
        · exact hb5 h
        · omega
      · rcases hg12 _ hm with h | h
        · have := hr9 _ h; omega
        · omega
  have hge' : ¬ j < ln := by simpa using hge
  generalize hFF : playF (flowNew 2 2 20) (acts.take j) = F at hB hshF
  generalize hRR : playR ⟨2, 2, 20, [0], []⟩ (acts.take j) = R at hB hsh hlen
  simp only [flowNew] at hshF
  simp only [] at hsh
  refine ⟨fun _ i w' => ∃ k : Nat, i = (k : Int) ∧ k ≤ pn ∧ Chg [] w9 w', fun _ i _ => (pn - i).toNat, ⟨0, rfl, by omega, Chg.refl _ _⟩, ?_⟩
  rintro x8 _ w18 ⟨k, rfl, hk, c18⟩
  have s18 := c18.size
  refine ⟨fun hlt => ?_, fun hge2 => ?_⟩
  · have hlt' : k < pn := by simpa using hlt
    obtain ⟨y, hy⟩ := get_of (l := ps) (j := k) (by omega)
    have c018 := hB.chg.trans0 c18
    obtain ⟨k1, k2, a, rfl, ha, hc⟩ := (hp.chg c018 (by simp)).each k _ hy
    refine ⟨a, rfl, by omega, by omega, y.1, y.2, by simpa using hc, ?_⟩
    refine (flow_Get (hB.flow.chg c18 (by simp)) (p1 := y.1) (p2 := y.2) k2).mono ?_
    rintro _ w19 ⟨r23, r24, rfl, c19, hr19⟩
    have s19 := c19.size
    refine ⟨_, _, rfl, Same.chg c19 (by simp; omega), fun w20 c20 => ?_⟩
    have s20 := c20.size
    have hc20 := c20.cells (by simp) (c19.cells (by simp) hc)
    refine ⟨y.1, y.2, by simpa using hc20, ?_⟩
    have hm := ref_may (w := w20) 2 2 20 q4 q5 q4n q4c q5n q5c y.1 y.2 (by unfold i64s; omega)
    refine hm.mono ?_
    rintro _ w21 ⟨_, rfl, rfl, c21⟩
    have s21 := c21.size
    rw [hshF.1, hshF.2.1] at hr19
    refine ⟨_, rfl, by simpa using c21.cells (by simp) hc20, Same.chg c21 (by simp; omega), fun b w' => b = false ∧ Chg [] w9 w', ?_, ?_, ?_⟩
    · rintro _ w22 ⟨rfl, c22⟩
      refine ⟨fun h => ?_, fun _ => ?_⟩
      · exfalso
        by_cases hmay : mayP 2 2 (y.1, y.2)
        · rw [if_pos hmay] at hr19; simp [hr19.2] at h
        · rw [if_neg hmay] at hr19; simp [hr19.1, hr19.2] at h
      · rw [wr (by omega) (by omega)]
        exact ⟨⟨k + 1, by omega, by omega, c22⟩, by simp only []; omega⟩
    · intro _
      have c921 := ((c18.trans0 c19).trans0 c20).trans0 c21
      refine ⟨y.1, y.2, by simpa using c21.cells (by simp) hc20, ?_⟩
      have hg := ref_get (hB.ref.chg c921 (by simp) (by simp)) (by have := hB.ref.n5; omega) y.1 y.2
      rw [hsh.1, hsh.2.1, hsh.2.2] at hg
      refine hg.mono ?_
      rintro _ w23 ⟨_, rfl, rfl, c23⟩
      have s23 := c23.size
      refine ⟨_, rfl, Same.chg c23 (by simp; omega), ?_, c921.trans0 c23⟩
      rw [hB.rel.look]
      by_cases hmay : mayP 2 2 (y.1, y.2)
      · rw [if_pos hmay] at hr19; simp [hr19.1]
      · rw [if_neg hmay] at hr19
        have : F.g (y.1, y.2) = 0 := by
          have := hB.flow.out (y.1, y.2)
          rw [hshF.1, hshF.2.1] at this
          exact this hmay
        simp [hr19.1, this]
    · intro h
      exfalso
      by_cases hmay : mayP 2 2 (y.1, y.2)
      · rw [if_pos hmay] at hr19; simp [hr19.2, hmay] at h
      · rw [if_neg hmay] at hr19; simp [hr19.2, hmay] at h
  · refine (known12 w18).mono ?_
    rintro _ w24 ⟨_, rfl, rfl, c24⟩
    exact ⟨_, rfl, rfl, (hB.chg.trans0 c18).trans0 c24⟩

theorem gets_lifted (os : Os) (started : os.Started) (H : Type) (enc : TypeId × Value → H) :
    ReturnsInHanded {} Try.checked os 4 .any (Rows.flowGetsSpec.pre6 enc Try.prog Try.f4 Rows.flowGetsRow.domain false) (Rows.flowGetsSpec.post enc Try.prog Try.f4 false true false false) := by
  refine returnsInHanded_of_change (C := Try.checked) ownX started (by kernel_rfl) Try.func4
    (ChangeSpec.witness6 (enc := enc) (C := Try.checked) false ⟨#[], #[.slice none 0 0, .slice none 0 0], []⟩ 8 (by kernel_rfl) (by kernel_rfl) (by kernel_rfl) (by kernel_rfl)) ?_
  intro W base args ds gs before hval0 hW hcnd _
  have hval : ∀ (j : Nat) t v, Try.f4.params[j]? = some t → args[j]? = some v → Value.okWide Try.prog W .any base t v := hval0
  have hW' := hW
  obtain ⟨p, q, hA0, hV, rfl, hfz, hnd⟩ := hW
  have hA : DataW.TrodAll enc Try.prog W 0 (fun _ => true) true Try.f4.params.toList args.toList ds p := hA0
  rw [Try.params4] at hA hval
  have hAll := hA
  obtain ⟨v0, vs0, d0, ds0, p0, q0, hargs, rfl, rfl, h0, r0⟩ := trodAll_cons hA
  obtain ⟨v1, vs1, d1, ds1, p1, q1, rfl, rfl, rfl, h1, r1⟩ := trodAll_cons r0
  obtain ⟨rfl, rfl, rfl⟩ := trodAll_nil r1
  obtain rfl : args = #[v0, v1] := by cases args; simp_all
  obtain ⟨rfl, rfl⟩ := trodVars_none hV
  have hblt : ∀ x ∈ p0 ++ (p1 ++ []), x.block < W.heap.size := fun x hx => hW'.lt x (by simpa using hx)
  obtain ⟨a0, n0, k0, rfl⟩ := okWide_slice Try.underlying46 (hval 0 46 v0 rfl rfl)
  obtain ⟨a1, n1, k1, rfl⟩ := okWide_slice Try.underlying47 (hval 1 47 v1 rfl rfl)
  obtain ⟨f0, g0⟩ := h0
  obtain ⟨f1, g1⟩ := h1
  obtain ⟨q1, m1, c1, acts, hms, hm1, hM⟩ := open_acts g0
  obtain ⟨q2, m2, c2, ps, hts, hm2, hT⟩ := open_places g1
  simp [Value.cells] at hms hts
  obtain ⟨rfl, rfl, rfl⟩ := hms
  obtain ⟨rfl, rfl, rfl⟩ := hts
  clear hA0 hval0
  refine (gets_walk hM hm1 hT hm2).mono fun e W' ⟨r, he, hr, hc⟩ => ?_
  subst he hr
  have bel := hc.below
  exact ⟨_, rfl, _, _, _, [], _, [], hW', trodAll_mk1 (shut_bool (by kernel_rfl) _), all_below laidOutX bel _ _ _ _ (fun t ht => by
    simp at ht
    rcases ht with rfl | rfl <;> exact ⟨by kernel_rfl, of_decide_eq_true (by kernel_rfl)⟩) hAll (fun x hx => hblt x (by simpa using hx)), rfl, bel.frame _, fun h => by cases h⟩

theorem gets_over : Rows.flowGetsRow.holds Try.pinned (OpenSpec.ofChange Rows.flowGetsSpec) :=
  OpenClaim.holds_of_wide 4 Try.f4 rfl rfl rfl rfl rfl rfl rfl ⟨rfl, rfl, rfl, rfl, rfl⟩ rfl rfl rfl rfl rfl (by kernel_rfl) Try.func4 (by kernel_rfl)
    (of_decide_eq_true (by kernel_rfl)) (by unfold Func.isWrapper; first | (rw [if_pos (by decide +kernel)]; kernel_rfl) | (rw [if_neg (by decide +kernel)]; exact ⟨rfl, rfl⟩))
    (fun os started H enc _ => gets_lifted os started H enc)

theorem flowGets_proved : Rows.FlowGetsSaid := gets_over
#print axioms flowGets_proved
end Go.Proofs.Ytkfncibmfcdokaa
