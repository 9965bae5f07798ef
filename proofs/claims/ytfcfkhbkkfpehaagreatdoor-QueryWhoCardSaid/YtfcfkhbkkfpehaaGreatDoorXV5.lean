/- Texts of the claim, merged: XKnown14 XQ6 XText14 XMade14 XPlain14 XQ3 XRefQ1 XRef1 XRef2 XRef3 XRef4 XRel XOpen XOpen2 XPol1 XG1 XApply XPol2 XActs XJoin XRefs XRefA XG2 XDoes XGood XPlay12 XG6 XCollect XSort XShCopy XAll XG7 XR03 XShadow3 XG9 XIs XG4 XG5 XClone. -/
import Derived.Test.YtfcfkhbkkfpehaaGreatDoorXV4
import Derived.Test.YtfcfkhbkkfpehaaGreatDoorProg
import Derived.Laws.Concat
import Derived.Laws.Strings
import Derived.Lib.ItoaLen
import Derived.WalkKit
import Derived.ProofKit
import Derived.OpenShut
import Derived.ChangeOld
import Derived.Carry
import Derived.Shelf.SortM.Plain
import Derived.Shelf.SortM.SortNone
import Derived.Sort.OwnSortedInts
import Derived.Laws.OwnMore
import Derived.Laws.Externs
import Derived.Laws.Cover3
import Derived.MapKept
set_option linter.unusedSectionVars false
set_option linter.unusedSimpArgs false
set_option linter.unusedVariables false
set_option maxRecDepth 100000
section
/- Law 14: known holds; lists of places compared; the text of a place. -/
namespace Go.Proofs.YtfcfkhbkkfpehaaGreatDoor
open Go Go.RowKit Go.X Go.XR
def CellsP (w : World) (q : Sl) (ps : List Pl) : Prop := q.2.1 = ps.length ∧ ∀ j x, ps[j]? = some x → ∃ a, q.1 = some a ∧ CellsAt w (a.add (j * 2)) 0 [.int .i64 x.1, .int .i64 x.2]
theorem CellsP.chg {w w' : World} {q : Sl} {ps : List Pl} {f : List Nat} (h : CellsP w q ps) (hc : Chg f w w') (hf : ∀ i ∈ rowB q.1, i ∉ f) : CellsP w' q ps :=
 ⟨h.1, fun j x hx => let ⟨a, ha, hcs⟩ := h.2 j x hx; ⟨a, ha, hc.cells (by rw [add_block]; exact hf _ (mem_rowB.2 ⟨a, ha, rfl⟩)) hcs⟩⟩
theorem ReadsP.cells {w : World} {q : Sl} {ps : List Pl} (h : ReadsP w q ps) : CellsP w q ps := ⟨h.1, h.2.2⟩
theorem row_cells {w : World} {p : Option Addr} {n c : Nat} {ps : List Pl} (h : RowAt w 25 2 p n c (ps.flatMap encPl)) (hn : n = ps.length) : CellsP w (p, n, c) ps := by
 refine ⟨hn, fun j x hj => ?_⟩
 obtain ⟨g0, g1⟩ := flat_get2 ps j x hj
 obtain ⟨a, ha, c0⟩ := h.at g0
 obtain ⟨a', ha', c1⟩ := h.at g1
 rw [ha] at ha'
 cases ha'
 exact ⟨a, ha, by rw [add_add]; exact c0, by rw [add_add]; exact c1, trivial⟩
theorem same_places {w : World} {p q : Option Addr} {pn pc qn qc : Nat} {xs ys : List Pl} (h1 : CellsP w (p, pn, pc) xs) (h2 : CellsP w (q, qn, qc) ys) (hl : xs.length ≤ 1000000000000) :
  Calls Tryz.prog 22 #[.slice p pn pc, .slice q qn qc] w fun e w' => ∃ r : Bool, e = .returned (.bool r) ∧ (r = decide (xs = ys) ∧ Chg [] w w') := by
 have n1 : pn = xs.length := h1.1
 have n2 : qn = ys.length := h2.1
 refine go_pomanderref10_SamePlaces _ _ _ _ _ _ _ _ ?_
 unfold W_pomanderref10_SamePlaces
 refine ⟨fun h => ⟨?_, Chg.refl _ _⟩, fun h => ?_⟩
 ·have hne : xs.length ≠ ys.length := by intro e; simp [n1, n2, e] at h
  symm; exact decide_eq_false (fun e => hne (by rw [e]))
 have hlen : xs.length = ys.length := by
  have : (pn : Int) = qn := by simpa using h
  omega
 refine ⟨fun x i w1 => ∃ j : Nat, i = (j : Int) ∧ j ≤ xs.length ∧ xs.take j = ys.take j ∧ Chg [] w w1, fun _ i _ => (xs.length - i).toNat, ⟨0, rfl, Nat.zero_le _, rfl, Chg.refl _ _⟩, ?_⟩
 rintro x1 _ w1 ⟨j, rfl, hj, ht, c1⟩
 refine ⟨fun hlt => ?_, fun hge => ?_⟩
 ·have hjn : j < xs.length := by have := of_decide_eq_true hlt; omega
  obtain ⟨x, hx⟩ := get_of hjn
  obtain ⟨y, hy⟩ := get_of (l := ys) (j := j) (by omega)
  obtain ⟨a, ha, ca⟩ := h1.2 j x hx
  obtain ⟨a', ha', ca'⟩ := h2.2 j y hy
  refine ⟨a, ha, by omega, by omega, fun w2 c2 => ?_⟩
  have c02 := c1.trans0 c2
  refine ⟨x.1, x.2, by simpa using c02.cells (by simp) ca, a', ha', by omega, by omega, y.1, y.2, by simpa using c02.cells (by simp) ca', fun hne => ⟨?_, c02⟩, fun heq => ?_⟩
  ·symm
   refine decide_eq_false (fun e => ?_)
   subst e
   rw [hx] at hy
   cases hy
   simp at hne
  ·have hxy : x = y := by
    simp at heq
    exact Prod.ext heq.1 heq.2
   subst hxy
   rw [wr (by omega) (by omega)]
   exact ⟨⟨j + 1, by omega, by omega, by rw [take_snoc hx, take_snoc hy, ht], c02⟩, by simp only []; omega⟩
 ·have hjn : j = xs.length := by have := of_decide_eq_false hge; omega
  refine ⟨?_, c1⟩
  symm
  refine decide_eq_true ?_
  rw [hjn, List.take_length] at ht
  rw [ht, hlen, List.take_length]
/-! ### The text of mem 5 -/
def sMem : ByteArray := ⟨#[109, 101, 109]⟩
theorem small5 (w : World) : Calls Tryz.prog 106 #[.int .i64 5] w fun e w' => ∃ r : ByteArray, e = .returned (.string r) ∧ (r = ⟨#[53]⟩ ∧ w' = w) := by
 refine go_internal_strconv_small _ _ _ ?_
 unfold W_internal_strconv_small
 exact ⟨fun _ => ⟨⟨#[53]⟩, fun w => by kernel_rfl, rfl, rfl⟩, fun h => by simp at h⟩
theorem formatInt5 (w : World) : Calls Tryz.prog 88 #[.int .i64 5, .int .i64 10] w fun e w' => ∃ r : ByteArray, e = .returned (.string r) ∧ (r = ⟨#[53]⟩ ∧ w' = w) := by
 refine go_internal_strconv_FormatInt _ _ _ _ ?_
 unfold W_internal_strconv_FormatInt
 refine ⟨fun _ => ⟨fun _ => ?_, fun h => by simp at h⟩, fun h => by simp at h⟩
 refine (small5 w).mono ?_
 rintro _ w1 ⟨_, rfl, rfl, hw⟩
 exact ⟨_, rfl, rfl, hw⟩
theorem itoa5 (w : World) : Calls Tryz.prog 44 #[.int .i64 5] w fun e w' => ∃ r : ByteArray, e = .returned (.string r) ∧ (r = ⟨#[53]⟩ ∧ w' = w) := by
 refine go_strconv_Itoa _ _ _ ?_
 unfold W_strconv_Itoa
 refine (go_internal_strconv_Itoa _ _ (fun r w' => r = ⟨#[53]⟩ ∧ w' = w) ?_).mono ?_
 ·unfold W_internal_strconv_Itoa
  exact formatInt5 w
 ·rintro _ w1 ⟨_, rfl, rfl, hw⟩
  exact ⟨_, rfl, rfl, hw⟩
theorem query_names (w : World) : Calls Tryz.prog 43 #[] w fun e w' => e = .returned (.agg #[.string ⟨#[110, 111, 110, 101]⟩, .string ⟨#[114, 101, 103]⟩, .string ⟨#[112, 99]⟩, .string ⟨#[101, 112, 99]⟩, .string ⟨#[99, 97, 117, 115, 101]⟩, .string ⟨#[118, 101, 99]⟩, .string ⟨#[116, 97, 98, 108, 101]⟩, .string ⟨#[109, 111, 100, 101]⟩, .string ⟨#[109, 97, 115, 107]⟩, .string ⟨#[97, 108, 97, 114, 109]⟩, .string ⟨#[109, 101, 109]⟩, .string ⟨#[116, 108, 98]⟩, .string ⟨#[115, 101, 99, 116, 111, 114]⟩, .string ⟨#[105, 110]⟩, .string ⟨#[111, 117, 116]⟩, .string ⟨#[112, 97, 99, 107, 101, 116]⟩, .string ⟨#[115, 101, 110, 116]⟩, .string ⟨#[97, 115, 107]⟩]) ∧ Chg [] w w' := by
 refine (go_query_names w (fun r2 r3 r4 r5 r6 r7 r8 r9 r10 r11 r12 r13 r14 r15 r16 r17 r18 r19 w' => (r2 = ⟨#[110, 111, 110, 101]⟩ ∧ r3 = ⟨#[114, 101, 103]⟩ ∧ r4 = ⟨#[112, 99]⟩ ∧ r5 = ⟨#[101, 112, 99]⟩ ∧ r6 = ⟨#[99, 97, 117, 115, 101]⟩ ∧ r7 = ⟨#[118, 101, 99]⟩ ∧ r8 = ⟨#[116, 97, 98, 108, 101]⟩ ∧ r9 = ⟨#[109, 111, 100, 101]⟩ ∧ r10 = ⟨#[109, 97, 115, 107]⟩ ∧ r11 = ⟨#[97, 108, 97, 114, 109]⟩ ∧ r12 = ⟨#[109, 101, 109]⟩ ∧ r13 = ⟨#[116, 108, 98]⟩ ∧ r14 = ⟨#[115, 101, 99, 116, 111, 114]⟩ ∧ r15 = ⟨#[105, 110]⟩ ∧ r16 = ⟨#[111, 117, 116]⟩ ∧ r17 = ⟨#[112, 97, 99, 107, 101, 116]⟩ ∧ r18 = ⟨#[115, 101, 110, 116]⟩ ∧ r19 = ⟨#[97, 115, 107]⟩) ∧ Chg [] w w') ?_).mono ?_
 ·unfold W_query_names
  rintro b1 w2 ⟨_, _⟩ c
  exact ⟨⟨rfl, rfl, rfl, rfl, rfl, rfl, rfl, rfl, rfl, rfl, rfl, rfl, rfl, rfl, rfl, rfl, rfl, rfl⟩, c⟩
 ·rintro e w1 ⟨r2, r3, r4, r5, r6, r7, r8, r9, r10, r11, r12, r13, r14, r15, r16, r17, r18, r19, rfl, ⟨rfl, rfl, rfl, rfl, rfl, rfl, rfl, rfl, rfl, rfl, rfl, rfl, rfl, rfl, rfl, rfl, rfl, rfl⟩, c⟩
  exact ⟨rfl, c⟩
theorem text_mem5 (w : World) : Calls Tryz.prog 20 #[.agg #[.int .i64 10, .int .i64 5]] w fun e w' => ∃ r : ByteArray, e = .returned (.string r) ∧ (r = ⟨#[109, 101, 109, 32, 53]⟩ ∧ Chg [] w w') := by
 refine go_query_Text _ _ _ _ ?_
 unfold W_query_Text
 rintro b1 w1 ⟨l1, u1⟩ c1
 refine ⟨fun b w' => b = false ∧ Chg [] w w' ∧ b1 < w'.heap.size, ?_, fun _ => ⟨rfl, c1, u1⟩, fun h => by simp at h⟩
 rintro _ w2 ⟨rfl, c2, u2⟩
 refine ⟨fun h => by simp at h, fun _ => ⟨fun b w' => b = true ∧ Chg [] w w' ∧ b1 < w'.heap.size, ?_, fun _ => ⟨rfl, c2, u2⟩, fun h => by simp at h⟩⟩
 rintro _ w3 ⟨rfl, c3, u3⟩
 refine ⟨fun _ w4 c4 => ?_, fun h => by simp at h⟩
 refine (query_names w4).mono ?_
 rintro _ w5 ⟨rfl, c5⟩
 have s4 := c4.size
 refine ⟨_, _, _, _, _, _, _, _, _, _, _, _, _, _, _, _, _, _, rfl, Same.chg c5 (by simp; omega), sMem, fun w => by kernel_rfl, ⟨#[109, 101, 109, 32]⟩, fun w => by kernel_rfl, ?_⟩
 refine (itoa5 w5).mono ?_
 rintro _ w6 ⟨_, rfl, rfl, hw⟩
 subst w6
 exact ⟨_, rfl, Same.refl _ _, ⟨#[109, 101, 109, 32, 53]⟩, fun w => by kernel_rfl, rfl, (c3.trans0 c4).trans0 c5⟩
theorem single_of {l : List Pl} {a : Pl} (hn : l.Nodup) (h : ∀ q, q ∈ l ↔ q = a) : l = [a] := by
 cases l with
 | nil => exact absurd ((h a).2 rfl) (by simp)
 | cons x l =>
  have hx := (h x).1 (.head _)
  subst hx
  cases l with
  | nil => rfl
  | cons y l =>
   have hy := (h y).1 (.tail _ (.head _))
   subst hy
   simp at hn
theorem touch_one {w : World} {b4 b5 : Nat} {x y : Pl} (h4 : w.heap[b4]? = some (.cells #[.int .i64 x.1, .int .i64 x.2] 25 (0, 0))) (h5 : w.heap[b5]? = some (.cells #[.int .i64 y.1, .int .i64 y.2, .slice (some (⟨b4, 0, none⟩ : Addr)) 1 1] 36 (0, 0)))
  (hx : i64s x.1 ∧ i64s x.2) (hy : i64s y.1 ∧ i64s y.2) : TouchesAt w (fun i => i = b4 ∨ i = b5) (some ⟨b5, 0, none⟩) 1 [(y, [x])] := by
 refine ⟨rfl, fun j t ht => ?_⟩
 match j, ht with
 | 0, ht =>
  simp at ht; subst ht
  refine ⟨hy.1, hy.2, ⟨b5, 0, none⟩, _, _, _, rfl, .inr rfl, by simpa [add_at] using cellsAt_of h5, rfl, fun j z hz => ?_⟩
  match j, hz with
  | 0, hz =>
   simp at hz; subst hz
   exact ⟨hx.1, hx.2, ⟨b4, 0, none⟩, rfl, .inl rfl, by simpa [add_at] using cellsAt_of h4⟩
  | j + 1, hz => simp at hz
 | j + 1, ht => simp at ht
def nsK : List Nt := [(1, (1, 1), [(13, 0)]), (2, (10, 5), [(1, 1)])]
theorem root_known (q : Pl) : isRoot nsK ((10, 5), 9) q ↔ q = (13, 0) := by
 have k1 : kids nsK ((10, 5), 9) = [((1, 1), 2)] := by decide
 have k2 : kids nsK ((1, 1), 2) = [((13, 0), 1)] := by decide
 have k3 : kids nsK ((13, 0), 1) = [] := by decide
 have hr : ∀ u, Reach nsK ((10, 5), 9) u → u = ((10, 5), 9) ∨ u = ((1, 1), 2) ∨ u = ((13, 0), 1) := by
  intro u hu
  induction hu with
  | refl => exact .inl rfl
  | step _ hc ih =>
   rcases ih with rfl | rfl | rfl
   ·rw [k1] at hc; simp at hc; exact .inr (.inl hc)
   ·rw [k2] at hc; simp at hc; exact .inr (.inr hc)
   ·rw [k3] at hc; simp at hc
 constructor
 ·rintro ⟨u, hu, rfl, hb⟩
  rcases hr u hu with rfl | rfl | rfl
  ·exact absurd hb (by decide)
  ·exact absurd hb (by decide)
  ·rfl
 ·rintro rfl
  exact ⟨((13, 0), 1), .step (b := ((1, 1), 2)) (.step (b := ((10, 5), 9)) .refl (by rw [k1]; simp)) (by rw [k2]; simp), rfl, by decide⟩
theorem known_ok (w : World) : Calls Tryz.prog 6 #[] w fun e w' => ∃ r : Bool, e = .returned (.bool r) ∧ (r = true ∧ Chg [] w w') := by
 refine go_pomanderlaw14_known _ _ ?_
 unfold W_pomanderlaw14_known
 refine (query_new w).mono ?_
 rintro _ w1 ⟨_, rfl, b, fp, rfl, hH, c1, hf⟩
 refine ⟨_, rfl, ?_⟩
 rintro b3 b2 b1 w7 ⟨l3, u3⟩ ⟨l2, u2⟩ ⟨l1, u1⟩ c7
 have hlt := hH.lt
 have s1 := c1.size
 have s7 := c7.size
 refine v_alloc fun b4 w8 e4 hb4 c8 => ?_
 refine v_alloc fun b5 w9 e5 hb5 c9 => ?_
 have s8 := c8.size
 have s9 := c9.size
 have c19 := (c7.trans0 c8).trans0 c9
 have k4 := lt_of_heap hb4
 have k5 := lt_of_heap hb5
 refine (hist_add (ns := []) (last := 0) (hH.chg c19 (by simp)) (touch_one (x := (13, 0)) (y := (1, 1)) (c9.obj (by simp) hb4) hb5 (by simp [i64s]) (by simp [i64s])) (fun i hi hS => by have := hlt i hi; rcases hS with h | h <;> omega) (by simp) (by simp) (by simp [i64s])).mono ?_
 rintro _ w10 ⟨r3, rfl, fp2, c10, hf2, hr⟩
 rw [if_neg (by simp)] at hr
 obtain ⟨rfl, hH2⟩ := hr
 have s10 := c10.size
 refine ⟨0, rfl, Same.of c10 (fun i hi => by
  simp at hi
  exact ⟨by omega, fun hm => by have := hlt i hm; omega⟩), ?_⟩
 refine v_alloc fun b6 w11 e6 hb6 c11 => ?_
 refine v_alloc fun b7 w12 e7 hb7 c12 => ?_
 have s11 := c11.size
 have s12 := c12.size
 have hlt2 := hH2.lt
 have k6 := lt_of_heap hb6
 have k7 := lt_of_heap hb7
 refine (hist_add (hH2.chg (c11.trans0 c12) (by simp)) (touch_one (x := (1, 1)) (y := (10, 5)) (c12.obj (by simp) hb6) hb7 (by simp [i64s]) (by simp [i64s])) (fun i hi hS => by have := hlt2 i hi; rcases hS with h | h <;> omega) (by simp) (by decide) (by simp [i64s])).mono ?_
 rintro _ w13 ⟨r4, rfl, fp3, c13, hf3, hr⟩
 rw [if_neg (by decide)] at hr
 obtain ⟨rfl, hH3⟩ := hr
 have hb31 : ∀ i, (i = b3 ∨ i = b1) → i ∉ fp2 := fun i hi hm => by
  rcases hf2 i hm with h | h
  ·have := hlt i h; omega
  ·omega
 refine ⟨0, rfl, Same.of c13 (fun i hi => by
  simp at hi
  exact ⟨by omega, hb31 i hi⟩), ?_⟩
 have s13 := c13.size
 refine (hist_roots hH3 (by decide) (by decide) 10 5 9).mono ?_
 rintro _ w14 ⟨r5, r5n, r5c, rfl, c14, ys, hrow, hlen, hfr, hnd, _, hmem, _⟩
 have hys : ys = [(13, 0)] := single_of hnd (fun q => (hmem q).trans (root_known q))
 subst hys
 have hcs := row_cells hrow hlen
 obtain rfl : 1 = r5n := hlen.symm
 refine ⟨_, _, _, rfl, Same.chg c14 (by simp; omega), fun w15 c15 => ?_⟩
 obtain ⟨a, ha, hca⟩ := (hcs.chg c15 (by simp)).2 0 _ rfl
 have call : Chg [] w w15 := by
  have d1 : Chg [] w w10 := (c1.trans0 c19).trans c10 (fun i hi hlt' => by have := hf i hi; omega)
  have d2 : Chg [] w w13 := ((d1.trans0 c11).trans0 c12).trans c13 (fun i hi hlt' => by
   rcases hf2 i hi with h | h
   ·have := hf i h; omega
   ·omega)
  exact (d2.trans0 c14).trans0 c15
 refine ⟨fun b w' => b = true ∧ Chg [] w w', ?_, fun _ => ⟨a, ha, by omega, by decide, 13, 0, by simpa using hca, rfl, call⟩, fun h => by simp at h⟩
 rintro _ w16 ⟨rfl, c16⟩
 refine ⟨fun b w' => b = true ∧ Chg [] w w', fun b w' h => h, fun _ => ?_, fun h => by simp at h⟩
 refine (text_mem5 w16).mono ?_
 rintro _ w18 ⟨_, rfl, rfl, c18⟩
 exact ⟨_, rfl, true, fun w => by kernel_rfl, rfl, c16.trans0 c18⟩
end Go.Proofs.YtfcfkhbkkfpehaaGreatDoor
end
section
namespace Go.Proofs.YtfcfkhbkkfpehaaGreatDoor
open Go Go.X
/- pomander/query.Who -/
def W_query_Who (f1 : Option Addr) (set1 : Int) (w : World) (R : (Option Addr) → Nat → Nat → Int → World → Prop) : Prop :=
 ∀ (b1 : Nat) (w1 : World), (w.heap.size ≤ b1 ∧ b1 < w1.heap.size) → Chg [] w w1 → (Calls Tryz.prog 27 #[.pointer f1] w1 fun e w2 => ∃ (r3 : Option Addr), e = .returned (.pointer r3) ∧ (Same w1 w2 [b1] ∧ (((Option.isNone r3) = true → R none 0 0 1 w2) ∧ ((Option.isNone r3) = false → ((decide (set1 ≥ 65536)) = true → R none 0 0 2 w2) ∧ ((decide (set1 ≥ 65536)) = false → ∀ (b2 : Nat) (w3 : World), (w2.heap.size ≤ b2 ∧ b2 < w3.heap.size) → Chg [] w2 w3 → (Calls Tryz.prog 28 #[.pointer f1] w3 fun e w4 => ∃ (r4 : Value), e = .returned (r4) ∧ (Same w3 w4 [b2, b1] ∧ (∃ (S1 Sp1 : List (Int × Int × Int) → Prop) (keep1 : List Nat), XR.IsFn Tryz.prog r4 ∧ XR.Iterates Tryz.prog r4 (fun x : Int × Int × Int => #[.agg #[.int .i64 x.1, .int .i64 x.2.1], .int .u32 x.2.2]) S1 Sp1 keep1 w4 ∧ (∀ i_ ∈ keep1, i_ < w4.heap.size) ∧ ∃ (I1 : (Option Addr) → Nat → Nat → List Nat → List (Int × Int × Int) → World → Prop), (∀ (c1 : Option Addr) (c1n : Nat) (c1c : Nat) (pre_ : List (Int × Int × Int)), XR.Stab w4 (fun O_ w_ => I1 c1 c1n c1c O_ pre_ w_)) ∧ (∀ (O1 : List Nat) (w5 : World), Chg [] w4 w5 → XR.InO w4 O1 w5 → I1 none 0 0 O1 ([]) w5) ∧ (∀ (l1 : Nat) (O1 : List Nat) (pre1 : List (Int × Int × Int)) (x1 : Int) (x2 : Int) (x3 : Int) (c1 : Option Addr) (c1n : Nat) (c1c : Nat) (w5 : World), XR.InO w4 O1 w5 → l1 ∈ O1 → Sp1 (pre1 ++ [(x1, x2, x3)]) → I1 c1 c1n c1c O1 pre1 w5 → (∀ (b3 : Nat) (w8 : World), (w5.heap.size ≤ b3 ∧ b3 < w8.heap.size) → Chg [l1] w5 w8 → (((!((bits .and .u32 x3 set1) == 0)) = true → ∀ b4 : Nat, b4 = World.size w8 → ∀ w9 : World, w9 = World.alloc w8 (.cells #[.int .i64 x1, .int .i64 x2] 25) → (∃ (l2 : Option Addr) (l2n : Nat) (l2c : Nat) (w10 : World), (Builtin.append_ #[34, 34] 34 #[.slice c1 c1n c1c, .slice (some (⟨b4, 0, none⟩ : Addr)) 1 1]).run Tryz.prog w9 = .ok (.slice l2 l2n l2c) w10 ∧ (Same w9 w10 [b1, b2] ∧ (∀ (w11 : World), Chg [b2] w10 w11 → ((w8.heap.size ≤ w11.heap.size ∧ I1 l2 l2n l2c O1 (pre1 ++ [(x1, x2, x3)]) w11 ∧ Same w8 w11 (keep1 ++ O1))))))) ∧ ((!((bits .and .u32 x3 set1) == 0)) = false → (w8.heap.size ≤ w8.heap.size ∧ I1 c1 c1n c1c O1 (pre1 ++ [(x1, x2, x3)]) w8 ∧ Same w8 w8 (keep1 ++ O1)))))) ∧ (∀ (d1 : Nat) (O2 : List Nat) (xs1 : List (Int × Int × Int)) (c1 : Option Addr) (c1n : Nat) (c1c : Nat) (w12 : World), XR.InO w4 O2 w12 → d1 ∈ O2 → S1 xs1 → I1 c1 c1n c1c O2 xs1 w12 → (∀ w13 : World, Chg [d1] w12 w13 → (R c1 c1n c1c 0 w13)))))))))))
set_option maxRecDepth 100000 in
theorem go_query_Who (f1 : Option Addr) (set1 : Int) (w : World) (R : (Option Addr) → Nat → Nat → Int → World → Prop) (h : W_query_Who f1 set1 w R) : Calls Tryz.prog 9 #[.pointer f1, .int .u32 set1] w (fun e w' => ∃ (r1 : Option Addr) (r1n : Nat) (r1c : Nat) (r2 : Int), e = .returned (.tuple #[.slice r1 r1n r1c, .int .i64 r2]) ∧ R r1 r1n r1c r2 w') := by
 unfold W_query_Who at h
 refine XR.enterM (N := 29) Tryz.func9 rfl rfl ?_
 refine CW.seq ?_
 refine CW.region fun L hL => ?_
 obtain ⟨b1, hb_b1⟩ : ∃ b1, b1 = World.size w := ⟨_, rfl⟩
 obtain ⟨w1, hw_w1⟩ : ∃ w1, w1 = World.alloc w (.cells #[.int .u32 set1] 43) := ⟨_, rfl⟩
 refine LW.val hL rfl (Wants.free rfl) rfl (boxE hb_b1 hw_w1 (Vl.box (v := .int .u32 set1) rfl)) ?_
 have hB := Boxes.alloc (cs := [.int .u32 set1]) (T := 43) (Boxes.nil w) hb_b1 hw_w1
 have hlo_b1 := sil_lo (Chg.refl [] w) hb_b1
 have hc_w1 := sil_alloc (Chg.refl [] w) hw_w1
 refine LW.rd hL rfl (Wants.free rfl) rfl (Rd.assign (v := .slice none 0 0) rfl) ?_
 refine LW.rd hL rfl (Wants.free rfl) rfl (Rd.assign (v := .int .i64 0) rfl) ?_
 refine LW.nil hL rfl ?_
 refine NW.then ?_
 refine CW.seq ?_
 refine CW.block ?_
 refine CW.seq ?_
 refine CW.region fun L hL => ?_
 refine LW.rd hL rfl (Wants.free rfl) rfl (Rd.move (v := .pointer f1) rfl) ?_
 replace h := h b1 w1 ⟨hlo_b1, lt_of_heap (hB.at (i := 0) rfl)⟩ hc_w1
 refine LW.call hL rfl (Wants.free rfl) rfl (Cl.fn (f := 27) rfl Tryz.func27 (by kernel_rfl) rfl) h (fun e w2 h_ => ?_)
 clear h
 obtain ⟨r3, rfl, h⟩ := h_
 obtain ⟨hsm1, h⟩ := h
 replace hB := Boxes.sameS hB hsm1 (by simp)
 refine ⟨_, rfl, ?_⟩
 refine LW.rd hL rfl (Wants.free rfl) rfl (Rd.bin (v := .bool (Option.isNone r3)) rfl rfl (fun w => ptr_nil_eq (by kernel_rfl) r3 w)) ?_
 refine LW.rd hL rfl (Wants.free rfl) rfl (Rd.assign (v := .bool (Option.isNone r3)) rfl) ?_
 refine LW.nil hL rfl ?_
 refine NW.then ?_
 refine CW.cond rfl (fun hb1 => ?_) (fun hb1 => ?_)
 ·replace h := h.1 hb1
  refine CW.seq ?_
  refine CW.region fun L hL => ?_
  refine LW.rd hL rfl (Wants.free rfl) rfl (Rd.assign (v := .slice none 0 0) rfl) ?_
  refine LW.rd hL rfl (Wants.free rfl) rfl (Rd.assign (v := .int .i64 1) rfl) ?_
  refine LW.nil hL rfl ?_
  refine NW.then ?_
  refine CW.ret ?_
  refine RW.block ?_
  refine RW.then ?_
  exact XR.res0M (vs := [.slice none 0 0, .int .i64 1]) (by exact (ResOK.t rfl (ResOK.t rfl ResOK.nil))) rfl ⟨none, 0, 0, 1, rfl, h⟩
 ·replace h := h.2 hb1
  refine CW.seq ?_
  refine CW.region fun L hL => ?_
  refine LW.rd hL rfl (Wants.free rfl) rfl (Rd.ld (v := .int .u32 set1) rfl (by kernel_rfl) (eqs (box_cell (hB.at (i := 0) rfl) rfl))) ?_
  refine LW.rd hL rfl (Wants.free rfl) rfl (Rd.bin (v := .bool (decide (set1 ≥ 65536))) rfl rfl (fun w => by kernel_rfl)) ?_
  refine LW.rd hL rfl (Wants.free rfl) rfl (Rd.assign (v := .bool (decide (set1 ≥ 65536))) rfl) ?_
  refine LW.nil hL rfl ?_
  refine NW.then ?_
  refine CW.cond rfl (fun hb2 => ?_) (fun hb2 => ?_)
  ·replace h := h.1 hb2
   refine CW.seq ?_
   refine CW.region fun L hL => ?_
   refine LW.rd hL rfl (Wants.free rfl) rfl (Rd.assign (v := .slice none 0 0) rfl) ?_
   refine LW.rd hL rfl (Wants.free rfl) rfl (Rd.assign (v := .int .i64 2) rfl) ?_
   refine LW.nil hL rfl ?_
   refine NW.then ?_
   refine CW.ret ?_
   refine RW.block ?_
   refine RW.then ?_
   exact XR.res0M (vs := [.slice none 0 0, .int .i64 2]) (by exact (ResOK.t rfl (ResOK.t rfl ResOK.nil))) rfl ⟨none, 0, 0, 2, rfl, h⟩
  ·replace h := h.2 hb2
   refine CW.skip ?_
   refine NW.block ?_
   refine NW.then ?_
   refine CW.seq ?_
   refine CW.region fun L hL => ?_
   obtain ⟨b2, hb_b2⟩ : ∃ b2, b2 = World.size w2 := ⟨_, rfl⟩
   obtain ⟨w3, hw_w3⟩ : ∃ w3, w3 = World.alloc w2 (.cells #[.slice none 0 0] 34) := ⟨_, rfl⟩
   refine LW.val hL rfl (Wants.free rfl) rfl (boxE hb_b2 hw_w3 (Vl.alloc (z := .slice none 0 0) (by kernel_rfl))) ?_
   replace hB := Boxes.alloc (cs := [.slice none 0 0]) (T := 34) hB hb_b2 hw_w3
   have hlo_b2 := sil_lo (Chg.refl [] w2) hb_b2
   have hc_w3 := sil_alloc (Chg.refl [] w2) hw_w3
   refine LW.nil hL rfl ?_
   refine NW.then ?_
   refine CW.seq ?_
   refine CW.seq ?_
   refine CW.region fun L hL => ?_
   refine LW.rd hL rfl (Wants.free rfl) rfl (Rd.move (v := .pointer f1) rfl) ?_
   replace h := h b2 w3 ⟨hlo_b2, lt_of_heap (hB.at (i := 0) rfl)⟩ hc_w3
   refine LW.call hL rfl (Wants.free rfl) rfl (Cl.fn (f := 28) rfl Tryz.func28 (by kernel_rfl) rfl) h (fun e w4 h_ => ?_)
   clear h
   obtain ⟨r4, rfl, h⟩ := h_
   obtain ⟨hsm2, h⟩ := h
   replace hB := Boxes.sameS hB hsm2 (by simp)
   refine ⟨_, rfl, ?_⟩
   refine LW.nil hL rfl ?_
   refine NW.then ?_
   refine CW.block ?_
   obtain ⟨S1, Sp1, keep1, hfn_, hit_, hkp_, I1, hst_I1, h0_, hrd_, hdn_⟩ := h
   refine XR.CW.rangeV (α := Int × Int × Int) (enc := (fun x : Int × Int × Int => #[.agg #[.int .i64 x.1, .int .i64 x.2.1], .int .u32 x.2.2])) (S := S1) (Sp := Sp1) (keep := keep1) rfl hfn_ (fun _ => rfl) (by decide) hit_ (fun (O_ : List Nat) (pre_ : List (Int × Int × Int)) (w_ : World) => ∃ (c1 : Option Addr) (c1n : Nat) (c1c : Nat), I1 c1 c1n c1c O_ pre_ w_ ∧ Boxes w_ [(b1, [.int .u32 set1], 43), (b2, [.slice c1 c1n c1c], 34)]) (fun (c_ : Code) (O_ : List Nat) (pre_ : List (Int × Int × Int)) (w_ : World) => False) ?_ ?_ ?_ hkp_ ?_ ?_ ?_
   ·intro pre_ O_ O2_ A_ B_ hi_ hO_ hc_ hO2_ hg_
    have hB0_ := (hB.sel [1, 0] (by decide) rfl)
    obtain ⟨c1, c1n, c1c, hi_, hB⟩ := hi_
    exact ⟨c1, c1n, c1c, hst_I1 c1 c1n c1c pre_ O_ O2_ A_ B_ hi_ hO_ hc_ hO2_ hg_, hB.stab hB0_ rfl hO_ hc_⟩
   ·intro c_ pre_ O_ O2_ A_ B_ hi_ hO_ hc_ hO2_ hg_
    exact hi_.elim
   ·intro O_ A_ hc_ hO_
    exact ⟨none, 0, 0, h0_ O_ A_ hc_ hO_, Boxes.chg (hB.sel [1, 0] (by decide) rfl) hc_ (by simp)⟩
   ·intro l1 O1 pre1 x_ w5 hO_ hl_ hSp_ hi_
    obtain ⟨x1, x2, x3⟩ := x_
    obtain ⟨c1, c1n, c1c, hi_, hB⟩ := hi_
    have h := hrd_ l1 O1 pre1 x1 x2 x3 c1 c1n c1c w5 hO_ hl_ hSp_ hi_
    refine XR.CW.seq ?_
    refine XR.CW.region fun L hL => ?_
    obtain ⟨b3, hb_b3⟩ : ∃ b3, b3 = World.size w5 := ⟨_, rfl⟩
    obtain ⟨w6, hw_w6⟩ : ∃ w6, w6 = World.alloc w5 (.cells #[.int .i64 0, .int .i64 0] 25) := ⟨_, rfl⟩
    refine XR.LW.val hL rfl (Wants.free rfl) rfl (boxE hb_b3 hw_w6 (Vl.alloc (z := .agg #[.int .i64 0, .int .i64 0]) (by kernel_rfl))) ?_
    replace hB := Boxes.alloc (cs := [.int .i64 0, .int .i64 0]) (T := 25) hB hb_b3 hw_w6
    have hlo_b3 := sil_lo (Chg.refl [] w5) hb_b3
    have hc_w6 := sil_alloc (Chg.refl [] w5) hw_w6
    obtain ⟨w7, hw_w7⟩ : ∃ x, x = setCells w6 (⟨b3, 0, none⟩ : Addr) 0 [.int .i64 x1, .int .i64 x2] := ⟨_, rfl⟩
    refine XR.LW.eff hL rfl (Wants.free rfl) rfl (stNE hw_w7 (Ef.stN (cs := [.int .i64 x1, .int .i64 x2]) rfl rfl (by kernel_rfl) (List.forall_mem_cons.2 ⟨rfl, (List.forall_mem_cons.2 ⟨rfl, (List.forall_mem_nil _)⟩)⟩) (has_of (hB.at (i := 0) rfl) (by simp)) (free_of' (hB.at (i := 0) rfl)))) ?_
    replace hB : Boxes w7 [(b3, [.int .i64 x1, .int .i64 x2], 25), (b1, [.int .u32 set1], 43), (b2, [.slice c1 c1n c1c], 34)] := Boxes.store (vs := [.int .i64 x1, .int .i64 x2]) (i := 0) (o := 0) hB rfl rfl rfl rfl hw_w7
    have hc_w7 := sil_new hc_w6 (sil_cN hw_w7) hlo_b3
    refine XR.LW.nil hL rfl ?_
    refine XR.NW.then ?_
    refine XR.CW.region fun L hL => ?_
    refine XR.LW.rd hL rfl (Wants.free rfl) rfl (Rd.assign (v := .int .u32 x3) rfl) ?_
    refine XR.LW.nil hL rfl ?_
    refine XR.NW.begin hc_w7 (fun w8 hcb_w8 hlp_ hib_ => ?_)
    have hc_w8 : Chg [l1] w5 w8 := sil_more hc_w7 hcb_w8
    replace hB := hB.notloop hlp_ hcb_w8
    replace h := h b3 w8 ⟨hlo_b3, lt_of_heap (hB.at (i := 0) rfl)⟩ hc_w8
    refine XR.CW.block ?_
    refine XR.CW.seq ?_
    refine XR.CW.region fun L hL => ?_
    refine XR.LW.rd hL rfl (Wants.free rfl) rfl (Rd.move (v := .int .u32 x3) rfl) ?_
    refine XR.LW.rd hL rfl (Wants.free rfl) rfl (Rd.ld (v := .int .u32 set1) rfl (by kernel_rfl) (eqs (box_cell (hB.at (i := 1) rfl) rfl))) ?_
    refine XR.LW.rd hL rfl (Wants.free rfl) rfl (Rd.bin (v := .int .u32 (bits .and .u32 x3 set1)) rfl rfl (fun w => by kernel_rfl)) ?_
    refine XR.LW.rd hL rfl (Wants.free rfl) rfl (Rd.bin (v := .bool (!((bits .and .u32 x3 set1) == 0))) rfl rfl (fun w => by kernel_rfl)) ?_
    refine XR.LW.nil hL rfl ?_
    refine XR.NW.then ?_
    refine XR.CW.cond rfl (fun hb3 => ?_) (fun hb3 => ?_)
    ·replace h := h.1 hb3
     refine XR.CW.region fun L hL => ?_
     refine XR.LW.rd hL rfl (Wants.free rfl) rfl (Rd.ld (v := .slice c1 c1n c1c) rfl (by kernel_rfl) (eqs (box_cell (hB.at (i := 2) rfl) rfl))) ?_
     refine XR.LW.rd hL rfl (Wants.free rfl) rfl (Rd.ldN (cs := [.int .i64 x1, .int .i64 x2]) rfl (by kernel_rfl) (by kernel_rfl) (cellsS (box_cells (hB.at (i := 0) rfl) rfl))) ?_
     obtain ⟨b4, hb_b4⟩ : ∃ b4, b4 = World.size w8 := ⟨_, rfl⟩
     obtain ⟨w9, hw_w9⟩ : ∃ w9, w9 = World.alloc w8 (.cells #[.int .i64 x1, .int .i64 x2] 25) := ⟨_, rfl⟩
     replace h := h b4 hb_b4 w9 hw_w9
     refine XR.LW.val hL rfl (Wants.free rfl) rfl (sliceE (n := 1) hb_b4 hw_w9 (fun w => Vl.buildSlice (vs := [(0, .agg #[.int .i64 x1, .int .i64 x2])]) rfl (by kernel_rfl))) ?_
     replace hB := hB.grow hw_w9
     obtain ⟨l2, l2n, l2c, w10, ha1, h⟩ := h
     refine XR.LW.val hL rfl (Wants.free rfl) rfl (Vl.builtin (v := .slice l2 l2n l2c) rfl (valB ha1)) ?_
     obtain ⟨hsm3, h⟩ := h
     replace hB := Boxes.sameS (hB.sel [1, 2] (by decide) rfl) hsm3 (by simp)
     obtain ⟨w11, hw_w11⟩ : ∃ x, x = World.setCell w10 (⟨b2, 0, none⟩ : Addr) (.slice l2 l2n l2c) := ⟨_, rfl⟩
     refine XR.LW.eff hL rfl (Wants.free rfl) rfl (stE hw_w11 (Ef.st rfl rfl rfl (by kernel_rfl) (box_cell (v := .slice c1 c1n c1c) (hB.at (i := 1) rfl) rfl) (free_of (hB.at (i := 1) rfl) 0))) ?_
     replace hB : Boxes w11 [(b1, [.int .u32 set1], 43), (b2, [.slice l2 l2n l2c], 34)] := Boxes.store1  (i := 1) (o := 0) hB rfl rfl rfl rfl hw_w11
     have hc_w11 : Chg [b2] w10 w11 := sil_more (Chg.refl [] w10) (sil_c1 hw_w11)
     refine XR.LW.nil hL rfl ?_
     refine NW.block ?_
     replace h := h  w11  hc_w11
     exact fun a_ ha_ => ⟨h.1, ⟨l2, l2n, l2c, h.2.1, hB⟩, h.2.2⟩
    ·replace h := h.2 hb3
     refine XR.CW.skip ?_
     refine NW.block ?_
     exact fun a_ ha_ => ⟨h.1, ⟨c1, c1n, c1c, h.2.1, (hB.sel [1, 2] (by decide) rfl)⟩, h.2.2⟩
   ·intro d1 O2 xs1 w12 hO_ hd_ hdh_ hS_ hi_
    obtain ⟨c1, c1n, c1c, hi_, hB⟩ := hi_
    have h := hdn_ d1 O2 xs1 c1 c1n c1c w12 hO_ hd_ hS_ hi_
    have hK := XR.Marks.cons (XR.Marks.nil _) hdh_ (by simp)
    refine NW.block ?_
    refine NW.then ?_
    refine CW.seq ?_
    refine CW.region fun L hL => ?_
    refine LW.rd hL rfl (Wants.free rfl) rfl (Rd.ld (v := .slice c1 c1n c1c) rfl (by kernel_rfl) (eqs (box_cell (hB.at (i := 1) rfl) rfl))) ?_
    refine LW.rd hL rfl (Wants.free rfl) rfl (Rd.assign (v := .slice c1 c1n c1c) rfl) ?_
    refine LW.rd hL rfl (Wants.free rfl) rfl (Rd.assign (v := .int .i64 0) rfl) ?_
    refine LW.nil hL rfl ?_
    refine NW.then ?_
    refine CW.ret ?_
    exact XR.resM (ms := [d1]) (vs := [.slice c1 c1n c1c, .int .i64 0]) hK rfl (fun w_ hc_ => ⟨(ResOK.t rfl (ResOK.t rfl ResOK.nil)), c1, c1n, c1c, 0, rfl, h w_ hc_⟩)
   ·intro d2 c_ O3 xs2 w14 hO_ hd_ hdh_ hS_ hi_
    exact hi_.elim
/- pomander/pomanderref12.Text -/
def W_pomanderref12_Text (p1 : Int) (p2 : Int) (w : World) (R : ByteArray → World → Prop) : Prop :=
 ∀ (b1 : Nat) (w1 : World), (w.heap.size ≤ b1 ∧ b1 < w1.heap.size) → Chg [] w w1 → (∀ b2 : Nat, b2 = World.size w1 → ∀ w2 : World, w2 = World.alloc w1 (.cells #[.string ⟨#[110, 111, 110, 101]⟩, .string ⟨#[114, 101, 103]⟩, .string ⟨#[112, 99]⟩, .string ⟨#[101, 112, 99]⟩, .string ⟨#[99, 97, 117, 115, 101]⟩, .string ⟨#[118, 101, 99]⟩, .string ⟨#[116, 97, 98, 108, 101]⟩, .string ⟨#[109, 111, 100, 101]⟩, .string ⟨#[109, 97, 115, 107]⟩, .string ⟨#[97, 108, 97, 114, 109]⟩, .string ⟨#[109, 101, 109]⟩, .string ⟨#[116, 108, 98]⟩, .string ⟨#[115, 101, 99, 116, 111, 114]⟩, .string ⟨#[105, 110]⟩, .string ⟨#[111, 117, 116]⟩, .string ⟨#[112, 97, 99, 107, 101, 116]⟩, .string ⟨#[115, 101, 110, 116]⟩, .string ⟨#[97, 115, 107]⟩] 9) → (((decide (p1 < 0) || decide (p1 > 17)) = true → R ⟨#[63]⟩ w2) ∧ ((decide (p1 < 0) || decide (p1 > 17)) = false → ((p1 == 1 || decide (p1 ≥ 10)) = true → ∀ (w3 : World), Chg [] w2 w3 → (∃ a1 : Addr, some (⟨b2, 0, none⟩ : Addr) = some a1 ∧ (0 : Int) ≤ p1 ∧ p1 < (18 : Int) ∧ (∃ (t1 : ByteArray), w3.cell? (a1.add (Int.toNat p1 * 1)) = some (.string t1) ∧ (∃ (t2 : ByteArray), (∀ w : World, ((do eqGuard .add 9 (.tmp 23) (.const (.string ⟨#[32]⟩)) (.string t1) (.string ⟨#[32]⟩); binOp .add 9 (.string t1) (.string ⟨#[32]⟩) : Sem Value)).run Tryz.prog w = .ok (.string t2) w) ∧ (Calls Tryz.prog 44 #[.int .i64 p2] w3 fun e w4 => ∃ (r2 : ByteArray), e = .returned (.string r2) ∧ ((w4.cell? (a1.add (Int.toNat p1 * 1)) = some (.string t1)) ∧ (Same w3 w4 [b1] ∧ (∃ (t3 : ByteArray), (∀ w : World, ((do eqGuard .add 9 (.tmp 24) (.tmp 27) (.string t2) (.string r2); binOp .add 9 (.string t2) (.string r2) : Sem Value)).run Tryz.prog w = .ok (.string t3) w) ∧ (R t3 w4))))))))) ∧ ((p1 == 1 || decide (p1 ≥ 10)) = false → ∃ a2 : Addr, some (⟨b2, 0, none⟩ : Addr) = some a2 ∧ (0 : Int) ≤ p1 ∧ p1 < (18 : Int) ∧ (∃ (t4 : ByteArray), w2.cell? (a2.add (Int.toNat p1 * 1)) = some (.string t4) ∧ (R t4 w2))))))
set_option maxRecDepth 100000 in
theorem go_pomanderref12_Text (p1 : Int) (p2 : Int) (w : World) (R : ByteArray → World → Prop) (h : W_pomanderref12_Text p1 p2 w R) : Calls Tryz.prog 21 #[.agg #[.int .i64 p1, .int .i64 p2]] w (fun e w' => ∃ (r1 : ByteArray), e = .returned (.string r1) ∧ R r1 w') := by
 unfold W_pomanderref12_Text at h
 refine enter (N := 33) Tryz.func21 rfl rfl ?_
 refine CW.seq ?_
 refine CW.region fun L hL => ?_
 obtain ⟨b1, hb_b1⟩ : ∃ b1, b1 = World.size w := ⟨_, rfl⟩
 obtain ⟨w1, hw_w1⟩ : ∃ w1, w1 = World.alloc w (.cells #[.int .i64 p1, .int .i64 p2] 25) := ⟨_, rfl⟩
 refine LW.val hL rfl (Wants.free rfl) rfl (boxE hb_b1 hw_w1 (Vl.box (v := .agg #[.int .i64 p1, .int .i64 p2]) rfl)) ?_
 have hB := Boxes.alloc (cs := [.int .i64 p1, .int .i64 p2]) (T := 25) (Boxes.nil w) hb_b1 hw_w1
 have hlo_b1 := sil_lo (Chg.refl [] w) hb_b1
 have hc_w1 := sil_alloc (Chg.refl [] w) hw_w1
 refine LW.rd hL rfl (Wants.free rfl) rfl (Rd.assign (v := .string ⟨#[]⟩) rfl) ?_
 refine LW.nil hL rfl ?_
 refine NW.then ?_
 refine CW.seq ?_
 refine CW.region fun L hL => ?_
 refine LW.rd hL rfl (Wants.free rfl) rfl (Rd.fa (v := .pointer (some (⟨b1, 0, none⟩ : Addr))) rfl (fun _ => by kernel_rfl)) ?_
 refine LW.rd hL rfl (Wants.free rfl) rfl (Rd.ld (v := .int .i64 p1) rfl (by kernel_rfl) (eqs (box_cell (hB.at (i := 0) rfl) rfl))) ?_
 refine LW.rd hL rfl (Wants.free rfl) rfl (Rd.assign (v := .int .i64 p1) rfl) ?_
 refine LW.nil hL rfl ?_
 refine NW.then ?_
 refine CW.seq ?_
 refine CW.region fun L hL => ?_
 replace h := h b1 w1 ⟨hlo_b1, lt_of_heap (hB.at (i := 0) rfl)⟩ hc_w1
 obtain ⟨b2, hb_b2⟩ : ∃ b2, b2 = World.size w1 := ⟨_, rfl⟩
 obtain ⟨w2, hw_w2⟩ : ∃ w2, w2 = World.alloc w1 (.cells #[.string ⟨#[110, 111, 110, 101]⟩, .string ⟨#[114, 101, 103]⟩, .string ⟨#[112, 99]⟩, .string ⟨#[101, 112, 99]⟩, .string ⟨#[99, 97, 117, 115, 101]⟩, .string ⟨#[118, 101, 99]⟩, .string ⟨#[116, 97, 98, 108, 101]⟩, .string ⟨#[109, 111, 100, 101]⟩, .string ⟨#[109, 97, 115, 107]⟩, .string ⟨#[97, 108, 97, 114, 109]⟩, .string ⟨#[109, 101, 109]⟩, .string ⟨#[116, 108, 98]⟩, .string ⟨#[115, 101, 99, 116, 111, 114]⟩, .string ⟨#[105, 110]⟩, .string ⟨#[111, 117, 116]⟩, .string ⟨#[112, 97, 99, 107, 101, 116]⟩, .string ⟨#[115, 101, 110, 116]⟩, .string ⟨#[97, 115, 107]⟩] 9) := ⟨_, rfl⟩
 replace h := h b2 hb_b2 w2 hw_w2
 refine LW.val hL rfl (Wants.free rfl) rfl (sliceE (n := 18) hb_b2 hw_w2 (fun w => Vl.buildSlice (vs := [(0, .string ⟨#[110, 111, 110, 101]⟩), (1, .string ⟨#[114, 101, 103]⟩), (2, .string ⟨#[112, 99]⟩), (3, .string ⟨#[101, 112, 99]⟩), (4, .string ⟨#[99, 97, 117, 115, 101]⟩), (5, .string ⟨#[118, 101, 99]⟩), (6, .string ⟨#[116, 97, 98, 108, 101]⟩), (7, .string ⟨#[109, 111, 100, 101]⟩), (8, .string ⟨#[109, 97, 115, 107]⟩), (9, .string ⟨#[97, 108, 97, 114, 109]⟩), (10, .string ⟨#[109, 101, 109]⟩), (11, .string ⟨#[116, 108, 98]⟩), (12, .string ⟨#[115, 101, 99, 116, 111, 114]⟩), (13, .string ⟨#[105, 110]⟩), (14, .string ⟨#[111, 117, 116]⟩), (15, .string ⟨#[112, 97, 99, 107, 101, 116]⟩), (16, .string ⟨#[115, 101, 110, 116]⟩), (17, .string ⟨#[97, 115, 107]⟩)]) rfl (by kernel_rfl))) ?_
 replace hB := hB.grow hw_w2
 refine LW.rd hL rfl (Wants.free rfl) rfl (Rd.assign (v := .slice (some (⟨b2, 0, none⟩ : Addr)) 18 18) rfl) ?_
 refine LW.nil hL rfl ?_
 refine NW.then ?_
 refine CW.seq ?_
 refine CW.seq ?_
 refine CW.region fun L hL => ?_
 refine LW.rd hL rfl (Wants.free rfl) rfl (Rd.move (v := .int .i64 p1) rfl) ?_
 refine LW.rd hL rfl (Wants.free rfl) rfl (Rd.bin (v := .bool (decide (p1 < 0))) rfl rfl (fun w => by kernel_rfl)) ?_
 refine LW.rd hL rfl (Wants.free rfl) rfl (Rd.move (v := .bool (decide (p1 < 0))) rfl) ?_
 suffices K1 : L 6 [(1, .pointer (some (⟨b1, 0, none⟩ : Addr))), (2, .string ⟨#[]⟩), (3, .int .i64 p1), (4, .slice (some (⟨b2, 0, none⟩ : Addr)) 18 18), (13, .bool (decide (p1 < 0) || decide (p1 > 17)))] w2 by
  rcases Bool.eq_false_or_eq_true (decide (p1 < 0)) with hb2 | hb2
  ·skip
   refine LW.skip hL rfl (Skips.on rfl rfl rfl rfl rfl hb2) rfl ?_
   refine LW.skip hL rfl (Skips.on rfl rfl rfl rfl rfl hb2) rfl ?_
   refine LW.rd hL rfl (Wants.free rfl) rfl (Rd.pickT rfl hb2 rfl) ?_
   exact LW.sub hL (by exact ⟨rfl, rfl, rfl, rfl, (by rw [hb2]; rfl), trivial⟩) K1
  ·skip
   refine LW.rd hL rfl (Wants.on rfl rfl rfl rfl rfl hb2) rfl (Rd.move (v := .int .i64 p1) rfl) ?_
   refine LW.rd hL rfl (Wants.on rfl rfl rfl rfl rfl hb2) rfl (Rd.bin (v := .bool (decide (p1 > 17))) rfl rfl (fun w => by kernel_rfl)) ?_
   refine LW.rd hL rfl (Wants.free rfl) rfl (Rd.pickF rfl hb2 rfl) ?_
   exact LW.sub hL (by exact ⟨rfl, rfl, rfl, rfl, (by rw [hb2]; rfl), trivial⟩) K1
 refine LW.nil hL rfl ?_
 refine NW.then ?_
 refine CW.cond rfl (fun hb3 => ?_) (fun hb3 => ?_)
 ·replace h := h.1 hb3
  refine CW.seq ?_
  refine CW.region fun L hL => ?_
  refine LW.rd hL rfl (Wants.free rfl) rfl (Rd.assign (v := .string ⟨#[63]⟩) rfl) ?_
  refine LW.nil hL rfl ?_
  refine NW.then ?_
  refine CW.ret ?_
  refine RW.then ?_
  exact res1 rfl rfl ⟨⟨#[63]⟩, rfl, h⟩
 ·replace h := h.2 hb3
  refine CW.skip ?_
  refine NW.then ?_
  refine CW.seq ?_
  refine CW.seq ?_
  refine CW.region fun L hL => ?_
  refine LW.rd hL rfl (Wants.free rfl) rfl (Rd.move (v := .int .i64 p1) rfl) ?_
  refine LW.rd hL rfl (Wants.free rfl) rfl (Rd.bin (v := .bool (p1 == 1)) rfl rfl (fun w => by kernel_rfl)) ?_
  refine LW.rd hL rfl (Wants.free rfl) rfl (Rd.move (v := .bool (p1 == 1)) rfl) ?_
  suffices K2 : L 6 [(1, .pointer (some (⟨b1, 0, none⟩ : Addr))), (2, .string ⟨#[]⟩), (3, .int .i64 p1), (4, .slice (some (⟨b2, 0, none⟩ : Addr)) 18 18), (19, .bool (p1 == 1 || decide (p1 ≥ 10)))] w2 by
   rcases Bool.eq_false_or_eq_true (p1 == 1) with hb5 | hb5
   ·skip
    refine LW.skip hL rfl (Skips.on rfl rfl rfl rfl rfl hb5) rfl ?_
    refine LW.skip hL rfl (Skips.on rfl rfl rfl rfl rfl hb5) rfl ?_
    refine LW.rd hL rfl (Wants.free rfl) rfl (Rd.pickT rfl hb5 rfl) ?_
    exact LW.sub hL (by exact ⟨rfl, rfl, rfl, rfl, (by rw [hb5]; rfl), trivial⟩) K2
   ·skip
    refine LW.rd hL rfl (Wants.on rfl rfl rfl rfl rfl hb5) rfl (Rd.move (v := .int .i64 p1) rfl) ?_
    refine LW.rd hL rfl (Wants.on rfl rfl rfl rfl rfl hb5) rfl (Rd.bin (v := .bool (decide (p1 ≥ 10))) rfl rfl (fun w => by kernel_rfl)) ?_
    refine LW.rd hL rfl (Wants.free rfl) rfl (Rd.pickF rfl hb5 rfl) ?_
    exact LW.sub hL (by exact ⟨rfl, rfl, rfl, rfl, (by rw [hb5]; rfl), trivial⟩) K2
  refine LW.nil hL rfl ?_
  refine NW.then ?_
  refine CW.cond rfl (fun hb6 => ?_) (fun hb6 => ?_)
  ·replace h := h.1 hb6
   refine CW.seq ?_
   obtain ⟨w3, hw_w3⟩ : ∃ x, x = World.drew w2 := ⟨_, rfl⟩
   have hc_w3 := sil_drew (Chg.refl [] w2) hw_w3
   replace hB := hB.drew hw_w3
   replace h := h  w3  hc_w3
   obtain ⟨a1, he1, hi1, hi2, h⟩ := h
   obtain ⟨t1, hc1, h⟩ := h
   obtain ⟨t2, hx1, h⟩ := h
   refine CW.drawn (fun w => w.cell? (a1.add (Int.toNat p1 * 1)) = some (.string t1) ∧ Boxes w [(b1, [.int .i64 p1, .int .i64 p2], 25)]) 10 (by kernel_rfl) fun H hH => ?_
   rw [← hw_w3]
   have hS1 : w3.cell? (a1.add (Int.toNat p1 * 1)) = some (.string t1) ∧ Boxes w3 [(b1, [.int .i64 p1, .int .i64 p2], 25)] := ⟨hc1, hB⟩
   refine HW.pure (i := 0) hH rfl (by kernel_rfl) (Wants.free rfl) rfl (fun _ => hS1) (Rd.move (v := .slice (some (⟨b2, 0, none⟩ : Addr)) 18 18) rfl) ?_
   refine HW.pure (i := 1) hH rfl (by kernel_rfl) (Wants.free rfl) rfl (fun _ => hS1) (Rd.move (v := .int .i64 p1) rfl) ?_
   refine HW.pure (i := 2) hH rfl (by kernel_rfl) (Wants.free rfl) rfl (fun _ => hS1) (Rd.iaS (q := a1) (sz := 1) (by rw [← he1]; rfl) rfl Tryz.underlying112 (by kernel_rfl) hi1 hi2) ?_
   refine HW.take (i := 3) hH rfl (by kernel_rfl) (by kernel_rfl) (Wants.free rfl) rfl (fun _ => hS1) (Rd.ld (v := .string t1) rfl (by kernel_rfl) (fun w h => h.1)) ?_
   refine HW.pure (i := 4) hH rfl (by kernel_rfl) (Wants.free rfl) rfl (fun _ => hS1) (Rd.bin (v := .string t2) rfl rfl hx1) ?_
   refine HW.pure (i := 5) hH rfl (by kernel_rfl) (Wants.free rfl) rfl (fun _ => hS1) (Rd.fa (v := .pointer (some (⟨b1, 1, none⟩ : Addr))) rfl (fun _ => by kernel_rfl)) ?_
   refine HW.take (i := 6) hH rfl (by kernel_rfl) (by kernel_rfl) (Wants.free rfl) rfl (fun _ => hS1) (Rd.ld (v := .int .i64 p2) rfl (by kernel_rfl) (fun w h => box_cell (Boxes.at (i := 0) h.2 rfl) rfl)) ?_
   refine HW.call (i := 7) hH (by kernel_rfl) rfl (Wants.free rfl) rfl (Cl.fn (f := 44) rfl Tryz.func44 (by kernel_rfl) rfl) h (fun e w4 h_ => ?_)
   clear h
   obtain ⟨r2, rfl, hS2, h⟩ := h_
   obtain ⟨hsm1, h⟩ := h
   replace hB := Boxes.sameS hB hsm1 (by simp)
   have hS3 := (⟨hS2, hB⟩ : w4.cell? (a1.add (Int.toNat p1 * 1)) = some (.string t1) ∧ Boxes w4 [(b1, [.int .i64 p1, .int .i64 p2], 25)])
   refine ⟨_, rfl, (fun _ => hS3), ?_⟩
   obtain ⟨t3, hx2, h⟩ := h
   refine HW.pure (i := 8) hH rfl (by kernel_rfl) (Wants.free rfl) rfl (fun _ => hS3) (Rd.bin (v := .string t3) rfl rfl hx2) ?_
   refine HW.pure (i := 9) hH rfl (by kernel_rfl) (Wants.free rfl) rfl (fun _ => hS3) (Rd.assign (v := .string t3) rfl) ?_
   refine HW.done hH (by kernel_rfl) ?_
   refine NW.then ?_
   refine CW.ret ?_
   refine RW.then ?_
   exact res1 rfl rfl ⟨t3, rfl, h⟩
  ·replace h := h.2 hb6
   refine CW.skip ?_
   refine NW.then ?_
   refine CW.seq ?_
   refine CW.region fun L hL => ?_
   refine LW.rd hL rfl (Wants.free rfl) rfl (Rd.move (v := .slice (some (⟨b2, 0, none⟩ : Addr)) 18 18) rfl) ?_
   refine LW.rd hL rfl (Wants.free rfl) rfl (Rd.move (v := .int .i64 p1) rfl) ?_
   obtain ⟨a2, he2, hi3, hi4, h⟩ := h
   refine LW.rd hL rfl (Wants.free rfl) rfl (Rd.iaS (q := a2) (sz := 1) (by rw [← he2]; rfl) rfl Tryz.underlying112 (by kernel_rfl) hi3 hi4) ?_
   obtain ⟨t4, hc2, h⟩ := h
   refine LW.rd hL rfl (Wants.free rfl) rfl (Rd.ld (v := .string t4) rfl (by kernel_rfl) (eqs hc2)) ?_
   refine LW.rd hL rfl (Wants.free rfl) rfl (Rd.assign (v := .string t4) rfl) ?_
   refine LW.nil hL rfl ?_
   refine NW.then ?_
   refine CW.ret ?_
   exact res1 rfl rfl ⟨t4, rfl, h⟩
end Go.Proofs.YtfcfkhbkkfpehaaGreatDoor
end
section
/- The texts of places: the program's, the document's. -/
namespace Go.Proofs.YtfcfkhbkkfpehaaGreatDoor
open Go Go.RowKit Go.X Go.XR
def namesL : List ByteArray := [⟨#[110, 111, 110, 101]⟩, ⟨#[114, 101, 103]⟩, ⟨#[112, 99]⟩, ⟨#[101, 112, 99]⟩, ⟨#[99, 97, 117, 115, 101]⟩, ⟨#[118, 101, 99]⟩, ⟨#[116, 97, 98, 108, 101]⟩, ⟨#[109, 111, 100, 101]⟩, ⟨#[109, 97, 115, 107]⟩, ⟨#[97, 108, 97, 114, 109]⟩, ⟨#[109, 101, 109]⟩, ⟨#[116, 108, 98]⟩, ⟨#[115, 101, 99, 116, 111, 114]⟩, ⟨#[105, 110]⟩, ⟨#[111, 117, 116]⟩, ⟨#[112, 97, 99, 107, 101, 116]⟩, ⟨#[115, 101, 110, 116]⟩, ⟨#[97, 115, 107]⟩]
def nameK (k : Int) : ByteArray := namesL.getD k.toNat ⟨#[]⟩
def textP (p : Pl) : ByteArray := if p.1 < 0 ∨ 17 < p.1 then ⟨#[63]⟩ else if p.1 = 1 ∨ 10 ≤ p.1 then nameK p.1 ++ ⟨#[32]⟩ ++ ⟨(Lib.itoa p.2).toArray⟩ else nameK p.1
theorem nameK_size (k : Int) : (nameK k).size ≤ 100 := by
 unfold nameK
 rw [List.getD_eq_getElem?_getD]
 cases h : namesL[k.toNat]? with
 | none => decide
 | some b =>
  have hm := List.mem_of_getElem? h
  have hall : ∀ b ∈ namesL, b.size ≤ 100 := by decide
  exact hall b hm
theorem add_str (t : TypeId) (x y : Operand) (a b : ByteArray) (ha : a.size ≤ 1000) (hb : b.size ≤ 1000) (w : World) : ((do eqGuard .add t x y (.string a) (.string b); binOp .add t (.string a) (.string b) : Sem Value)).run Tryz.prog w = .ok (.string (a ++ b)) w := by
 have h := run_string_add (P := Tryz.prog) w a b (by omega) (by omega)
 simp [eqGuard, binOp, h]
theorem ne_str (t : TypeId) (x y : Operand) (a : ByteArray) (w : World) : ((do eqGuard .neq t x y (.string a) (.string a); binOp .neq t (.string a) (.string a) : Sem Value)).run Tryz.prog w = .ok (.bool false) w := by
 simp [eqGuard, binOp, Op.stringOp]
theorem itoa_size (n : Int) (h : i64s n) : (⟨(Lib.itoa n).toArray⟩ : ByteArray).size ≤ 21 := by
 have := Lib.itoa_length_le n h.1 h.2
 simpa [ByteArray.size] using this
theorem index_names (k : Int) (h : 0 ≤ k ∧ k ≤ 17) (w : World) : (Instr.index 109 (.agg #[.string ⟨#[110, 111, 110, 101]⟩, .string ⟨#[114, 101, 103]⟩, .string ⟨#[112, 99]⟩, .string ⟨#[101, 112, 99]⟩, .string ⟨#[99, 97, 117, 115, 101]⟩, .string ⟨#[118, 101, 99]⟩, .string ⟨#[116, 97, 98, 108, 101]⟩, .string ⟨#[109, 111, 100, 101]⟩, .string ⟨#[109, 97, 115, 107]⟩, .string ⟨#[97, 108, 97, 114, 109]⟩, .string ⟨#[109, 101, 109]⟩, .string ⟨#[116, 108, 98]⟩, .string ⟨#[115, 101, 99, 116, 111, 114]⟩, .string ⟨#[105, 110]⟩, .string ⟨#[111, 117, 116]⟩, .string ⟨#[112, 97, 99, 107, 101, 116]⟩, .string ⟨#[115, 101, 110, 116]⟩, .string ⟨#[97, 115, 107]⟩]) (.int .i64 k)).run Tryz.prog w = .ok (.string (nameK k)) w := by
 have hk : k = 0 ∨ k = 1 ∨ k = 2 ∨ k = 3 ∨ k = 4 ∨ k = 5 ∨ k = 6 ∨ k = 7 ∨ k = 8 ∨ k = 9 ∨ k = 10 ∨ k = 11 ∨ k = 12 ∨ k = 13 ∨ k = 14 ∨ k = 15 ∨ k = 16 ∨ k = 17 := by omega
 rcases hk with rfl | rfl | rfl | rfl | rfl | rfl | rfl | rfl | rfl | rfl | rfl | rfl | rfl | rfl | rfl | rfl | rfl | rfl <;> exact (show _ = _ from by kernel_rfl)
theorem names_get (k : Int) (h : 0 ≤ k ∧ k ≤ 17) : namesL[k.toNat]? = some (nameK k) := by
 unfold nameK
 rw [List.getD_eq_getElem?_getD, List.getElem?_eq_getElem (by show k.toNat < 18; omega)]
 rfl
def Tab (w : World) : Prop := ∀ w', Chg [] w w' → Lib.TabIs Tryz.prog w' "internal/strconv.uint64pow10" .u64 Lib.pow10Tab
theorem Tab.chg {w w' : World} (h : Tab w) (hc : Chg [] w w') : Tab w' := fun w'' h2 => h w'' (hc.trans0 h2)
theorem query_text {w : World} (ht : Tab w) (p : Pl) (hp : i64s p.2) : Calls Tryz.prog 20 #[.agg #[.int .i64 p.1, .int .i64 p.2]] w fun e w' => ∃ r : ByteArray, e = .returned (.string r) ∧ (r = textP p ∧ Chg [] w w') := by
 refine go_query_Text _ _ _ _ ?_
 unfold W_query_Text
 rintro b1 w1 ⟨l1, u1⟩ c1
 refine ⟨fun b w' => b = decide (p.1 < 0 ∨ 17 < p.1) ∧ Chg [] w w' ∧ b1 < w'.heap.size, ?_, fun h0 => ⟨?_, c1, u1⟩, fun h0 => ⟨?_, c1, u1⟩⟩
 rotate_left
 ·have := of_decide_eq_false h0
  exact decide_eq_decide.2 ⟨fun h => .inr (by omega), fun h => by omega⟩
 ·have := of_decide_eq_true h0
  symm; exact decide_eq_true (.inl this)
 rintro _ w2 ⟨rfl, c2, u2⟩
 refine ⟨fun hbad => ?_, fun hok => ?_⟩
 ·have hbad' := of_decide_eq_true hbad
  exact ⟨by unfold textP; rw [if_pos hbad'], c2⟩
 have hok' := of_decide_eq_false hok
 have hk : 0 ≤ p.1 ∧ p.1 ≤ 17 := by omega
 refine ⟨fun b w' => b = decide (p.1 = 1 ∨ 10 ≤ p.1) ∧ Chg [] w w' ∧ b1 < w'.heap.size, ?_, fun h1 => ⟨?_, c2, u2⟩, fun h1 => ⟨?_, c2, u2⟩⟩
 rotate_left
 ·have h1' : ¬ p.1 = 1 := by simpa using h1
  exact decide_eq_decide.2 ⟨fun h => .inr (by omega), fun h => by omega⟩
 ·have h1' : p.1 = 1 := by simpa using h1
  symm; exact decide_eq_true (.inl h1')
 rintro _ w3 ⟨rfl, c3, u3⟩
 refine ⟨fun hnum => ?_, fun hnum => ?_⟩
 ·have hnum' := of_decide_eq_true hnum
  intro w4 c4
  have s4 := c4.size
  refine (query_names w4).mono ?_
  rintro _ w5 ⟨rfl, c5⟩
  have s5 := c5.size
  refine ⟨_, _, _, _, _, _, _, _, _, _, _, _, _, _, _, _, _, _, rfl, Same.chg c5 (by simp; omega), nameK p.1, index_names p.1 hk, nameK p.1 ++ ⟨#[32]⟩, fun w => add_str _ _ _ _ _ (by have := nameK_size p.1; omega) (by decide) w, ?_⟩
  have c35 := c4.trans0 c5
  refine (itoa_ok p.2 hp.1 hp.2 w5 (ht w5 (c3.trans0 c35))).mono ?_
  rintro _ w6 ⟨_, rfl, rfl, c6⟩
  have hsz : (nameK p.1 ++ (⟨#[32]⟩ : ByteArray)).size ≤ 1000 := by
   have := nameK_size p.1
   rw [ByteArray.size_append]
   have e : (⟨#[32]⟩ : ByteArray).size = 1 := rfl
   omega
  refine ⟨_, rfl, Same.chg c6 (by simp; omega), _, fun w => add_str _ _ _ _ _ hsz (by have := itoa_size p.2 hp; omega) w, ?_, (c3.trans0 c35).trans0 c6⟩
  unfold textP
  rw [if_neg hok', if_pos hnum']
 ·have hnum' := of_decide_eq_false hnum
  intro w7 c7
  have s7 := c7.size
  refine (query_names w7).mono ?_
  rintro _ w8 ⟨rfl, c8⟩
  refine ⟨_, _, _, _, _, _, _, _, _, _, _, _, _, _, _, _, _, _, rfl, Same.chg c8 (by simp; omega), nameK p.1, index_names p.1 hk, ?_, (c3.trans0 c7).trans0 c8⟩
  unfold textP
  rw [if_neg hok', if_neg hnum']
theorem ref_text {w : World} (ht : Tab w) (p : Pl) (hp : i64s p.2) : Calls Tryz.prog 21 #[.agg #[.int .i64 p.1, .int .i64 p.2]] w fun e w' => ∃ r : ByteArray, e = .returned (.string r) ∧ (r = textP p ∧ Chg [] w w') := by
 refine go_pomanderref12_Text _ _ _ _ ?_
 unfold W_pomanderref12_Text
 rintro b1 w1 ⟨l1, u1⟩ c1
 refine v_alloc fun b2 w2 e2 hb2 c2 => ?_
 have s2 := c2.size
 have c02 := c1.trans0 c2
 refine ⟨fun hbad => ?_, fun hok => ?_⟩
 ·have hbad' : p.1 < 0 ∨ 17 < p.1 := by simpa using hbad
  exact ⟨by unfold textP; rw [if_pos hbad'], c02⟩
 have hok' : ¬ (p.1 < 0 ∨ 17 < p.1) := by
  simp at hok; omega
 have hk : 0 ≤ p.1 ∧ p.1 ≤ 17 := by omega
 have cell : ∀ {W : World}, Chg [] w2 W → W.cell? ((⟨b2, 0, none⟩ : Addr).add (Int.toNat p.1 * 1)) = some (.string (nameK p.1)) := fun hW => by
  rw [add_at, cell_of (hW.obj (by simp) hb2)]
  have hl : (namesL.map Value.string)[p.1.toNat]? = some (.string (nameK p.1)) := by rw [List.getElem?_map, names_get p.1 hk]; rfl
  have e : (0 + Int.toNat p.1 * 1) = p.1.toNat := by omega
  rw [e, ← hl]
  simp [namesL]
 refine ⟨fun hnum => ?_, fun hnum => ?_⟩
 ·have hnum' : p.1 = 1 ∨ 10 ≤ p.1 := by simpa using hnum
  intro w3 c3
  have s3 := c3.size
  have c03 := c02.trans0 c3
  refine ⟨_, rfl, hk.1, by omega, nameK p.1, cell c3, nameK p.1 ++ ⟨#[32]⟩, fun w => add_str _ _ _ _ _ (by have := nameK_size p.1; omega) (by decide) w, ?_⟩
  refine (itoa_ok p.2 hp.1 hp.2 w3 (ht w3 c03)).mono ?_
  rintro _ w4 ⟨_, rfl, rfl, c4⟩
  have hsz : (nameK p.1 ++ (⟨#[32]⟩ : ByteArray)).size ≤ 1000 := by
   have := nameK_size p.1
   rw [ByteArray.size_append]
   have e : (⟨#[32]⟩ : ByteArray).size = 1 := rfl
   omega
  refine ⟨_, rfl, cell (c3.trans0 c4), Same.chg c4 (by simp; omega), _, fun w => add_str _ _ _ _ _ hsz (by have := itoa_size p.2 hp; omega) w, ?_, c03.trans0 c4⟩
  unfold textP
  rw [if_neg hok', if_pos hnum']
 ·have hnum' : ¬ (p.1 = 1 ∨ 10 ≤ p.1) := by
   simp at hnum; omega
  refine ⟨_, rfl, hk.1, by omega, nameK p.1, cell (Chg.refl _ _), ?_, c02⟩
  unfold textP
  rw [if_neg hok', if_neg hnum']
end Go.Proofs.YtfcfkhbkkfpehaaGreatDoor
end
section
/- Law 14: adds that came in; vast, made. -/
namespace Go.Proofs.YtfcfkhbkkfpehaaGreatDoor
open Go Go.RowKit Go.X Go.XR
abbrev AddV := Int × List Tch
structure AddsAt (w : World) (S : Nat → Prop) (p : Option Addr) (n : Nat) (l : List AddV) : Prop where
 length : l.length = n
 each : ∀ j x, l[j]? = some x → i64s x.1 ∧ ∃ a q qn qc, p = some a ∧ S a.block ∧ CellsAt w (a.add (j * 2)) 0 [.int .i64 x.1, .slice q qn qc] ∧ TouchesAt w S q qn x.2 ∧ qn ≤ maxLen ∧ ∀ t ∈ x.2, t.2.length ≤ maxLen
theorem AddsAt.chg {w w' : World} {S : Nat → Prop} {p : Option Addr} {n : Nat} {l : List AddV} {f : List Nat} (h : AddsAt w S p n l) (hc : Chg f w w') (hf : ∀ i ∈ f, ¬ S i) : AddsAt w' S p n l :=
 ⟨h.length, fun j x hx => let ⟨h1, a, q, qn, qc, h3, h4, h5, h6, h7⟩ := h.each j x hx; ⟨h1, a, q, qn, qc, h3, h4, hc.cells (by rw [add_block]; exact fun hm => hf _ hm h4) h5, h6.chg hc hf, h7⟩⟩
structure NotesAt (w : World) (S : Nat → Prop) (p : Option Addr) (n c : Nat) (ns : List Nt) : Prop where
 there : ∃ g : List (Nt × Sl), g.map Prod.fst = ns ∧ RowAt w 38 4 p n c (g.flatMap noteC) ∧ ∀ x ∈ g, PlacesAt w S x.2.1 x.2.2.1 x.1.2.2
 len : n = ns.length
 apart : ∀ i ∈ rowB p, ¬ S i
theorem NotesAt.chg {w w' : World} {S : Nat → Prop} {p : Option Addr} {n c : Nat} {ns : List Nt} {f : List Nat} (h : NotesAt w S p n c ns) (hc : Chg f w w') (h1 : ∀ i ∈ rowB p, i ∉ f) (h2 : ∀ i ∈ f, ¬ S i) : NotesAt w' S p n c ns := by
 obtain ⟨g, k1, k2, k3⟩ := h.there
 exact ⟨⟨g, k1, k2.chg hc h1, fun x hx => (k3 x hx).chg hc h2⟩, h.len, h.apart⟩
theorem NotesAt.lt {w : World} {S : Nat → Prop} {p : Option Addr} {n c : Nat} {ns : List Nt} (h : NotesAt w S p n c ns) : ∀ i ∈ rowB p, i < w.heap.size := by
 obtain ⟨g, k1, k2, k3⟩ := h.there
 exact k2.lt
theorem NotesAt.nil (w : World) (S : Nat → Prop) : NotesAt w S none 0 0 [] := ⟨⟨[], rfl, RowAt.nil, by simp⟩, rfl, by simp [rowB]⟩
theorem NotesAt.push {w : World} {S : Nat → Prop} {p : Option Addr} {n c : Nat} {ns : List Nt} (h : NotesAt w S p n c ns) (hS : ∀ i, S i → i < w.heap.size) (hfew : ns.length ≤ 1000000) {nt : Nt} {q : Sl} (hq : PlacesAt w S q.1 q.2.1 nt.2.2)
  {b2 : Nat} (hb2 : w.heap[b2]? = some (.cells #[.int .i64 nt.1, .int .i64 nt.2.1.1, .int .i64 nt.2.1.2, .slice q.1 q.2.1 q.2.2] 38 (0, 0))) (hb2n : b2 ∉ rowB p) :
  ∃ (l2 : Option Addr) (l2n l2c : Nat) (w13 : World), (Builtin.append_ #[44, 44] 44 #[.slice p n c, .slice (some (⟨b2, 0, none⟩ : Addr)) 1 1]).run Tryz.prog w = .ok (.slice l2 l2n l2c) w13 ∧ NotesAt w13 S l2 l2n l2c (ns ++ [nt]) ∧ Chg (rowB p) w w13 ∧ ∀ i ∈ rowB l2, i ∈ rowB p ∨ w.heap.size ≤ i := by
 obtain ⟨g, k1, k2, k3⟩ := h.there
 have hl := h.len
 obtain ⟨p', c', w', happ, hrow, hc, hnew⟩ := k2.append (P := Tryz.prog) (t := 44) (ty := 44) (i := Tryz.t38) (z := .agg #[.int .i64 0, .int .i64 0, .int .i64 0, .slice none 0 0]) (bytes := 48) (by kernel_rfl) (by kernel_rfl) (by kernel_rfl) (by kernel_rfl) (by kernel_rfl) rfl (by omega)
  (a := ⟨b2, 0, none⟩) (m := 1) (mc := 1) (news := noteC (nt, q)) (by simp [noteC]) (fun j u hj => by
   match j, hj with
   | 0, hj => simp [noteC] at hj; subst hj; rw [add_at, cell_of hb2]; rfl
   | 1, hj => simp [noteC] at hj; subst hj; rw [add_at, cell_of hb2]; rfl
   | 2, hj => simp [noteC] at hj; subst hj; rw [add_at, cell_of hb2]; rfl
   | 3, hj => simp [noteC] at hj; subst hj; rw [add_at, cell_of hb2]; rfl
   | j + 4, hj => simp [noteC] at hj) (fun u hu => by simp [noteC] at hu; rcases hu with rfl | rfl | rfl | rfl <;> rfl) (by unfold maxLen; omega) (by omega)
 have hSp : ∀ i ∈ rowB p, ¬ S i := h.apart
 refine ⟨p', n + 1, c', w', happ, ⟨⟨g ++ [(nt, q)], by rw [List.map_append, k1]; rfl, by rw [List.flatMap_append]; simpa using hrow, fun x hx => ?_⟩, by simp [hl], fun i hi hSi => ?_⟩, hc, hnew⟩
 ·rcases List.mem_append.1 hx with hx | hx
  ·exact (k3 x hx).chg hc hSp
  ·simp at hx; subst hx; exact hq.chg hc hSp
 ·rcases hnew i hi with h' | h'
  ·exact hSp i h' hSi
  ·have := hS i hSi; omega
end Go.Proofs.YtfcfkhbkkfpehaaGreatDoor
end
section
/- Law 14, in plain Lean: lists of places that rise; what is noted behind a step. -/
namespace Go.Proofs.YtfcfkhbkkfpehaaGreatDoor
open Go Go.RowKit Go.X Go.XR
theorem lt_irrefl (a : Pl) : ¬ ltPl a a := by unfold ltPl; omega
theorem AddsAt.take {w : World} {S : Nat → Prop} {p : Option Addr} {n : Nat} {l : List AddV} (h : AddsAt w S p n l) {c : Nat} (hc : c ≤ n) : AddsAt w S p c (l.take c) :=
 ⟨by rw [List.length_take, h.length]; omega, fun j x hx => by
  rw [List.getElem?_take] at hx
  split at hx
  ·exact h.each j x hx
  ·cases hx⟩
end Go.Proofs.YtfcfkhbkkfpehaaGreatDoor
end
section
namespace Go.Proofs.YtfcfkhbkkfpehaaGreatDoor
open Go Go.X
end Go.Proofs.YtfcfkhbkkfpehaaGreatDoor
end
section
/- The document's Last, ahead, with. -/
namespace Go.Proofs.YtfcfkhbkkfpehaaGreatDoor
open Go Go.RowKit Go.X Go.XR
/-! ### with -/
theorem push_place {w : World} {p : Option Addr} {n c : Nat} {xs : List Pl} (h : RowAt w 25 2 p n c (xs.flatMap encPl)) (hn : n = xs.length) (hle : n ≤ 1000000000000) {x : Pl} {b : Nat} (hb : w.heap[b]? = some (.cells #[.int .i64 x.1, .int .i64 x.2] 25 (0, 0))) :
  ∃ (p' : Option Addr) (n' c' : Nat) (w' : World), (Builtin.append_ #[34, 34] 34 #[.slice p n c, .slice (some (⟨b, 0, none⟩ : Addr)) 1 1]).run Tryz.prog w = .ok (.slice p' n' c') w' ∧ RowAt w' 25 2 p' n' c' ((xs ++ [x]).flatMap encPl) ∧ n' = (xs ++ [x]).length ∧ Chg (rowB p) w w' ∧ ∀ i ∈ rowB p', i ∈ rowB p ∨ w.heap.size ≤ i := by
 obtain ⟨p', c', w', happ, hrow, hc, hnew⟩ := h.append (P := Tryz.prog) (t := 34) (ty := 34) (i := Tryz.t25) (z := .agg #[.int .i64 0, .int .i64 0]) (bytes := 16) (by kernel_rfl) (by kernel_rfl) (by kernel_rfl) (by kernel_rfl) (by kernel_rfl) rfl (by omega)
  (a := ⟨b, 0, none⟩) (m := 1) (mc := 1) (news := encPl x) rfl (fun j u hj => by
   match j, hj with
   | 0, hj => simp [encPl] at hj; subst hj; rw [add_at, cell_of hb]; rfl
   | 1, hj => simp [encPl] at hj; subst hj; rw [add_at, cell_of hb]; rfl
   | j + 2, hj => simp [encPl] at hj) (fun u hu => by simp [encPl] at hu; rcases hu with rfl | rfl <;> rfl) (by unfold maxLen; omega) (by omega)
 exact ⟨p', n + 1, c', w', happ, by rw [List.flatMap_append]; simpa using hrow, by simp [hn], hc, hnew⟩
end Go.Proofs.YtfcfkhbkkfpehaaGreatDoor
end
section
/- The document's flows: New, May, Keep, Put, Mark. -/
namespace Go.Proofs.YtfcfkhbkkfpehaaGreatDoor
open Go Go.RowKit Go.X
/-! ### Rows of equal elements -/
theorem flat_get {α : Type} (enc : α → List Value) {size : Nat} (hs : ∀ x, (enc x).length = size) : ∀ (l : List α) (j : Nat) (x : α), l[j]? = some x → ∀ k, k < size → (l.flatMap enc)[j * size + k]? = (enc x)[k]?
 | [], _, _, h, _, _ => by simp at h
 | a :: l, 0, x, h, k, hk => by
  simp at h; subst h
  simp only [List.flatMap_cons, Nat.zero_mul, Nat.zero_add]
  rw [List.getElem?_append_left (by rw [hs]; exact hk)]
 | a :: l, j + 1, x, h, k, hk => by
  simp only [List.flatMap_cons]
  rw [List.getElem?_append_right (by rw [hs, Nat.add_mul]; omega), hs]
  have : (j + 1) * size + k - size = j * size + k := by rw [Nat.add_mul]; omega
  rw [this]
  exact flat_get enc hs l j x (by simpa using h) k hk
theorem cellsAt_iff {w : World} {q : Addr} : ∀ {i : Nat} {vs : List Value}, CellsAt w q i vs ↔ ∀ k v, vs[k]? = some v → w.cell? (q.add (i + k)) = some v
 | i, [] => by simp [CellsAt]
 | i, v :: vs => by
  simp only [CellsAt]
  rw [cellsAt_iff (i := i + 1) (vs := vs)]
  constructor
  ·rintro ⟨h1, h2⟩ k u hk
   cases k with
   | zero => simp at hk; subst hk; simpa using h1
   | succ k => simp at hk; have := h2 k u hk; rw [show i + (k + 1) = i + 1 + k by omega]; exact this
  ·intro h
   exact ⟨by simpa using h 0 v rfl, fun k u hk => by have := h (k + 1) u (by simpa using hk); rw [show i + 1 + k = i + (k + 1) by omega]; exact this⟩
theorem RowAt.elem {w : World} {e : TypeId} {size n c : Nat} {p : Option Addr} {α : Type} {enc : α → List Value} {l : List α} (hs : ∀ x, (enc x).length = size) (h : RowAt w e size p n c (l.flatMap enc)) {j : Nat} {x : α} (hj : l[j]? = some x) (h0 : 0 < size) :
  ∃ a, p = some a ∧ CellsAt w (a.add (j * size)) 0 (enc x) := by
 have hget := flat_get enc hs l j x hj
 have hex : ∃ a, p = some a := by
  have h1 := hget 0 h0
  obtain ⟨v, hv⟩ : ∃ v, (enc x)[0]? = some v := ⟨_, List.getElem?_eq_getElem (by rw [hs]; exact h0)⟩
  rw [hv] at h1
  obtain ⟨a, ha, _⟩ := RowAt.at h h1
  exact ⟨a, ha⟩
 obtain ⟨a, rfl⟩ := hex
 refine ⟨a, rfl, cellsAt_iff.2 fun k v hk => ?_⟩
 have hk' : k < size := by rw [← hs x]; exact (List.getElem?_eq_some_iff.1 hk).1
 have h1 := hget k hk'
 rw [hk] at h1
 obtain ⟨a', ha', hc⟩ := RowAt.at h h1
 cases ha'
 have hadd : (a.add (j * size)).add (0 + k) = a.add (j * size + k) := by
  unfold Addr.add; split <;> split <;> simp_all [Nat.add_assoc]
  all_goals omega
 rw [hadd]; exact hc
theorem flat_length {α : Type} {enc : α → List Value} {size : Nat} (hs : ∀ x, (enc x).length = size) (l : List α) : (l.flatMap enc).length = l.length * size := by
 induction l with
 | nil => simp
 | cons a l ih => simp only [List.flatMap_cons, List.length_append, hs, ih, List.length_cons]; rw [Nat.add_mul]; omega
abbrev Pr := (Int × Int) × Int
def encPr (x : Pr) : List Value := [.int .i64 x.1.1, .int .i64 x.1.2, .int .u32 x.2]
structure Rf where
 fr : Int
 se : Int
 most : Int
 sets : List Int
 pairs : List Pr
structure RefAt (w : World) (R : Rf) (p4 : Option Addr) (n4 c4 : Nat) (p5 : Option Addr) (n5 c5 : Nat) : Prop where
 sets : RowAt w 43 1 p4 n4 c4 (R.sets.map (.int .u32))
 pairs : RowAt w 71 3 p5 n5 c5 (R.pairs.flatMap encPr)
theorem RefAt.chg {w w' : World} {R : Rf} {p4 p5 : Option Addr} {n4 c4 n5 c5 : Nat} {f : List Nat} (h : RefAt w R p4 n4 c4 p5 n5 c5) (hc : Chg f w w') (h4 : ∀ i ∈ rowB p4, i ∉ f) (h5 : ∀ i ∈ rowB p5, i ∉ f) : RefAt w' R p4 n4 c4 p5 n5 c5 :=
 ⟨h.sets.chg hc h4, h.pairs.chg hc h5⟩
theorem RefAt.n4 {w : World} {R : Rf} {p4 p5 : Option Addr} {n4 c4 n5 c5 : Nat} (h : RefAt w R p4 n4 c4 p5 n5 c5) : n4 = R.sets.length := by have := h.sets.length; simp at this; omega
theorem RefAt.n5 {w : World} {R : Rf} {p4 p5 : Option Addr} {n4 c4 n5 c5 : Nat} (h : RefAt w R p4 n4 c4 p5 n5 c5) : n5 = R.pairs.length := by
 have := h.pairs.length; rw [flat_length (size := 3) (fun _ => rfl)] at this; omega
theorem ref_may {w : World} (fr se f3 : Int) (p4 p5 : Option Addr) (n4 c4 n5 c5 : Nat) (p1 p2 : Int) (hw : i64s (64 * fr) ∧ i64s (64 * se)) :
  Calls Tryz.prog 40 #[.agg #[.int .i64 fr, .int .i64 se, .int .i64 f3, .slice p4 n4 c4, .slice p5 n5 c5], .agg #[.int .i64 p1, .int .i64 p2]] w fun e w' => ∃ r : Bool, e = .returned (.bool r) ∧ (r = decide (mayP fr se (p1, p2)) ∧ Chg [] w w') := by
 obtain ⟨⟨hw1, hw2⟩, hw3, hw4⟩ := hw
 refine ok_pomanderref12_Flow_May _ _ _ _ _ _ _ _ _ _ _ _ _ ?_
 unfold V_pomanderref12_Flow_May
 refine v_alloc fun b1 w1 e1 h1 c1 => ?_
 refine v_alloc fun b2 w2 e2 h2 c2 => ?_
 have h12 := c2.obj (by simp) h1
 have c02 := c1.trans0 c2
 refine ⟨p1, by rw [cell_of h2]; rfl, fun s w3 => w3 = w2 ∧ 1 ≤ p1 ∧ p1 ≤ 17 ∧ s.2 = boundP fr se p1, ?_, fun hb => ?_, fun hb => ?_⟩
 ·rintro ⟨s1, s2⟩ w3 ⟨hw, k1, k2, rfl⟩
  subst w3
  refine ⟨p2, by rw [cell_of h2]; rfl, _, fun b w h => h, fun hb => ⟨p2, by rw [cell_of h2]; rfl, ?_, c02⟩, fun hb => ⟨?_, c02⟩⟩
  ·have : 0 ≤ p2 := by simpa using hb
   exact decide_eq_decide.2 (by unfold mayP; simp only []; omega)
  ·have : ¬ 0 ≤ p2 := by simpa using hb
   symm; rw [decide_eq_false_iff_not]; unfold mayP; simp only []; omega
 ·have : p1 < 1 ∨ 17 < p1 := by simpa using hb
  refine ⟨?_, c02⟩
  symm; rw [decide_eq_false_iff_not]; unfold mayP; simp only []; omega
 have hk : 1 ≤ p1 ∧ p1 ≤ 17 := by simpa using hb
 have hbd : ∀ v, v = boundP fr se p1 → (w2 = w2 ∧ 1 ≤ p1 ∧ p1 ≤ 17 ∧ v = boundP fr se p1) := fun v hv => ⟨rfl, hk.1, hk.2, hv⟩
 refine ⟨fun e => hbd _ ?_, fun n1 => ⟨fun e => ?_, fun n10 => ⟨fun e => hbd _ ?_, fun n11 => ⟨fun e => ?_, fun n12 => ⟨fun e => hbd _ ?_, fun n13 => ⟨fun e => hbd _ ?_, fun n17 => hbd _ ?_⟩⟩⟩⟩⟩⟩
 ·have : p1 = 1 := by simpa using e
  unfold boundP; rw [if_pos this]
 ·have : p1 = 10 := by simpa using e
  refine ⟨fr, by rw [cell_of h12]; rfl, hbd _ ?_⟩
  simp only []
  rw [wr hw1 hw2]; unfold boundP; rw [if_neg (by omega), if_pos this]
 ·have : p1 = 11 := by simpa using e
  unfold boundP; rw [if_neg (by omega), if_neg (by omega), if_pos this]
 ·have : p1 = 12 := by simpa using e
  refine ⟨se, by rw [cell_of h12]; rfl, hbd _ ?_⟩
  simp only []
  rw [wr hw3 hw4]; unfold boundP; rw [if_neg (by omega), if_neg (by omega), if_neg (by omega), if_pos this]
 ·have : 13 ≤ p1 ∧ p1 ≤ 16 := by simpa using e
  unfold boundP; rw [if_neg (by omega), if_neg (by omega), if_neg (by omega), if_neg (by omega), if_neg (by omega), if_pos (by omega)]
 ·have : p1 = 17 := by simpa using e
  unfold boundP; rw [if_neg (by omega), if_neg (by omega), if_neg (by omega), if_neg (by omega), if_pos this]
 ·simp at n1 n10 n11 n12 n13 n17
  unfold boundP; rw [if_neg n1, if_neg n10, if_neg n11, if_neg n12, if_neg n17, if_neg (by omega)]
theorem ref_has {w : World} {t1 : Int} {p4 : Option Addr} {n4 c4 : Nat} {sets : List Int} (h : RowAt w 43 1 p4 n4 c4 (sets.map (.int .u32))) (hn : n4 ≤ 1000000000) (set : Int) :
  Calls Tryz.prog 62 #[.agg #[.int .i64 t1, .slice p4 n4 c4], .int .u32 set] w fun e w' => ∃ r : Int, e = .returned (.int .i64 r) ∧ ((if set ∈ sets then 0 ≤ r ∧ r < n4 else r = -1) ∧ Chg [] w w') := by
 have hl : n4 = sets.length := by have := h.length; simp at this; omega
 refine ok_pomanderref02_Table_Has _ _ _ _ _ _ _ ?_
 unfold V_pomanderref02_Table_Has
 refine v_alloc fun b1 w1 e1 h1 c1 => ?_
 refine ⟨fun s w' => ∃ j : Nat, s.2 = (j : Int) ∧ j ≤ n4 ∧ (∀ x ∈ sets.take j, x ≠ set) ∧ w' = w1, fun s _ => (n4 - s.2).toNat, ⟨0, rfl, by omega, by intro x hx; simp at hx, rfl⟩, ?_⟩
 rintro ⟨s1, s2⟩ w2 ⟨j, rfl, hj, hno, hw⟩
 subst w2
 refine ⟨p4, n4, c4, by rw [cell_of h1]; rfl, fun hlt => ?_, fun hge => ?_⟩
 ·have hlt' : j < n4 := by simpa using hlt
  obtain ⟨x, hx⟩ := get_of (l := sets) (j := j) (by omega)
  obtain ⟨a, rfl, hc⟩ := RowAt.at (h.chg c1 (by simp)) (j := j) (u := .int .u32 x) (by rw [List.getElem?_map, hx]; rfl)
  refine ⟨_, n4, c4, by rw [cell_of h1]; rfl, a, rfl, by simp only []; omega, by simp only []; omega, x, by simpa using hc, fun he => ?_, fun hne => ?_⟩
  ·have he' : x = set := by simpa using he
   refine ⟨?_, c1⟩
   rw [if_pos (he' ▸ List.mem_of_getElem? hx)]
   simp only []; omega
  ·have hne' : x ≠ set := by simpa using hne
   simp only []
   rw [wr (by omega) (by omega)]
   refine ⟨⟨j + 1, by omega, by omega, ?_, trivial⟩, by omega⟩
   rw [take_snoc hx]
   intro y hy
   rcases List.mem_append.1 hy with hy | hy
   ·exact hno y hy
   ·simp at hy; rw [hy]; exact hne'
 ·have hge' : ¬ j < n4 := by simpa using hge
  rw [List.take_of_length_le (by omega)] at hno
  refine ⟨?_, c1⟩
  rw [if_neg (fun hm => hno set hm rfl)]
end Go.Proofs.YtfcfkhbkkfpehaaGreatDoor
end
section
/- The document's flows: Keep, ahead, Put. -/
namespace Go.Proofs.YtfcfkhbkkfpehaaGreatDoor
open Go Go.RowKit Go.X
theorem ref_keep {w : World} {most : Int} {p4 : Option Addr} {n4 cc : Nat} {sets : List Int} (h : RowAt w 43 1 p4 n4 cc (sets.map (.int .u32))) (hn : n4 ≤ 1000000) (hne : sets ≠ []) {set : Int} (hs0 : 0 ≤ set) :
  Calls Tryz.prog 41 #[.agg #[.int .i64 most, .slice p4 n4 cc], .int .u32 set] w fun e w' => ∃ (r1 : Int) (r2 : Option Addr) (r2n : Nat) (r2c : Nat) (r3 : Int) (r4 : Int), e = .returned (.tuple #[.agg #[.int .i64 r1, .slice r2 r2n r2c], .int .i64 r3, .int .i64 r4]) ∧
   (r1 = most ∧ r4 = keepE most sets set ∧ RowAt w' 43 1 r2 r2n r2c ((keepS most sets set).map (.int .u32)) ∧ Chg [] w w' ∧ ∀ i ∈ rowB r2, i ∈ rowB p4 ∨ w.heap.size ≤ i) := by
 have hl : n4 = sets.length := by have := h.length; simp at this; omega
 refine ok_pomanderref02_Table_Keep _ _ _ _ _ _ _ ?_
 unfold V_pomanderref02_Table_Keep
 refine v_alloc fun b1 w1 e1 h1 c1 => ?_
 refine v_alloc fun b2 w2 e2 h2 c2 => ?_
 have l1 : b1 < w1.heap.size := lt_of_heap h1
 have l2 : b2 < w2.heap.size := lt_of_heap h2
 have s1 := c1.size
 have s2 := c2.size
 have h12 := c2.obj (by simp) h1
 have c02 := c1.trans0 c2
 have hlt := h.lt
 refine ⟨fun hb => ?_, fun hb => ?_⟩
 ·have hb' : 65536 ≤ set := by simpa using hb
  refine ⟨most, p4, n4, cc, cellsAt_of h12, v_fill h2 (by rfl) (by rfl) fun w3 h3 c3 _ => ?_⟩
  have c03 : Chg [] w w3 := c02.trans c3 (fun i hi hlt => by simp at hi; omega)
  refine ⟨most, p4, n4, cc, cellsAt_of h3, rfl, by simp [keepE, hb'], ?_, c03, fun i hi => .inl hi⟩
  rw [show keepS most sets set = sets by simp [keepS, hb']]
  exact h.chg c03 (by simp)
 have hb' : ¬ 65536 ≤ set := by simpa using hb
 refine ⟨most, p4, n4, cc, cellsAt_of h12, ?_⟩
 refine (ref_has (h.chg c02 (by simp)) (by omega) set).mono ?_
 rintro _ w4 ⟨r7, rfl, hr, c4⟩
 have h14 := c4.obj (by simp) h12
 have h24 := c4.obj (by simp) h2
 have c04 := c02.trans0 c4
 refine ⟨_, rfl, fun hin => ?_, fun hnin => ?_⟩
 ·have hin' : 0 ≤ r7 := by simpa using hin
  have hm : set ∈ sets := Classical.byContradiction fun hm => by rw [if_neg hm] at hr; omega
  refine ⟨most, p4, n4, cc, cellsAt_of h14, v_fill h24 (by rfl) (by rfl) fun w3 h3 c3 _ => ?_⟩
  have c03 : Chg [] w w3 := c04.trans c3 (fun i hi hlt => by simp at hi; omega)
  refine ⟨most, p4, n4, cc, cellsAt_of h3, rfl, by simp [keepE, hb', hm], ?_, c03, fun i hi => .inl hi⟩
  rw [show keepS most sets set = sets by simp [keepS, hm]]
  exact h.chg c03 (by simp)
 have hnin' : ¬ 0 ≤ r7 := by simpa using hnin
 have hm : set ∉ sets := fun hm => by rw [if_pos hm] at hr; omega
 refine ⟨p4, n4, cc, by rw [cell_of h14]; rfl, most, by rw [cell_of h14]; rfl, fun hfull => ?_, fun hroom => ?_⟩
 ·have hfull' : most ≤ (n4 : Int) := by simpa using hfull
  refine ⟨most, p4, n4, cc, cellsAt_of h14, v_fill h24 (by rfl) (by rfl) fun w3 h3 c3 _ => ?_⟩
  have c03 : Chg [] w w3 := c04.trans c3 (fun i hi hlt => by simp at hi; omega)
  refine ⟨most, p4, n4, cc, cellsAt_of h3, rfl, by simp [keepE, hb', hm]; omega, ?_, c03, fun i hi => .inl hi⟩
  rw [show keepS most sets set = sets by simp [keepS]; intro h; omega]
  exact h.chg c03 (by simp)
 have hroom' : ¬ most ≤ (n4 : Int) := by simpa using hroom
 -- the row as the source of an append
 obtain ⟨x0, hx0⟩ := get_of (l := sets) (j := 0) (by cases sets with | nil => exact absurd rfl hne | cons a l => simp)
 obtain ⟨a, rfl, _⟩ := RowAt.at h (j := 0) (u := .int .u32 x0) (by rw [List.getElem?_map, hx0]; rfl)
 have h4 := h.chg c04 (by simp)
 refine ⟨some a, n4, cc, by rw [cell_of h14]; rfl, ?_⟩
 obtain ⟨p', c', w7, happ, hrow7, c7, hf7⟩ := (RowAt.nil (w := w4) (e := 43) (size := 1)).append (P := Tryz.prog) (t := 59) (ty := 59) (i := Tryz.t43) (z := .int .u32 0) (bytes := 4) (by kernel_rfl) (by kernel_rfl) (by kernel_rfl) (by kernel_rfl) (by kernel_rfl) rfl (by omega)
  (a := a) (m := n4) (mc := cc) (news := sets.map (.int .u32)) (by simpa using hl.symm) (fun j u hu => by
   obtain ⟨a', ha', hc'⟩ := RowAt.at h4 hu
   cases ha'; exact hc') (by simp [Value.oneCell']) (by simp only [maxLen]; omega) (by omega)
 rw [Nat.zero_add] at happ hrow7
 simp only [rowB, Option.toList_none, List.map_nil] at c7
 refine ⟨p', n4, c', w7, happ, ?_⟩
 refine v_alloc fun b3 w8 e3 h3 c8 => ?_
 obtain ⟨p'', c'', w9, happ2, hrow9, c9, hf9⟩ := (hrow7.chg c8 (by simp)).append (P := Tryz.prog) (t := 59) (ty := 59) (i := Tryz.t43) (z := .int .u32 0) (bytes := 4) (by kernel_rfl) (by kernel_rfl) (by kernel_rfl) (by kernel_rfl) (by kernel_rfl) rfl (by omega)
  (a := ⟨b3, 0, none⟩) (m := 1) (mc := 1) (news := [.int .u32 set]) rfl (fun i u hi => by
   cases i with
   | zero => simp at hi; subst hi; rw [add_at, cell_of h3]; rfl
   | succ i => simp at hi) (by simp [Value.oneCell']) (by simp only [maxLen]; omega) (by omega)
 refine ⟨p'', n4 + 1, c'', w9, happ2, ?_⟩
 have s4 := c4.size
 have s7 := c7.size
 have s8 := c8.size
 have s9 := c9.size
 have hf7' : ∀ i ∈ rowB p', w4.heap.size ≤ i := fun i hi => (hf7 i hi).resolve_left (by simp [rowB])
 have hf9' : ∀ i ∈ rowB p'', w4.heap.size ≤ i := fun i hi => by
  rcases hf9 i hi with h | h
  ·exact hf7' i h
  ·omega
 have c49 : Chg [] w4 w9 := (c7.trans0 c8).trans c9 (fun i hi hlt => by have := hf7' i hi; omega)
 have h19 := c49.obj (by simp) h14
 have h29 := c49.obj (by simp) h24
 have c09 := c04.trans0 c49
 refine v_set0 (v := .slice p'' (n4 + 1) c'') h19 (by simp) fun w10 h10 c10 hs10 => ?_
 refine v_drew fun w11 c11 => ?_
 have h11 : w11.heap[b1]? = some (.cells #[.int .i64 most, .slice p'' (n4 + 1) c''] 61 (0, 0)) := c11.obj (by simp) (by simpa using h10)
 have h211 : w11.heap[b2]? = some (.cells #[.int .i64 0, .slice none 0 0] 61 (0, 0)) := c11.obj (by simp) (c10.obj (by simp; omega) h29)
 refine ⟨most, p'', n4 + 1, c'', cellsAt_of h11, p'', n4 + 1, c'', by rw [cell_of h11]; rfl, v_fill h211 (by rfl) (by rfl) fun w12 h212 c1112 _ => ?_⟩
 have c012 : Chg [] w w11 := (c09.trans c10 (fun i hi hlt => by simp at hi; omega)).trans0 c11
 have c12 : Chg [] w w12 := c012.trans c1112 (fun i hi hlt => by simp at hi; omega)
 have h112 := c1112.obj (by simp; omega) h11
 refine ⟨⟨cellsAt_of h112, by rw [cell_of h112]; rfl, trivial⟩, most, p'', n4 + 1, c'', cellsAt_of h212, rfl, by simp [keepE, hb', hm]; omega, ?_, c12, fun i hi => .inr (by have := hf9' i hi; omega)⟩
 have hS : keepS most sets set = sets ++ [set] := by unfold keepS; rw [if_neg (fun h => h.elim hb' fun h => h.elim hm fun h => hroom' (by omega))]
 rw [hS, List.map_append]
 have := ((hrow9.chg c10 (fun i hi hmm => by simp at hmm; have := hf9' i hi; omega)).chg c11 (by simp)).chg c1112 (fun i hi hmm => by simp at hmm; have := hf9' i hi; omega)
 simpa using this
def aheadP (a b : Int × Int) : Prop := a.1 < b.1 ∨ a.1 = b.1 ∧ a.2 < b.2
instance (a b : Int × Int) : Decidable (aheadP a b) := by unfold aheadP; exact inferInstance
theorem ref_ahead {w : World} (a1 a2 b1 b2 : Int) :
  Calls Tryz.prog 63 #[.agg #[.int .i64 a1, .int .i64 a2], .agg #[.int .i64 b1, .int .i64 b2]] w fun e w' => ∃ r : Bool, e = .returned (.bool r) ∧ (r = decide (aheadP (a1, a2) (b1, b2)) ∧ Chg [] w w') := by
 refine ok_pomanderref12_ahead _ _ _ _ _ _ ?_
 unfold V_pomanderref12_ahead
 refine v_alloc fun x1 w1 e1 h1 c1 => ?_
 refine v_alloc fun x2 w2 e2 h2 c2 => ?_
 have h12 := c2.obj (by simp) h1
 have c02 := c1.trans0 c2
 refine ⟨a1, by rw [cell_of h12]; rfl, b1, by rw [cell_of h2]; rfl, _, fun b w h => h, fun hb => ?_, fun hb => ?_⟩
 ·have hb' : ¬ a1 < b1 := by simpa using hb
  refine ⟨a1, by rw [cell_of h12]; rfl, b1, by rw [cell_of h2]; rfl, _, fun b w h => h, fun he => ?_, fun he => ?_⟩
  ·have he' : a1 = b1 := by simpa using he
   refine ⟨a2, by rw [cell_of h12]; rfl, b2, by rw [cell_of h2]; rfl, ?_, c02⟩
   exact decide_eq_decide.2 (by unfold aheadP; simp only []; omega)
  ·have he' : a1 ≠ b1 := by simpa using he
   refine ⟨?_, c02⟩
   symm; rw [decide_eq_false_iff_not]; unfold aheadP; simp only []; omega
 ·have hb' : a1 < b1 := by simpa using hb
  refine ⟨?_, c02⟩
  symm; rw [decide_eq_true_eq]; exact .inl hb'
def stepPut (p : Int × Int) (set : Int) (s : List Pr × Bool) (x : Pr) : List Pr × Bool :=
 let s1 := if !s.2 && decide (aheadP p x.1) then (s.1 ++ [(p, set)], true) else s
 let o2 := if x.1 = p then s1.1 else s1.1 ++ [x]
 if x.1 = p ∧ s1.2 = false then (o2 ++ [(p, set)], true) else (o2, s1.2)
def foldPut (p : Int × Int) (set : Int) (l : List Pr) : List Pr × Bool := l.foldl (stepPut p set) ([], set == 0)
def refPut (p : Int × Int) (set : Int) (l : List Pr) : List Pr := let s := foldPut p set l; if s.2 then s.1 else s.1 ++ [(p, set)]
theorem foldPut_snoc (p : Int × Int) (set : Int) (l : List Pr) (x : Pr) : foldPut p set (l ++ [x]) = stepPut p set (foldPut p set l) x := by simp [foldPut]
theorem stepPut_length (p : Int × Int) (set : Int) (s : List Pr × Bool) (x : Pr) : (stepPut p set s x).1.length ≤ s.1.length + 2 := by
 unfold stepPut
 simp only []
 split <;> split <;> split <;> simp_all
theorem foldPut_length (p : Int × Int) (set : Int) (l : List Pr) : (foldPut p set l).1.length ≤ 2 * l.length := by
 unfold foldPut
 have : ∀ (l : List Pr) (s : List Pr × Bool), (l.foldl (stepPut p set) s).1.length ≤ s.1.length + 2 * l.length := by
  intro l
  induction l with
  | nil => intro s; simp
  | cons x l ih => intro s; simp only [List.foldl_cons, List.length_cons]; have := ih (stepPut p set s x); have := stepPut_length p set s x; omega
 have := this l ([], set == 0)
 simpa using this
end Go.Proofs.YtfcfkhbkkfpehaaGreatDoor
end
section
/- The document's flows: Put. -/
namespace Go.Proofs.YtfcfkhbkkfpehaaGreatDoor
open Go Go.RowKit Go.X
theorem pair_beq (a b : Int × Int) : ((a.1 == b.1) && (a.2 == b.2)) = decide (a = b) := by
 obtain ⟨a1, a2⟩ := a
 obtain ⟨b1, b2⟩ := b
 apply Bool.eq_iff_iff.2
 simp
theorem append_pr {w : World} {p : Option Addr} {n c : Nat} {out : List Pr} (h : RowAt w 71 3 p n c (out.flatMap encPr)) {b : Nat} {x : Pr} (hb : w.heap[b]? = some (.cells (encPr x).toArray 71 (0, 0))) (hn : n ≤ 1000000000) :
  ∃ p' c' w', (Builtin.append_ #[62, 62] 62 #[.slice p n c, .slice (some (⟨b, 0, none⟩ : Addr)) 1 1]).run Tryz.prog w = .ok (.slice p' (n + 1) c') w' ∧ RowAt w' 71 3 p' (n + 1) c' ((out ++ [x]).flatMap encPr) ∧ Chg (rowB p) w w' ∧
   (∀ i ∈ rowB p', i ∈ rowB p ∨ w.heap.size ≤ i) := by
 obtain ⟨p', c', w', h1, h2, h3, h4⟩ := h.append (P := Tryz.prog) (t := 62) (ty := 62) (i := Tryz.t71) (z := .agg #[.int .i64 0, .int .i64 0, .int .u32 0]) (bytes := 24) (by kernel_rfl) (by kernel_rfl) (by kernel_rfl) (by kernel_rfl) (by kernel_rfl) rfl (by omega)
  (a := ⟨b, 0, none⟩) (m := 1) (mc := 1) (news := encPr x) rfl (fun i u hi => by
   rw [add_at, cell_of hb, Nat.zero_add]; simpa using hi) (by simp [encPr, Value.oneCell']) (by simp only [maxLen]; omega) (by omega)
 exact ⟨p', c', w', h1, by simpa [List.flatMap_append] using h2, h3, h4⟩
theorem ref_put {w : World} {R : Rf} {p4 p5 : Option Addr} {n4 c4 n5 c5 : Nat} (h : RefAt w R p4 n4 c4 p5 n5 c5) (hn : n5 ≤ 100000000) (p1 p2 set : Int) :
  Calls Tryz.prog 42 #[.agg #[.int .i64 R.fr, .int .i64 R.se, .int .i64 R.most, .slice p4 n4 c4, .slice p5 n5 c5], .agg #[.int .i64 p1, .int .i64 p2], .int .u32 set] w fun e w' =>
   ∃ (r1 : Int) (r2 : Int) (r3 : Int) (r4 : Option Addr) (r4n : Nat) (r4c : Nat) (r5 : Option Addr) (r5n : Nat) (r5c : Nat), e = .returned (.agg #[.int .i64 r1, .int .i64 r2, .int .i64 r3, .slice r4 r4n r4c, .slice r5 r5n r5c]) ∧
   (r1 = R.fr ∧ r2 = R.se ∧ r3 = R.most ∧ r4 = p4 ∧ r4n = n4 ∧ r4c = c4 ∧ RefAt w' { R with pairs := refPut (p1, p2) set R.pairs } r4 r4n r4c r5 r5n r5c ∧ Chg [] w w' ∧ ∀ i ∈ rowB r5, w.heap.size ≤ i) := by
 have hl := h.n5
 have hlt4 := h.sets.lt
 have hlt5 := h.pairs.lt
 refine ok_pomanderref12_Flow_Put _ _ _ _ _ _ _ _ _ _ _ _ _ _ ?_
 unfold V_pomanderref12_Flow_Put
 refine v_alloc fun b1 w1 e1 h1 c1 => ?_
 refine v_alloc fun b2 w2 e2 h2 c2 => ?_
 refine v_alloc fun b3 w3 e3 h3 c3 => ?_
 have l1 : b1 < w1.heap.size := lt_of_heap h1
 have l2 : b2 < w2.heap.size := lt_of_heap h2
 have l3 : b3 < w3.heap.size := lt_of_heap h3
 have s1 := c1.size
 have s2 := c2.size
 have s3 := c3.size
 have c03 := (c1.trans0 c2).trans0 c3
 have h13 := (c2.trans0 c3).obj (by simp) h1
 have h23 := c3.obj (by simp) h2
 generalize hp : ((p1, p2) : Int × Int) = p
 have hp1 : p.1 = p1 := by rw [← hp]
 have hp2 : p.2 = p2 := by rw [← hp]
 -- what goes on being so
 let Base (w' : World) (o : Option Addr) : Prop := Chg [] w w' ∧ w'.heap[b1]? = some (.cells #[.int .i64 R.fr, .int .i64 R.se, .int .i64 R.most, .slice p4 n4 c4, .slice p5 n5 c5] 64 (0, 0)) ∧
  w'.heap[b2]? = some (.cells #[.int .i64 p1, .int .i64 p2] 25 (0, 0)) ∧ w'.heap[b3]? = some (.cells #[.int .i64 0, .int .i64 0, .int .i64 0, .slice none 0 0, .slice none 0 0] 64 (0, 0)) ∧ w3.heap.size ≤ w'.heap.size ∧ ∀ i ∈ rowB o, w3.heap.size ≤ i
 have base_step : ∀ {w' w'' : World} {o o' : Option Addr}, Base w' o → Chg (rowB o) w' w'' → (∀ i ∈ rowB o', i ∈ rowB o ∨ w'.heap.size ≤ i) → Base w'' o' := by
  rintro w' w'' o o' ⟨k1, k2, k3, k4, k5, k6⟩ c f
  refine ⟨k1.trans c (fun i hi hlt => by have := k6 i hi; omega), c.obj (fun hm => by have := k6 _ hm; omega) k2, c.obj (fun hm => by have := k6 _ hm; omega) k3, c.obj (fun hm => by have := k6 _ hm; omega) k4, Nat.le_trans k5 c.size, fun i hi => ?_⟩
  rcases f i hi with h | h
  ·exact k6 i h
  ·omega
 have base_nil : ∀ {w' w'' : World} {o : Option Addr}, Base w' o → Chg [] w' w'' → Base w'' o := fun hb c => base_step hb c.nil (fun i hi => .inl hi)
 have fold_len : ∀ j, (foldPut p set (R.pairs.take j)).1.length ≤ 2 * n5 := fun j => by
  have := foldPut_length p set (R.pairs.take j)
  have := List.length_take_le j R.pairs
  have := List.length_take_le' j R.pairs
  omega
 refine ⟨fun s w' => ∃ j : Nat, s.2.2.2.2 = (j : Int) ∧ j ≤ n5 ∧ s.2.2.2.1 = (foldPut p set (R.pairs.take j)).2 ∧ RowAt w' 71 3 s.1 s.2.1 s.2.2.1 ((foldPut p set (R.pairs.take j)).1.flatMap encPr) ∧ Base w' s.1,
  fun s _ => (n5 - s.2.2.2.2).toNat, ⟨0, rfl, by omega, rfl, RowAt.nil, c03, h13, h23, h3, Nat.le_refl _, by simp [rowB]⟩, ?_⟩
 rintro ⟨o, on, oc, put, i⟩ w4 ⟨j, hij, hj, hput, hrow, hbase⟩
 simp only [] at hij hput hrow hbase
 subst hij
 obtain ⟨c04, h14, h24, h34, s4, ho⟩ := id hbase
 have hon : on = (foldPut p set (R.pairs.take j)).1.length := by
  have := hrow.length; rw [flat_length (size := 3) (fun _ => rfl)] at this; omega
 have hlen := fold_len j
 refine ⟨p5, n5, c5, by rw [cell_of h14]; rfl, fun hlt => ?_, fun hge => ?_⟩
 ·have hlt' : j < n5 := by simpa using hlt
  obtain ⟨x, hx⟩ := get_of (l := R.pairs) (j := j) (by omega)
  have hsnoc : foldPut p set (R.pairs.take (j + 1)) = stepPut p set (foldPut p set (R.pairs.take j)) x := by rw [take_snoc hx, foldPut_snoc]
  obtain ⟨a, rfl, hc⟩ := RowAt.elem (size := 3) (fun _ => rfl) (h.pairs.chg c04 (by simp)) hx (by omega)
  refine ⟨fun s w' => s.2.2.2 = (foldPut p set (R.pairs.take (j + 1))).2 ∧ RowAt w' 71 3 s.1 s.2.1 s.2.2.1 ((foldPut p set (R.pairs.take (j + 1))).1.flatMap encPr) ∧ Base w' s.1, ?_, ?_⟩
  ·rintro ⟨o', on', oc', put'⟩ w5 ⟨k1, k2, k3⟩
   simp only [] at k1 k2 k3 ⊢
   rw [wr (by omega) (by omega)]
   exact ⟨⟨j + 1, by omega, by omega, k1, k2, k3⟩, by omega⟩
  refine ⟨some a, n5, c5, by rw [cell_of h14]; rfl, a, rfl, by simp only []; omega, by simp only []; omega, x.1.1, x.1.2, x.2, by simpa [encPr] using hc, ?_⟩
  refine v_box (by rfl) (by rfl) fun b4 w7 e7 h7 c7 => ?_
  have hx1 : ((x.1.1, x.1.2) : Int × Int) = x.1 := rfl
  have hrow7 := hrow.chg c7 (by simp)
  have hbase7 := base_nil hbase c7
  have hrlt := hrow.lt
  generalize hs0 : foldPut p set (R.pairs.take j) = s0 at hput hrow hsnoc hrow7 hon hlen
  rw [hsnoc]
  obtain ⟨out, pu⟩ := s0
  simp only [] at hput hrow hrow7 hon hlen
  subst hput
  have ho4 : ∀ i ∈ rowB o, i ≠ b4 := fun i hi e => by have := hrlt i hi; omega
  -- the state behind the first choice
  let s1 : List Pr × Bool := if !put && decide (aheadP p x.1) then (out ++ [(p, set)], true) else (out, put)
  have hs1 : s1 = if !put && decide (aheadP p x.1) then (out ++ [(p, set)], true) else (out, put) := rfl
  have hl1 : s1.1.length ≤ on + 1 := by rw [hs1]; split <;> simp <;> omega
  refine ⟨fun s w' => s.2.2.2 = s1.2 ∧ RowAt w' 71 3 s.1 s.2.1 s.2.2.1 (s1.1.flatMap encPr) ∧ Base w' s.1 ∧ w'.heap[b4]? = some (.cells (encPr x).toArray 71 (0, 0)) ∧ ∀ i ∈ rowB s.1, i ≠ b4, ?_, ?_⟩
  rotate_left
  · -- is p ahead?
   refine ⟨fun b7 w' => b7 = (!put && decide (aheadP p x.1)) ∧ RowAt w' 71 3 o on oc (out.flatMap encPr) ∧ Base w' o ∧ w'.heap[b4]? = some (.cells (encPr x).toArray 71 (0, 0)), ?_, fun hnp => ?_, fun hnp => ?_⟩
   ·rintro b7 w14 ⟨hb7, hrow14, hbase14, h414⟩
    obtain ⟨c014, h114, h214, h314, s14, ho14⟩ := id hbase14
    refine ⟨fun ht => ?_, fun hf => ?_⟩
    ·rw [ht] at hb7
     have hs1' : s1 = (out ++ [(p, set)], true) := by rw [hs1, if_pos hb7.symm]
     refine ⟨p1, p2, cellsAt_of h214, ?_⟩
     refine v_alloc fun b8 w16 e16 h16 c16 => ?_
     obtain ⟨p', c', w17, happ, hr17, c17, f17⟩ := append_pr (x := (p, set)) (hrow14.chg c16 (by simp)) (by rw [h16, ← hp]; rfl) (by omega)
     refine ⟨p', on + 1, c', w17, happ, by rw [hs1'], by rw [hs1']; exact hr17, base_step (base_nil hbase14 c16) c17 f17, c17.obj (fun hm => ho4 _ hm rfl) (c16.obj (by simp) h414), fun i hi e => ?_⟩
     rcases f17 i hi with h | h
     ·exact ho4 i h e
     ·have := lt_of_heap h414; have := c16.size; omega
    ·rw [hf] at hb7
     have hs1' : s1 = (out, put) := by rw [hs1, if_neg (by rw [← hb7]; simp)]
     rw [hs1']
     exact ⟨rfl, hrow14, hbase14, h414, ho4⟩
   ·have hnp' : put = false := by simpa using hnp
    refine ⟨p1, p2, cellsAt_of (c7.obj (by simp) h24), x.1.1, x.1.2, ⟨by rw [add_at, cell_of h7]; rfl, by rw [add_at, cell_of h7]; rfl, trivial⟩, ?_⟩
    refine (ref_ahead p1 p2 x.1.1 x.1.2).mono ?_
    rintro _ w15 ⟨_, rfl, rfl, c15⟩
    refine ⟨_, rfl, ?_, hrow7.chg c15 (by simp), base_nil hbase7 c15, c15.obj (by simp) h7⟩
    rw [hnp', hp, hx1]; rfl
   ·have hnp' : put = true := by simpa using hnp
    exact ⟨by simp [hnp'], hrow7, hbase7, h7⟩
  rintro ⟨o8, on8, oc8, put8⟩ w8 ⟨hput8, hrow8, hbase8, h48, ho8⟩
  simp only [] at hput8 hrow8 hbase8 ho8
  have hon8 : on8 = s1.1.length := by have := hrow8.length; rw [flat_length (size := 3) (fun _ => rfl)] at this; omega
  obtain ⟨c08, h18, h28, h38, s8, hb8⟩ := id hbase8
  let o2 : List Pr := if x.1 = p then s1.1 else s1.1 ++ [x]
  have ho2 : o2 = if x.1 = p then s1.1 else s1.1 ++ [x] := rfl
  have hl2 : o2.length ≤ on + 2 := by
   rw [ho2]
   split
   ·omega
   ·rw [List.length_append, List.length_singleton]; omega
  have hfin : stepPut p set (out, put) x = if x.1 = p ∧ s1.2 = false then (o2 ++ [(p, set)], true) else (o2, s1.2) := rfl
  rw [hfin]
  have heq : ((x.1.1 == p1) && (x.1.2 == p2)) = decide (x.1 = p) := by
   rw [← hp1, ← hp2]
   exact pair_beq x.1 p
  refine ⟨fun s w' => RowAt w' 71 3 s.1 s.2.1 s.2.2 (o2.flatMap encPr) ∧ Base w' s.1 ∧ w'.heap[b4]? = some (.cells (encPr x).toArray 71 (0, 0)), ?_, ?_⟩
  ·rintro ⟨o9, on9, oc9⟩ w9 ⟨hrow9, hbase9, h49⟩
   simp only [] at hrow9 hbase9
   have hon9 : on9 = o2.length := by have := hrow9.length; rw [flat_length (size := 3) (fun _ => rfl)] at this; omega
   obtain ⟨c09, h19, h29, h39, s9, hb9⟩ := id hbase9
   refine ⟨x.1.1, x.1.2, ⟨by rw [add_at, cell_of h49]; rfl, by rw [add_at, cell_of h49]; rfl, trivial⟩, p1, p2, cellsAt_of h29, fun ht => ?_, fun hf => ?_⟩
   ·have ht' : x.1 = p ∧ s1.2 = false := by
     simp only [] at ht
     rw [heq, hput8] at ht
     simpa using ht
    rw [if_pos ht']
    refine ⟨p1, p2, cellsAt_of h29, ?_⟩
    refine v_alloc fun b5 w10 e10 h10 c10 => ?_
    obtain ⟨p', c', w11, happ, hr11, c11, f11⟩ := append_pr (x := (p, set)) (hrow9.chg c10 (by simp)) (by rw [h10, ← hp]; rfl) (by omega)
    exact ⟨p', on9 + 1, c', w11, happ, rfl, hr11, base_step (base_nil hbase9 c10) c11 f11⟩
   ·have hf' : ¬ (x.1 = p ∧ s1.2 = false) := by
     simp only [] at hf
     rw [heq, hput8] at hf
     simpa using hf
    rw [if_neg hf']
    exact ⟨hput8, hrow9, hbase9⟩
  ·refine ⟨x.1.1, x.1.2, ⟨by rw [add_at, cell_of h48]; rfl, by rw [add_at, cell_of h48]; rfl, trivial⟩, p1, p2, cellsAt_of h28, fun ht => ?_, fun hf => ?_⟩
   ·have ht' : x.1 ≠ p := by
     rw [heq] at ht; simpa using ht
    have ho2' : o2 = s1.1 ++ [x] := by rw [ho2, if_neg ht']
    refine ⟨x.1.1, x.1.2, x.2, cellsAt_of h48, ?_⟩
    refine v_alloc fun b6 w12 e12 h12 c12 => ?_
    obtain ⟨p', c', w13, happ, hr13, c13, f13⟩ := append_pr (x := x) (hrow8.chg c12 (by simp)) h12 (by omega)
    refine ⟨p', on8 + 1, c', w13, happ, by rw [ho2']; exact hr13, base_step (base_nil hbase8 c12) c13 f13, c13.obj (fun hm => ho8 _ hm rfl) (c12.obj (by simp) h48)⟩
   ·have hf' : x.1 = p := by
     rw [heq] at hf; simpa using hf
    have ho2' : o2 = s1.1 := by rw [ho2, if_pos hf']
    rw [ho2']
    exact ⟨hrow8, hbase8, h48⟩
 ·have hge' : ¬ j < n5 := by simpa using hge
  rw [List.take_of_length_le (by omega)] at hput hrow hon hlen
  refine ⟨fun s w' => RowAt w' 71 3 s.1 s.2.1 s.2.2 ((refPut p set R.pairs).flatMap encPr) ∧ Base w' s.1, ?_, fun hnp => ?_, fun hnp => ?_⟩
  ·rintro ⟨o', on', oc'⟩ w18 ⟨hrow18, hbase18⟩
   simp only [] at hrow18 hbase18
   obtain ⟨c018, h118, h218, h318, s18, hb18⟩ := id hbase18
   refine v_set0 h118 (by simp) fun w19 h19 c19 _ => ?_
   have h19' : w19.heap[b1]? = some (.cells #[.int .i64 R.fr, .int .i64 R.se, .int .i64 R.most, .slice p4 n4 c4, .slice o' on' oc'] 64 (0, 0)) := by simpa using h19
   refine ⟨_, _, _, _, _, _, _, _, _, cellsAt_of h19', ?_⟩
   refine v_fill (c19.obj (by simp; omega) h318) (by rfl) (by rfl) fun w20 h20 c20 _ => ?_
   have c1820 : Chg [b1, b3] w18 w20 := (c19.mono (by simp)).trans c20 (by simp)
   have c020 : Chg [] w w20 := c018.trans c1820 (fun i hi hlt => by simp at hi; omega)
   refine ⟨_, _, _, _, _, _, _, _, _, cellsAt_of h20, rfl, rfl, rfl, rfl, rfl, rfl, ⟨h.sets.chg c020 (by simp), hrow18.chg c1820 (fun i hi hm => by have := hb18 i hi; simp at hm; omega)⟩, c020, fun i hi => by have := hb18 i hi; omega⟩
  ·have hnp' : put = false := by simpa using hnp
   have hr : refPut p set R.pairs = (foldPut p set R.pairs).1 ++ [(p, set)] := by unfold refPut; simp only []; rw [← hput, hnp']; rfl
   refine ⟨p1, p2, cellsAt_of h24, ?_⟩
   refine v_alloc fun b9 w21 e21 h21 c21 => ?_
   obtain ⟨p', c', w22, happ, hr22, c22, f22⟩ := append_pr (x := (p, set)) (hrow.chg c21 (by simp)) (by rw [h21, ← hp]; rfl) (by omega)
   exact ⟨p', on + 1, c', w22, happ, by rw [hr]; exact hr22, base_step (base_nil hbase c21) c22 f22⟩
  ·have hnp' : put = true := by simpa using hnp
   have hr : refPut p set R.pairs = (foldPut p set R.pairs).1 := by unfold refPut; simp only []; rw [← hput, hnp']; rfl
   exact ⟨by rw [hr]; exact hrow, hbase⟩
end Go.Proofs.YtfcfkhbkkfpehaaGreatDoor
end
section
/- The document's flows: New, Mark. -/
namespace Go.Proofs.YtfcfkhbkkfpehaaGreatDoor
open Go Go.RowKit Go.X
def muP (s : List Pr × Bool) : Nat := s.1.length + (if s.2 then 0 else 1)
theorem stepPut_mu (p : Int × Int) (set : Int) (s : List Pr × Bool) (x : Pr) : muP (stepPut p set s x) ≤ muP s + 1 := by
 obtain ⟨o, put⟩ := s
 unfold stepPut muP
 generalize decide (aheadP p x.1) = A
 by_cases h2 : x.1 = p <;> cases put <;> cases A <;> simp [h2]
theorem refPut_length (p : Int × Int) (set : Int) (l : List Pr) : (refPut p set l).length ≤ l.length + 1 := by
 have : ∀ (l : List Pr) (s : List Pr × Bool), muP (l.foldl (stepPut p set) s) ≤ muP s + l.length := by
  intro l
  induction l with
  | nil => intro s; exact Nat.le_refl _
  | cons x l ih => intro s; simp only [List.foldl_cons, List.length_cons]; have := ih (stepPut p set s x); have := stepPut_mu p set s x; omega
 have h := this l ([], set == 0)
 have h0 : muP (([], set == 0) : List Pr × Bool) ≤ 1 := by unfold muP; simp only []; split <;> simp
 have he : (refPut p set l).length = muP (l.foldl (stepPut p set) ([], set == 0)) := by
  unfold refPut foldPut muP
  simp only []
  split <;> simp
 omega
def refFill (p : Int × Int) (set : Int) (l : List Pr) : Nat → List Pr
 | 0 => l
 | n + 1 => refPut (p.1, p.2 + n) set (refFill p set l n)
theorem refFill_length (p : Int × Int) (set : Int) (l : List Pr) (n : Nat) : (refFill p set l n).length ≤ l.length + n := by
 induction n with
 | zero => exact Nat.le_refl _
 | succ n ih => have := refPut_length (p.1, p.2 + n) set (refFill p set l n); simp only [refFill]; omega
def refMarkE (R : Rf) (p : Int × Int) (n set : Int) : Int :=
 if ¬ mayP R.fr R.se p ∨ 65536 ≤ set then 2 else if n < 0 ∨ 65536 < n ∨ (0 < n ∧ ¬ mayP R.fr R.se (p.1, p.2 + n - 1)) then 4 else keepE R.most R.sets set
def refMark (R : Rf) (p : Int × Int) (n set : Int) : Rf := if refMarkE R p n set = 0 then { R with sets := keepS R.most R.sets set, pairs := refFill p set R.pairs n.toNat } else R
theorem ref_new {w : World} (fr se most : Int) :
  Calls Tryz.prog 17 #[.agg #[.int .i64 fr, .int .i64 se], .int .i64 most] w fun e w' => ∃ (r1 : Int) (r2 : Int) (r3 : Int) (r4 : Option Addr) (r4n : Nat) (r4c : Nat) (r5 : Option Addr) (r5n : Nat) (r5c : Nat), e = .returned (.agg #[.int .i64 r1, .int .i64 r2, .int .i64 r3, .slice r4 r4n r4c, .slice r5 r5n r5c]) ∧
   (r1 = fr ∧ r2 = se ∧ r3 = most ∧ RefAt w' ⟨fr, se, most, [0], []⟩ r4 r4n r4c r5 r5n r5c ∧ Chg [] w w' ∧ ∀ i ∈ rowB r4 ++ rowB r5, w.heap.size ≤ i) := by
 refine ok_pomanderref12_New _ _ _ _ _ ?_
 unfold V_pomanderref12_New
 refine v_alloc fun b1 w1 e1 h1 c1 => ?_
 refine v_alloc fun b2 w2 e2 h2 c2 => ?_
 refine v_drew fun w3 c3 => ?_
 have h13 := (c2.trans0 c3).obj (by simp) h1
 have h23 := c3.obj (by simp) h2
 have l1 : b1 < w1.heap.size := lt_of_heap h1
 have l2 : b2 < w2.heap.size := lt_of_heap h2
 have s1 := c1.size
 have s2 := c2.size
 have s3 := c3.size
 refine ⟨fr, se, cellsAt_of h13, ?_⟩
 have hnew : Calls Tryz.prog 35 #[.int .i64 most] w3 fun e w' => ∃ (r1 : Int) (r2 : Option Addr) (r2n : Nat) (r2c : Nat), e = .returned (.agg #[.int .i64 r1, .slice r2 r2n r2c]) ∧ (r1 = most ∧ RowAt w' 43 1 r2 r2n r2c ([0].map (.int .u32)) ∧ Chg [] w3 w' ∧ ∀ i ∈ rowB r2, w3.heap.size ≤ i) := by
  refine ok_pomanderref02_New _ _ _ ?_
  unfold V_pomanderref02_New
  refine v_alloc fun x1 v1 f1 g1 d1 => ?_
  refine v_alloc fun x2 v2 f2 g2 d2 => ?_
  have := d1.size
  have := lt_of_heap g1
  have := lt_of_heap g2
  refine v_fill (d2.obj (by simp) g1) (by rfl) (by rfl) fun v3 g3 d3 _ => ?_
  refine ⟨_, _, _, _, cellsAt_of g3, rfl, ?_, (d1.trans0 d2).trans d3 (fun i hi hlt => by simp at hi; omega), by simp [rowB]; omega⟩
  exact RowAt.of_heap (cs := [.int .u32 0]) (d3.obj (by simp; omega) g2) rfl (by simp [maxLen])
 refine hnew.mono ?_
 rintro _ w4 ⟨r6, r7, r7n, r7c, rfl, rfl, hrow, c4, hf⟩
 refine ⟨_, _, _, _, rfl, ⟨cellsAt_of (c4.obj (by simp) h13), trivial⟩, ?_⟩
 have s4 := c4.size
 refine v_fill (c4.obj (by simp) h23) (by rfl) (by rfl) fun w5 h5 c5 _ => ?_
 have c05 : Chg [] w w5 := (((c1.trans0 c2).trans0 c3).trans0 c4).trans c5 (fun i hi hlt => by simp at hi; omega)
 refine ⟨_, _, _, _, _, _, _, _, _, cellsAt_of h5, rfl, rfl, rfl, ⟨hrow.chg c5 (fun i hi hm => by have := hf i hi; simp at hm; omega), RowAt.nil⟩, c05, fun i hi => ?_⟩
 simp [rowB] at hi
 have := hf i (by simpa [rowB] using hi)
 omega
theorem ref_mark {w : World} {R : Rf} {p4 p5 : Option Addr} {n4 c4 n5 c5 : Nat} (h : RefAt w R p4 n4 c4 p5 n5 c5) (hn4 : n4 ≤ 1000000) (hn5 : n5 ≤ 90000000) (hne : R.sets ≠ []) (hw : 1 ≤ R.fr ∧ R.fr ≤ 32 ∧ 1 ≤ R.se ∧ R.se ≤ 32) {p1 p2 n set : Int} (hs0 : 0 ≤ set) :
  Calls Tryz.prog 19 #[.agg #[.int .i64 R.fr, .int .i64 R.se, .int .i64 R.most, .slice p4 n4 c4, .slice p5 n5 c5], .agg #[.int .i64 p1, .int .i64 p2], .int .i64 n, .int .u32 set] w fun e w' =>
   ∃ (r1 : Int) (r2 : Int) (r3 : Int) (r4 : Option Addr) (r4n : Nat) (r4c : Nat) (r5 : Option Addr) (r5n : Nat) (r5c : Nat) (r6 : Int), e = .returned (.tuple #[.agg #[.int .i64 r1, .int .i64 r2, .int .i64 r3, .slice r4 r4n r4c, .slice r5 r5n r5c], .int .i64 r6]) ∧
   (r1 = R.fr ∧ r2 = R.se ∧ r3 = R.most ∧ r6 = refMarkE R (p1, p2) n set ∧ RefAt w' (refMark R (p1, p2) n set) r4 r4n r4c r5 r5n r5c ∧ Chg [] w w' ∧ ∀ i ∈ rowB r4 ++ rowB r5, i ∈ rowB p4 ++ rowB p5 ∨ w.heap.size ≤ i) := by
 have hwf : i64s (64 * R.fr) ∧ i64s (64 * R.se) := by unfold i64s; omega
 have hlt4 := h.sets.lt
 have hlt5 := h.pairs.lt
 refine ok_pomanderref12_Flow_Mark _ _ _ _ _ _ _ _ _ _ _ _ _ _ _ ?_
 unfold V_pomanderref12_Flow_Mark
 refine v_alloc fun b1 w1 e1 h1 c1 => ?_
 refine v_alloc fun b2 w2 e2 h2 c2 => ?_
 refine v_alloc fun b3 w3 e3 h3 c3 => ?_
 have l1 : b1 < w1.heap.size := lt_of_heap h1
 have l2 : b2 < w2.heap.size := lt_of_heap h2
 have l3 : b3 < w3.heap.size := lt_of_heap h3
 have s1 := c1.size
 have s2 := c2.size
 have s3 := c3.size
 have h13 := (c2.trans0 c3).obj (by simp) h1
 have h23 := c3.obj (by simp) h2
 have c03 := (c1.trans0 c2).trans0 c3
 -- the way out with the flow as it was
 have back : ∀ {w4 : World} (E : Int), refMarkE R (p1, p2) n set = E → E ≠ 0 → Chg [] w3 w4 → ∃ (t8 : Int) (t9 : Int) (t10 : Int) (t11 : Option Addr) (t11n : Nat) (t11c : Nat) (t12 : Option Addr) (t12n : Nat) (t12c : Nat), CellsAt w4 (⟨b1, 0, none⟩ : Addr) 0 [.int .i64 t8, .int .i64 t9, .int .i64 t10, .slice t11 t11n t11c, .slice t12 t12n t12c] ∧ (Has w4 (⟨b3, 0, none⟩ : Addr) 5 ∧ Free w4 (⟨b3, 0, none⟩ : Addr) 5 ∧ ∀ w5 : World, w5 = setCells w4 (⟨b3, 0, none⟩ : Addr) 0 [.int .i64 t8, .int .i64 t9, .int .i64 t10, .slice t11 t11n t11c, .slice t12 t12n t12c] →
   (∃ (r8 : Int) (r9 : Int) (r10 : Int) (r11 : Option Addr) (r11n : Nat) (r11c : Nat) (r12 : Option Addr) (r12n : Nat) (r12c : Nat), CellsAt w5 (⟨b3, 0, none⟩ : Addr) 0 [.int .i64 r8, .int .i64 r9, .int .i64 r10, .slice r11 r11n r11c, .slice r12 r12n r12c] ∧
    (r8 = R.fr ∧ r9 = R.se ∧ r10 = R.most ∧ E = refMarkE R (p1, p2) n set ∧ RefAt w5 (refMark R (p1, p2) n set) r11 r11n r11c r12 r12n r12c ∧ Chg [] w w5 ∧ ∀ i ∈ rowB r11 ++ rowB r12, i ∈ rowB p4 ++ rowB p5 ∨ w.heap.size ≤ i))) := by
  intro w4 E hE hE0 c4
  refine ⟨_, _, _, _, _, _, _, _, _, cellsAt_of (c4.obj (by simp) h13), ?_⟩
  refine v_fill (c4.obj (by simp) h3) (by rfl) (by rfl) fun w5 h5 c5 _ => ?_
  have c05 : Chg [] w w5 := (c03.trans0 c4).trans c5 (fun i hi hlt => by simp at hi; omega)
  have hR : refMark R (p1, p2) n set = R := by unfold refMark; rw [if_neg (by rw [hE]; exact hE0)]
  exact ⟨_, _, _, _, _, _, _, _, _, cellsAt_of h5, rfl, rfl, rfl, hE.symm, by rw [hR]; exact h.chg c05 (by simp) (by simp), c05, fun i hi => .inl hi⟩
 refine ⟨_, _, _, _, _, _, _, _, _, cellsAt_of h13, p1, p2, cellsAt_of h23, ?_⟩
 refine (ref_may _ _ _ _ _ _ _ _ _ _ _ hwf).mono ?_
 rintro _ w4 ⟨_, rfl, rfl, c4⟩
 have h14 := c4.obj (by simp) h13
 have h24 := c4.obj (by simp) h23
 have h34 := c4.obj (by simp) h3
 have s4 := c4.size
 refine ⟨_, rfl, fun hbad => ?_, fun hgood => ?_⟩
 ·have hb : ¬ mayP R.fr R.se (p1, p2) ∨ 65536 ≤ set := by simpa using hbad
  exact back 2 (by unfold refMarkE; rw [if_pos hb]) (by omega) c4
 have hg : mayP R.fr R.se (p1, p2) ∧ set < 65536 := by simpa using hgood
 have hp2 : 0 ≤ p2 ∧ p2 < 2147483648 := by
  have hm := hg.1
  unfold mayP boundP at hm
  simp only [] at hm
  refine ⟨hm.2.2.1, ?_⟩
  have := hm.2.2.2
  split at this
  ·omega
  split at this
  ·omega
  split at this
  ·omega
  split at this
  ·omega
  split at this
  ·omega
  split at this <;> omega
 have hnot : ¬ (¬ mayP R.fr R.se (p1, p2) ∨ 65536 ≤ set) := by
  rintro (h | h)
  ·exact h hg.1
  ·omega
 refine ⟨fun b4 w6 => Chg [] w3 w6 ∧ b4 = decide (n < 0 ∨ 65536 < n ∨ (0 < n ∧ ¬ mayP R.fr R.se (p1, p2 + n - 1))), ?_, fun hn => ?_, fun hn => ?_⟩
 rotate_left
 ·have hn' : 0 ≤ n ∧ n ≤ 65536 := by simpa using hn
  refine ⟨_, fun b3 w5 h => h, fun hpos => ?_, fun hpos => ?_⟩
  ·have hpos' : 0 < n := by simpa using hpos
   refine ⟨_, _, _, _, _, _, _, _, _, cellsAt_of h14, p1, by rw [cell_of h24]; rfl, p2, by rw [cell_of h24]; rfl, ?_⟩
   rw [wr (n := p2 + n) (by omega) (by omega), wr (by omega) (by omega)]
   refine (ref_may _ _ _ _ _ _ _ _ _ _ _ hwf).mono ?_
   rintro _ w6 ⟨_, rfl, rfl, c6⟩
   refine ⟨_, rfl, c4.trans0 c6, ?_⟩
   rw [← decide_not]
   exact decide_eq_decide.2 ⟨fun h => .inr (.inr ⟨hpos', h⟩), fun h => by
    rcases h with h | h | h
    ·omega
    ·omega
    ·exact h.2⟩
  ·have hpos' : ¬ 0 < n := by simpa using hpos
   refine ⟨c4, ?_⟩
   symm; rw [decide_eq_false_iff_not]; omega
 ·have hn' : n < 0 ∨ 65536 < n := by simpa using hn
  refine ⟨c4, ?_⟩
  symm; rw [decide_eq_true_eq]; omega
 rintro b4 w6 ⟨c6, rfl⟩
 refine ⟨fun hbad => ?_, fun hok => ?_⟩
 ·rw [decide_eq_true_eq] at hbad
  exact back 4 (by unfold refMarkE; rw [if_neg hnot, if_pos hbad]) (by omega) c6
 rw [decide_eq_false_iff_not] at hok
 have hE : refMarkE R (p1, p2) n set = keepE R.most R.sets set := by unfold refMarkE; rw [if_neg hnot, if_neg hok]
 have h16 := c6.obj (by simp) h13
 have h26 := c6.obj (by simp) h23
 have h36 := c6.obj (by simp) h3
 have s6 := c6.size
 have c06 := c03.trans0 c6
 refine ⟨R.most, p4, n4, _, ⟨by rw [add_at, cell_of h16]; rfl, by rw [add_at, cell_of h16]; rfl, trivial⟩, ?_⟩
 refine (ref_keep (h.sets.chg c06 (by simp)) hn4 hne hs0).mono ?_
 rintro _ w10 ⟨r19, r20, r20n, r20c, r21, r22, rfl, rfl, rfl, hrow10, c10, hf10⟩
 have s10 := c10.size
 refine ⟨_, _, _, _, _, _, rfl, ?_⟩
 refine v_box (by rfl) (by rfl) fun b6 w12 e12 h12 c12 => ?_
 have s12 := c12.size
 have c312 := (c6.trans0 c10).trans0 c12
 have c012 := c03.trans0 c312
 have h112 := c312.obj (by simp) h13
 have h212 := c312.obj (by simp) h23
 have h312 := c312.obj (by simp) h3
 refine ⟨fun hbad => ?_, fun hz => ?_⟩
 ·have hbad' : keepE R.most R.sets set ≠ 0 := by simpa using hbad
  exact back _ hE hbad' c312
 have hz' : keepE R.most R.sets set = 0 := by simpa using hz
 refine ⟨_, _, _, _, cellsAt_of h12, ?_⟩
 refine v_fillAt (pre := [.int .i64 R.fr, .int .i64 R.se]) (zs := [.int .i64 R.most, .slice p4 n4 _]) (post := [.slice p5 n5 c5]) (by simpa using h112) (by rfl) (by rfl) (by rfl) fun w14 h14' c14 _ => ?_
 have hrow14 : RowAt w14 43 1 r20 r20n r20c ((keepS R.most R.sets set).map (.int .u32)) := (hrow10.chg c12 (by simp)).chg c14 (fun i hi hm => by
  simp at hm
  rcases hf10 i hi with h' | h'
  ·have := hlt4 i h'; omega
  ·omega)
 have h214 := c14.obj (by simp; omega) h212
 have h314 := c14.obj (by simp; omega) h312
 have c014 : Chg [] w w14 := c012.trans c14 (fun i hi hlt => by simp at hi; omega)
 have s14 := c14.size
 have hn0 : 0 ≤ n ∧ n ≤ 65536 := by omega
 have h5len := h.n5
 refine ⟨fun s w' => ∃ (i : Nat) (q5 : Option Addr) (m5 k5 : Nat), s = (i : Int) ∧ (i : Int) ≤ n ∧ w'.heap[b1]? = some (.cells #[.int .i64 R.fr, .int .i64 R.se, .int .i64 R.most, .slice r20 r20n r20c, .slice q5 m5 k5] 64 (0, 0)) ∧ w'.heap[b2]? = some (.cells #[.int .i64 p1, .int .i64 p2] 25 (0, 0)) ∧
   w'.heap[b3]? = some (.cells #[.int .i64 0, .int .i64 0, .int .i64 0, .slice none 0 0, .slice none 0 0] 64 (0, 0)) ∧ RefAt w' { R with sets := keepS R.most R.sets set, pairs := refFill (p1, p2) set R.pairs i } r20 r20n r20c q5 m5 k5 ∧ Chg [] w w' ∧ w14.heap.size ≤ w'.heap.size ∧ (∀ j ∈ rowB q5, j ∈ rowB p5 ∨ w14.heap.size ≤ j),
  fun s _ => (n - s).toNat, ⟨0, p5, n5, c5, rfl, by omega, by simpa using h14', h214, h314, ⟨hrow14, (h.pairs.chg c012 (by simp)).chg c14 (fun i hi hm => by have := hlt5 i hi; simp at hm; omega)⟩, c014, Nat.le_refl _, fun i hi => .inl hi⟩, ?_⟩
 rintro _ w15 ⟨i, q5, m5, k5, rfl, hi, h115, h215, h315, hR15, c15, s15, hf15⟩
 refine ⟨fun hlt => ?_, fun hge => ?_⟩
 ·have hlt' : (i : Int) < n := by simpa using hlt
  refine ⟨_, _, _, _, _, _, _, _, _, cellsAt_of h115, p1, by rw [cell_of h215]; rfl, p2, by rw [cell_of h215]; rfl, ?_⟩
  rw [wr (n := p2 + i) (by omega) (by omega)]
  have hm5 : m5 ≤ 100000000 := by
   have h1 := hR15.n5
   have h2 := refFill_length (p1, p2) set R.pairs i
   simp only [] at h1
   omega
  refine (ref_put hR15 hm5 p1 (p2 + i) set).mono ?_
  rintro _ w16 ⟨r1, r2, r3, r4, r4n, r4c, r5, r5n, r5c, rfl, rfl, rfl, rfl, rfl, rfl, rfl, hR16, c16, hf16⟩
  have s16 := c16.size
  refine ⟨_, _, _, _, _, _, _, _, _, rfl, ?_⟩
  refine v_fill (c16.obj (by simp) h115) (by rfl) (by rfl) fun w17 h17 c17 _ => ?_
  rw [wr (by omega) (by omega)]
  have hb4 : ∀ j ∈ rowB r4, j ∉ [b1] := fun j hj hm => by
   simp at hm
   rcases hf10 j hj with h' | h'
   ·have := hlt4 j h'; omega
   ·omega
  refine ⟨⟨i + 1, r5, r5n, r5c, by omega, by omega, h17, c17.obj (by simp; omega) (c16.obj (by simp) h215), c17.obj (by simp; omega) (c16.obj (by simp) h315), hR16.chg c17 hb4 (fun j hj hm => by have := hf16 j hj; simp at hm; omega), (c15.trans0 c16).trans c17 (fun j hj hlt => by simp at hj; omega), by have := c17.size; omega, fun j hj => .inr (by have := hf16 j hj; omega)⟩, by simp only []; omega⟩
 ·have hge' : ¬ (i : Int) < n := by simpa using hge
  have hin : n.toNat = i := by omega
  refine ⟨_, _, _, _, _, _, _, _, _, cellsAt_of h115, ?_⟩
  refine v_fill h315 (by rfl) (by rfl) fun w18 h18 c18 _ => ?_
  have c018 : Chg [] w w18 := c15.trans c18 (fun j hj hlt => by simp at hj; omega)
  have hR : refMark R (p1, p2) n set = { R with sets := keepS R.most R.sets set, pairs := refFill (p1, p2) set R.pairs i } := by unfold refMark; rw [if_pos (by rw [hE]; exact hz'), hin]
  refine ⟨_, _, _, _, _, _, _, _, _, cellsAt_of h18, rfl, rfl, rfl, by rw [hE, hz'], ?_, c018, fun j hj => ?_⟩
  ·rw [hR]
   refine hR15.chg c18 (fun j hj hm => ?_) (fun j hj hm => ?_)
   ·simp at hm
    rcases hf10 j hj with h' | h'
    ·have := hlt4 j h'; omega
    ·omega
   ·simp at hm
    rcases hf15 j hj with h' | h'
    ·have := hlt5 j h'; omega
    ·omega
  ·simp only [List.mem_append] at hj ⊢
   rcases hj with hj | hj
   ·rcases hf10 j hj with h' | h'
    ·exact .inl (.inl h')
    ·right; have := c06.size; omega
   ·rcases hf15 j hj with h' | h'
    ·exact .inl (.inr h')
    ·right; omega
end Go.Proofs.YtfcfkhbkkfpehaaGreatDoor
end
section
/- The program's flow and the document's one, as values: what they say alike behind marks and touches. -/
namespace Go.Proofs.YtfcfkhbkkfpehaaGreatDoor
open Go Go.RowKit Go.X
def lookPr (l : List Pr) (q : Int × Int) : Int := (lookK q l).getD 0
def PutInv (p : Int × Int) (set : Int) (l : List Pr) (s : List Pr × Bool) : Prop :=
 (∀ q, q ≠ p → lookK q s.1 = lookK q l) ∧ (s.2 = true → lookK p s.1 = if set = 0 then none else some set) ∧ (s.2 = false → lookK p s.1 = none ∧ set ≠ 0)
theorem putInv_step {p : Int × Int} {set : Int} {l : List Pr} {s : List Pr × Bool} (h : PutInv p set l s) (x : Pr) : PutInv p set (l ++ [x]) (stepPut p set s x) := by
 obtain ⟨out, put⟩ := s
 obtain ⟨h1, h2, h3⟩ := h
 simp only [] at h1 h2 h3
 have hone : ∀ (q : Int × Int) (y : Pr), lookK q [y] = if y.1 = q then some y.2 else none := fun q y => by rw [lookK_cons, lookK_nil]
 unfold stepPut
 cases put with
 | true =>
  simp only [Bool.not_true, Bool.false_and, Bool.false_eq_true, if_false, Bool.true_eq_false, and_false]
  have h2' := h2 rfl
  by_cases hx : x.1 = p
  ·simp only [hx, if_true]
   refine ⟨fun q hq => ?_, fun _ => h2', fun h => by simp at h⟩
   rw [h1 q hq, lookK_append, hone, hx, if_neg (Ne.symm hq), Option.or_none]
  ·simp only [hx, if_false]
   refine ⟨fun q hq => ?_, fun _ => ?_, fun h => by simp at h⟩
   ·rw [lookK_append, lookK_append, h1 q hq]
   ·rw [lookK_append, h2', hone, if_neg hx, Option.or_none]
 | false =>
  obtain ⟨h3', hs⟩ := h3 rfl
  by_cases ha : aheadP p x.1
  ·have hx : x.1 ≠ p := fun e => by rw [e] at ha; unfold aheadP at ha; omega
   simp only [Bool.not_false, Bool.true_and, ha, decide_true, if_true, hx, if_false, Bool.true_eq_false, and_false, false_and]
   refine ⟨fun q hq => ?_, fun _ => ?_, fun h => by simp at h⟩
   ·rw [lookK_append, lookK_append, lookK_append, hone, hone, h1 q hq]
    simp only [Ne.symm hq, if_false, Option.or_none]
   ·rw [lookK_append, lookK_append, h3', hone, hone]
    simp [hs]
  ·simp only [Bool.not_false, Bool.true_and, ha, decide_false, Bool.false_eq_true, if_false]
   by_cases hx : x.1 = p
   ·simp only [hx, if_true, and_self]
    refine ⟨fun q hq => ?_, fun _ => ?_, fun h => by simp at h⟩
    ·rw [lookK_append, lookK_append, hone, hone, h1 q hq, hx]; simp [Ne.symm hq]
    ·rw [lookK_append, h3', hone]
     simp [hs]
   ·simp only [hx, if_false, false_and]
    refine ⟨fun q hq => ?_, fun h => by simp at h, fun _ => ⟨?_, hs⟩⟩
    ·rw [lookK_append, lookK_append, h1 q hq]
    ·rw [lookK_append, h3', hone, if_neg hx]; rfl
theorem putInv_fold (p : Int × Int) (set : Int) (l : List Pr) : PutInv p set l (foldPut p set l) := by
 have : ∀ (l l0 : List Pr) (s : List Pr × Bool), PutInv p set l0 s → PutInv p set (l0 ++ l) (l.foldl (stepPut p set) s) := by
  intro l
  induction l with
  | nil => intro l0 s h; simpa using h
  | cons x l ih =>
   intro l0 s h
   have := ih (l0 ++ [x]) _ (putInv_step h x)
   simpa using this
 have := this l [] ([], set == 0) ⟨fun q _ => rfl, fun h => by simp at h; simp [h, lookK_nil], fun h => by simp at h; exact ⟨rfl, h⟩⟩
 simpa [foldPut] using this
theorem look_refPut (p : Int × Int) (set : Int) (l : List Pr) (q : Int × Int) : lookPr (refPut p set l) q = if q = p then set else lookPr l q := by
 obtain ⟨h1, h2, h3⟩ := putInv_fold p set l
 unfold refPut lookPr
 simp only []
 by_cases hs : (foldPut p set l).2 = true
 ·rw [if_pos hs]
  by_cases hq : q = p
  ·subst hq
   rw [h2 hs, if_pos rfl]
   by_cases h0 : set = 0
   ·simp [h0]
   ·simp [h0]
  ·rw [h1 q hq, if_neg hq]
 ·rw [if_neg hs]
  have hs' : (foldPut p set l).2 = false := by simpa using hs
  rw [lookK_append, lookK_cons, lookK_nil]
  by_cases hq : q = p
  ·subst hq
   rw [(h3 hs').1]; simp
  ·rw [h1 q hq, if_neg (Ne.symm hq), if_neg hq, Option.or_none]
structure RelF (F : Fl) (R : Rf) : Prop where
 fr : R.fr = F.fr
 se : R.se = F.se
 most : R.most = F.most
 sets : R.sets = F.sets
 look : ∀ q, lookPr R.pairs q = F.g q
theorem RelF.new (fr se most : Int) : RelF (flowNew fr se most) ⟨fr, se, most, [0], []⟩ := ⟨rfl, rfl, rfl, rfl, fun _ => rfl⟩
theorem look_refFill (p : Int × Int) (set : Int) (l : List Pr) (g : Int × Int → Int) (hg : ∀ q, lookPr l q = g q) (n : Nat) (q : Int × Int) : lookPr (refFill p set l n) q = fillP g p set n q := by
 induction n generalizing q with
 | zero => exact hg q
 | succ n ih =>
  simp only [refFill, fillP, putP]
  rw [look_refPut, ih]
theorem RelF.markE {F : Fl} {R : Rf} (h : RelF F R) (p : Int × Int) (n set : Int) : refMarkE R p n set = markE F p n set := by
 unfold refMarkE Proofs.YtfcfkhbkkfpehaaGreatDoor.markE
 rw [h.fr, h.se, h.most, h.sets]
theorem RelF.mark {F : Fl} {R : Rf} (h : RelF F R) (p : Int × Int) (n set : Int) : RelF (markF F p n set) (refMark R p n set) := by
 unfold markF refMark
 rw [h.markE]
 by_cases he : Proofs.YtfcfkhbkkfpehaaGreatDoor.markE F p n set = 0
 ·rw [if_pos he, if_pos he]
  refine ⟨h.fr, h.se, h.most, ?_, fun q => ?_⟩
  ·simp only [h.most, h.sets]
  ·exact look_refFill p set R.pairs F.g h.look _ q
 ·rw [if_neg he, if_neg he]; exact h
/-! ### Touches applied -/
def keepStep (most : Int) (g : Int × Int → Int) (s : List Int × List Pr × Int) (t : Tch) : List Int × List Pr × Int :=
 if s.2.2 ≠ 0 ∨ t.1 = (0, 0) then s else
  if keepE most s.1 (joinP g t.2) ≠ 0 then (s.1, s.2.1, keepE most s.1 (joinP g t.2)) else (keepS most s.1 (joinP g t.2), upd t.1 (joinP g t.2) s.2.1, 0)
def keepAll (most : Int) (g : Int × Int → Int) (ts : List Tch) (sets : List Int) : List Int × List Pr × Int := ts.foldl (keepStep most g) (sets, [], 0)
theorem keepAll_snoc (most : Int) (g : Int × Int → Int) (ts : List Tch) (sets : List Int) (t : Tch) : keepAll most g (ts ++ [t]) sets = keepStep most g (keepAll most g ts sets) t := by simp [keepAll]
theorem keepAll_bad {most : Int} {g : Int × Int → Int} {ts us : List Tch} {sets : List Int} (h : (keepAll most g ts sets).2.2 ≠ 0) : keepAll most g (ts ++ us) sets = keepAll most g ts sets := by
 have : ∀ (us : List Tch) (s : List Int × List Pr × Int), s.2.2 ≠ 0 → us.foldl (keepStep most g) s = s := by
  intro us
  induction us with
  | nil => intro s _; rfl
  | cons u us ih =>
   intro s hs
   have e : keepStep most g s u = s := by unfold keepStep; rw [if_pos (.inl hs)]
   rw [List.foldl_cons, e]; exact ih s hs
 unfold keepAll at h ⊢
 rw [List.foldl_append]; exact this us _ h
def rightAll (fr se : Int) (ts : List Tch) : Prop := ∀ t ∈ ts, rightT fr se t
instance (fr se : Int) (ts : List Tch) : Decidable (rightAll fr se ts) := by unfold rightAll; exact inferInstance
def overP (g : Int × Int → Int) (now : List Pr) : Int × Int → Int := fun q => (lookK q now).getD (g q)
def applyF (F : Fl) (ts : List Tch) : Fl :=
 if rightAll F.fr F.se ts then { F with sets := (keepAll F.most F.g ts F.sets).1, g := if (keepAll F.most F.g ts F.sets).2.2 = 0 then overP F.g (keepAll F.most F.g ts F.sets).2.1 else F.g } else F
theorem overP_nil (g : Int × Int → Int) : overP g [] = g := by funext q; simp [overP, lookK_nil]
theorem overP_upd (g : Int × Int → Int) (now : List Pr) (p : Int × Int) (set : Int) : overP g (upd p set now) = putP (overP g now) p set := by
 funext q
 unfold overP putP
 rw [lookK_upd]
 by_cases h : q = p <;> simp [h]
def putStep (g : Int × Int → Int) (l : List Pr) (t : Tch) : List Pr := if t.1 = (0, 0) then l else refPut t.1 (joinP g t.2) l
def putAll (g : Int × Int → Int) (ts : List Tch) (l : List Pr) : List Pr := ts.foldl (putStep g) l
def refApply (R : Rf) (ts : List Tch) : Rf :=
 if rightAll R.fr R.se ts then { R with sets := (keepAll R.most (lookPr R.pairs) ts R.sets).1, pairs := if (keepAll R.most (lookPr R.pairs) ts R.sets).2.2 = 0 then putAll (lookPr R.pairs) ts R.pairs else R.pairs } else R
theorem look_putAll (most : Int) (g : Int × Int → Int) (ts : List Tch) (sets : List Int) (l : List Pr) (hl : ∀ q, lookPr l q = g q) (h0 : (keepAll most g ts sets).2.2 = 0) (q : Int × Int) :
  lookPr (putAll g ts l) q = overP g (keepAll most g ts sets).2.1 q := by
 have : ∀ (ts us : List Tch) (l : List Pr), (keepAll most g (us ++ ts) sets).2.2 = 0 → (∀ q, lookPr l q = overP g (keepAll most g us sets).2.1 q) →
   ∀ q, lookPr (ts.foldl (putStep g) l) q = overP g (keepAll most g (us ++ ts) sets).2.1 q := by
  intro ts
  induction ts with
  | nil => intro us l h0 hl q; simpa using hl q
  | cons t ts ih =>
   intro us l h0 hl q
   have e : us ++ t :: ts = (us ++ [t]) ++ ts := by simp
   rw [e] at h0 ⊢
   have h1 : (keepAll most g (us ++ [t]) sets).2.2 = 0 := by
    by_cases hb : (keepAll most g (us ++ [t]) sets).2.2 = 0
    ·exact hb
    ·exfalso; rw [keepAll_bad hb] at h0; exact hb h0
   have h2 : (keepAll most g us sets).2.2 = 0 := by
    by_cases hb : (keepAll most g us sets).2.2 = 0
    ·exact hb
    ·exfalso; rw [keepAll_bad hb] at h1; exact hb h1
   rw [List.foldl_cons]
   refine ih (us ++ [t]) _ h0 (fun q => ?_) q
   rw [keepAll_snoc]
   rw [keepAll_snoc] at h1
   unfold keepStep at h1 ⊢
   unfold putStep
   by_cases ht : t.1 = (0, 0)
   ·rw [if_pos ht, if_pos (.inr ht)]; exact hl q
   ·have hn : ¬ ((keepAll most g us sets).2.2 ≠ 0 ∨ t.1 = (0, 0)) := by rintro (h | h); exact h h2; exact ht h
    rw [if_neg hn] at h1 ⊢
    rw [if_neg ht]
    by_cases hk : keepE most (keepAll most g us sets).1 (joinP g t.2) ≠ 0
    ·rw [if_pos hk] at h1; exact absurd h1 hk
    ·rw [if_neg hk]
     simp only []
     rw [overP_upd, look_refPut]
     unfold putP
     rw [hl q]
 exact this ts [] l h0 (fun q => by rw [show (keepAll most g [] sets).2.1 = [] from rfl, overP_nil]; exact hl q) q
theorem RelF.g {F : Fl} {R : Rf} (h : RelF F R) : lookPr R.pairs = F.g := funext h.look
theorem RelF.apply {F : Fl} {R : Rf} (h : RelF F R) (ts : List Tch) : RelF (applyF F ts) (refApply R ts) := by
 unfold applyF refApply
 rw [h.fr, h.se, h.most, h.sets, h.g]
 by_cases hr : rightAll F.fr F.se ts
 ·rw [if_pos hr, if_pos hr]
  refine ⟨rfl, rfl, rfl, rfl, fun q => ?_⟩
  simp only []
  by_cases h0 : (keepAll F.most F.g ts F.sets).2.2 = 0
  ·rw [if_pos h0, if_pos h0]
   exact look_putAll F.most F.g ts F.sets R.pairs h.look h0 q
  ·rw [if_neg h0, if_neg h0]; exact h.look q
 ·rw [if_neg hr, if_neg hr]; exact h
end Go.Proofs.YtfcfkhbkkfpehaaGreatDoor
end
section
/- Arguments that came in, opened: slices of structs as lists. -/
namespace Go.X
open Go Go.RowKit Go.ChangeShapes Go.WideShapes
theorem list_of {α : Type} {n : Nat} {Q : Nat → α → Prop} (h : ∀ i, i < n → ∃ x, Q i x) : ∃ l : List α, l.length = n ∧ ∀ (i : Nat) (x : α), l[i]? = some x → Q i x := by
 induction n with
 | zero => exact ⟨[], rfl, by simp⟩
 | succ n ih =>
  obtain ⟨l, hl, hq⟩ := ih (fun i hi => h i (by omega))
  obtain ⟨x, hx⟩ := h n (by omega)
  refine ⟨l ++ [x], by simp [hl], fun i y hy => ?_⟩
  by_cases hi : i < l.length
  ·rw [List.getElem?_append_left hi] at hy; exact hq i y hy
  ·rw [List.getElem?_append_right (by omega)] at hy
   have hi' : i - l.length = 0 := by
    have := (List.getElem?_eq_some_iff.1 hy).1
    simp at this; omega
   rw [hi'] at hy; simp at hy; subst hy
   have : i = n := by omega
   rw [this]; exact hx
section
variable {H : Type} {enc : TypeId × Value → H} {P : Program} {w : World} {base : Nat} {spare : Nat → Bool} {held : Bool}
theorem cellsAt_cells? {a : Addr} {n : Nat} {cs : List Value} (h : w.cells? base a n = some cs) : CellsAt w a 0 cs ∧ cs.length = n := by
 obtain ⟨_, h2, h3⟩ := World.cells?_some h
 refine ⟨?_, h2⟩
 have : ∀ (l : List Value) (i : Nat), (∀ k v, l[k]? = some v → w.cell? (a.add (i + k)) = some v) → CellsAt w a i l := by
  intro l
  induction l with
  | nil => intro i _; trivial
  | cons v l ih => intro i h; exact ⟨by simpa using h 0 v rfl, ih (i + 1) (fun k u hu => by rw [show i + 1 + k = i + (k + 1) by omega]; exact h (k + 1) u (by simpa using hu))⟩
 refine this cs 0 fun k v hk => ?_
 have hlt : k < n := by rw [← h2]; exact (List.getElem?_eq_some_iff.1 hk).1
 rw [Nat.zero_add, h3 k hlt, hk]
theorem open_slice {t e : TypeId} {fuel : Nat} {cs : List Value} {x : DataW H × List MemPlace} (ht : P.underlying t = some (.slice e)) (h : DataW.trod enc P w base spare held fuel t cs = some x) :
  ∃ (p : Option Addr) (len cap : Nat), cs = [.slice p len cap] ∧ len ≤ maxLen ∧ ∀ i, i < len → ∃ (a : Addr) (cs' : List Value) (n : Nat) (y : DataW H × List MemPlace), p = some a ∧ CellsAt w (a.add (i * P.cellsOf e)) 0 cs' ∧ cs'.length = P.cellsOf e ∧ DataW.trod enc P w base spare held n e cs' = some y := by
 rcases DataW.trod_slice ht h with ⟨h0, _⟩ | ⟨a, len, cap, elems, rest, n, _, rfl, rfl, hb, hl, hm, hlen, hel, _, _⟩
 ·exact ⟨none, 0, 0, h0, by simp [maxLen], fun i hi => absurd hi (by omega)⟩
 ·refine ⟨some a, len, cap, rfl, by omega, fun i hi => ?_⟩
  have h1 := hel i hi
  rw [List.getElem?_eq_getElem (by omega)] at h1
  obtain ⟨cs', hcs, hy⟩ := Option.bind_eq_some_iff.1 h1
  obtain ⟨k1, k2⟩ := cellsAt_cells? hcs
  exact ⟨a, cs', n, _, rfl, k1, k2, hy⟩
theorem wf_i64 {n : Int} (h : (Lit.int .i64 n).wf = true) : -9223372036854775808 ≤ n ∧ n ≤ 9223372036854775807 := by
 simp [Lit.wf, IntKind.min, IntKind.max, IntKind.bits, IntKind.signed] at h
 omega
theorem wf_u32 {n : Int} (h : (Lit.int .u32 n).wf = true) : 0 ≤ n ∧ n < 4294967296 := by
 simp [Lit.wf, IntKind.min, IntKind.max, IntKind.bits, IntKind.signed] at h
 omega
theorem all_below (hl : laidOutB P = true) {W W' : World} (hb : Below W.heap.size W W') : ∀ (ts : List TypeId) (vs : List Value) (ds : List (DataW H)) (ps : List MemPlace), (∀ t ∈ ts, P.readableRec t = true ∧ t < P.types.size) →
  DataW.TrodAll enc P W 0 (fun _ => true) true ts vs ds ps → (∀ x ∈ ps, x.block < W.heap.size) → DataW.TrodAll enc P W' 0 (fun b => decide (b < W.heap.size)) true ts vs ds ps
 | [], [], [], ps, _, h, _ => h
 | t :: ts, v :: vs, d :: ds, ps, ht, h, hlt => by
  obtain ⟨p, q, h1, h2, rfl⟩ := h
  exact ⟨p, q, Below.trod hl (ht t (.head _)).1 (ht t (.head _)).2 h1 hb (fun x hx => hlt x (List.mem_append.2 (.inl hx))), all_below hl hb ts vs ds q (fun t h => ht t (.tail _ h)) h2 (fun x hx => hlt x (List.mem_append.2 (.inr hx))), rfl⟩
 | [], [], _ :: _, _, _, h, _ => h.elim
 | [], _ :: _, _, _, _, h, _ => h.elim
 | _ :: _, [], _, _, _, h, _ => h.elim
 | _ :: _, _ :: _, [], _, _, h, _ => h.elim
end
end Go.X
end
section
/- Arguments that came in, opened: places, touches, marks. -/
namespace Go.Proofs.YtfcfkhbkkfpehaaGreatDoor
open Go Go.RowKit Go.X
theorem len1 {α : Type} {l : List α} (h : l.length = 1) : ∃ a, l = [a] := by
 cases l with
 | nil => simp at h
 | cons a l => exact ⟨a, by rw [List.eq_nil_of_length_eq_zero (l := l) (by simpa using h)]⟩
theorem len2 {α : Type} {l : List α} (h : l.length = 2) : ∃ a b, l = [a, b] := by
 cases l with
 | nil => simp at h
 | cons a l => obtain ⟨b, rfl⟩ := len1 (l := l) (by simpa using h); exact ⟨a, b, rfl⟩
theorem len3 {α : Type} {l : List α} (h : l.length = 3) : ∃ a b c, l = [a, b, c] := by
 cases l with
 | nil => simp at h
 | cons a l => obtain ⟨b, c, rfl⟩ := len2 (l := l) (by simpa using h); exact ⟨a, b, c, rfl⟩
section
variable {H : Type} {enc : TypeId × Value → H} {w : World} {base : Nat} {spare : Nat → Bool} {held : Bool} {fuel : Nat} {x : DataW H × List MemPlace} {cs : List Value}
theorem cells56 : Tryz.prog.cellsOf 25 = 2 := by kernel_rfl
theorem cells3 : Tryz.prog.cellsOf 3 = 1 := by kernel_rfl
theorem cells54 : Tryz.prog.cellsOf 23 = 1 := by kernel_rfl
theorem cells22 : Tryz.prog.cellsOf 43 = 1 := by kernel_rfl
theorem un54 : Tryz.prog.underlying 23 = some (.int .i64) := by kernel_rfl
theorem un3 : Tryz.prog.underlying 3 = some (.int .i64) := by kernel_rfl
theorem un22 : Tryz.prog.underlying 43 = some (.int .u32) := by kernel_rfl
theorem open_place (h : DataW.trod enc Tryz.prog w base spare held fuel 25 cs = some x) : ∃ p : Int × Int, cs = [.int .i64 p.1, .int .i64 p.2] ∧ i64s p.1 ∧ i64s p.2 := by
 obtain ⟨xs, n, _, _, hl, hlen, hf⟩ := DataW.trod_struct Tryz.underlying25 h
 have h0 : DataW.trod enc Tryz.prog w base spare held n 23 ((cs.drop 0).take (Tryz.prog.cellsOf 23)) = xs[0]? := hf 0 _ rfl
 have h1 : DataW.trod enc Tryz.prog w base spare held n 3 ((cs.drop 1).take (Tryz.prog.cellsOf 3)) = xs[1]? := hf 1 _ rfl
 simp only [cells54, cells3] at h0 h1
 rw [cells56] at hl
 rw [List.getElem?_eq_getElem (by rw [hlen]; decide)] at h0 h1
 obtain ⟨a, e0, _, w0⟩ := DataW.trod_int un54 h0
 obtain ⟨b, e1, _, w1⟩ := DataW.trod_int un3 h1
 obtain ⟨c0, c1, rfl⟩ := len2 hl
 simp at e0 e1
 subst e0 e1
 exact ⟨(a, b), rfl, wf_i64 w0, wf_i64 w1⟩
def oldS (w : World) (i : Nat) : Prop := i < w.heap.size
theorem cellsAt_lt {a : Addr} {i : Nat} {c : Value} {cs : List Value} (h : CellsAt w a i (c :: cs)) : a.block < w.heap.size := by
 have := World.block_lt_of_cell? w _ h.1
 rwa [add_block] at this
theorem open_places (h : DataW.trod enc Tryz.prog w base spare held fuel 34 cs = some x) : ∃ p n c ps, cs = [.slice p n c] ∧ n ≤ maxLen ∧ PlacesAt w (oldS w) p n ps := by
 obtain ⟨p, n, c, rfl, hn, hel⟩ := open_slice Tryz.underlying34 h
 obtain ⟨l, hl, hq⟩ := list_of (Q := fun j (x : Int × Int) => i64s x.1 ∧ i64s x.2 ∧ ∃ a, p = some a ∧ oldS w a.block ∧ CellsAt w (a.add (j * 2)) 0 [.int .i64 x.1, .int .i64 x.2]) (n := n) (fun i hi => by
  obtain ⟨a, cs', m, y, ha, hc, _, hy⟩ := hel i hi
  obtain ⟨q, rfl, k1, k2⟩ := open_place hy
  rw [cells56] at hc
  exact ⟨q, k1, k2, a, ha, by have := cellsAt_lt hc; rwa [add_block] at this, hc⟩)
 exact ⟨p, n, c, l, rfl, hn, hl, hq⟩
structure MarksAt (w : World) (S : Nat → Prop) (p : Option Addr) (n : Nat) (ms : List Pr) : Prop where
 length : ms.length = n
 each : ∀ (j : Nat) (x : Pr), ms[j]? = some x → i64s x.1.2 ∧ 0 ≤ x.2 ∧ x.2 < 4294967296 ∧ ∃ a, p = some a ∧ S a.block ∧ CellsAt w (a.add (j * 3)) 0 [.int .i64 x.1.1, .int .i64 x.1.2, .int .u32 x.2]
theorem MarksAt.chg {w w' : World} {S : Nat → Prop} {p : Option Addr} {n : Nat} {ps : List Pr} {f : List Nat} (h : MarksAt w S p n ps) (hc : Chg f w w') (hf : ∀ i ∈ f, ¬ S i) : MarksAt w' S p n ps :=
 ⟨h.length, fun j x hx => let ⟨h1, h2, h3, a, h4, h5, h6⟩ := h.each j x hx; ⟨h1, h2, h3, a, h4, h5, hc.cells (by rw [add_block]; exact fun hm => hf _ hm h5) h6⟩⟩
end
end Go.Proofs.YtfcfkhbkkfpehaaGreatDoor
end
section
/- Policies: New, none, Strict, Stops; the laws' helpers known, broad, made. -/
namespace Go.Proofs.YtfcfkhbkkfpehaaGreatDoor
open Go Go.RowKit Go.X
end Go.Proofs.YtfcfkhbkkfpehaaGreatDoor
end
section
namespace Go.Proofs.YtfcfkhbkkfpehaaGreatDoor
open Go Go.X
end Go.Proofs.YtfcfkhbkkfpehaaGreatDoor
end
section
/- Flows: Apply. -/
namespace Go.Proofs.YtfcfkhbkkfpehaaGreatDoor
open Go Go.RowKit Go.X
end Go.Proofs.YtfcfkhbkkfpehaaGreatDoor
end
section
/- The laws' helpers: broad, made. -/
namespace Go.Proofs.YtfcfkhbkkfpehaaGreatDoor
open Go Go.RowKit Go.X
def broadP (m : Nat) (ts : List Tch) : Prop := 30 < m ∨ 20 < ts.length ∨ ∃ t ∈ ts, 20 < t.2.length
instance (m : Nat) (ts : List Tch) : Decidable (broadP m ts) := by unfold broadP; exact inferInstance
def madeF (ms : List Pr) : Fl := ms.foldl (fun F m => markF F m.1 1 m.2) (flowNew 2 2 65536)
def madeR (ms : List Pr) : Rf := ms.foldl (fun R m => refMark R m.1 1 m.2) ⟨2, 2, 65536, [0], []⟩
theorem madeF_snoc (ms : List Pr) (m : Pr) : madeF (ms ++ [m]) = markF (madeF ms) m.1 1 m.2 := by simp [madeF]
theorem madeR_snoc (ms : List Pr) (m : Pr) : madeR (ms ++ [m]) = refMark (madeR ms) m.1 1 m.2 := by simp [madeR]
theorem refMark_shape (R : Rf) (p : Int × Int) (n set : Int) : (refMark R p n set).fr = R.fr ∧ (refMark R p n set).se = R.se ∧ (refMark R p n set).most = R.most := by
 unfold refMark; split <;> exact ⟨rfl, rfl, rfl⟩
theorem refMark_len (R : Rf) (p : Int × Int) (n set : Int) : (refMark R p n set).pairs.length ≤ R.pairs.length + n.toNat ∧ (refMark R p n set).sets.length ≤ R.sets.length + 1 := by
 unfold refMark
 split
 ·refine ⟨refFill_length _ _ _ _, ?_⟩
  simp only [keepS]; split <;> simp
 ·exact ⟨by omega, by omega⟩
theorem keepS_ne {most : Int} {sets : List Int} (h : sets ≠ []) (set : Int) : keepS most sets set ≠ [] := by
 unfold keepS; split
 ·exact h
 ·simp
theorem refMark_ne {R : Rf} (h : R.sets ≠ []) (p : Int × Int) (n set : Int) : (refMark R p n set).sets ≠ [] := by
 unfold refMark; split
 ·exact keepS_ne h set
 ·exact h
theorem madeR_ok (ms : List Pr) : (madeR ms).fr = 2 ∧ (madeR ms).se = 2 ∧ (madeR ms).most = 65536 ∧ (madeR ms).pairs.length ≤ ms.length ∧ (madeR ms).sets.length ≤ ms.length + 1 ∧ (madeR ms).sets ≠ [] := by
 unfold madeR
 have : ∀ (ms : List Pr) (R : Rf), R.fr = 2 → R.se = 2 → R.most = 65536 → R.sets ≠ [] → (ms.foldl (fun R m => refMark R m.1 1 m.2) R).fr = 2 ∧ (ms.foldl (fun R m => refMark R m.1 1 m.2) R).se = 2 ∧ (ms.foldl (fun R m => refMark R m.1 1 m.2) R).most = 65536 ∧ (ms.foldl (fun R m => refMark R m.1 1 m.2) R).pairs.length ≤ R.pairs.length + ms.length ∧ (ms.foldl (fun R m => refMark R m.1 1 m.2) R).sets.length ≤ R.sets.length + ms.length ∧ (ms.foldl (fun R m => refMark R m.1 1 m.2) R).sets ≠ [] := by
  intro ms
  induction ms with
  | nil => intro R h1 h2 h3 h4; exact ⟨h1, h2, h3, by simp, by simp, h4⟩
  | cons m ms ih =>
   intro R h1 h2 h3 h4
   simp only [List.foldl_cons, List.length_cons]
   obtain ⟨a, b, c⟩ := refMark_shape R m.1 1 m.2
   obtain ⟨k1, k2⟩ := refMark_len R m.1 1 m.2
   have := ih (refMark R m.1 1 m.2) (by rw [a, h1]) (by rw [b, h2]) (by rw [c, h3]) (refMark_ne h4 _ _ _)
   have e1 : (1 : Int).toNat = 1 := rfl
   rw [e1] at k1
   exact ⟨this.1, this.2.1, this.2.2.1, by omega, by omega, this.2.2.2.2.2⟩
 have := this ms ⟨2, 2, 65536, [0], []⟩ rfl rfl rfl (by simp)
 simp only [List.length_nil, List.length_cons] at this
 exact ⟨this.1, this.2.1, this.2.2.1, by omega, by omega, this.2.2.2.2.2⟩
end Go.Proofs.YtfcfkhbkkfpehaaGreatDoor
end
section
/- Acts on flows: what they are, what they do; the laws' helpers vast, broad, known, does. -/
namespace Go.Proofs.YtfcfkhbkkfpehaaGreatDoor
open Go Go.RowKit Go.X
structure ActV where
 kind : Int
 n : Int
 p : Int × Int
 set : Int
 ts : List Tch
def stepF (F : Fl) (a : ActV) : Fl := if a.kind = 1 then markF F a.p a.n a.set else applyF F a.ts
def stepR (R : Rf) (a : ActV) : Rf := if a.kind = 1 then refMark R a.p a.n a.set else refApply R a.ts
theorem RelF.step {F : Fl} {R : Rf} (h : RelF F R) (a : ActV) : RelF (stepF F a) (stepR R a) := by
 unfold stepF stepR
 split
 ·exact h.mark _ _ _
 ·exact h.apply _
structure ActAt (w : World) (S : Nat → Prop) (q : Option Addr) (qn qc : Nat) (a : ActV) : Prop where
 p : i64s a.p.1 ∧ i64s a.p.2
 set : 0 ≤ a.set ∧ a.set < 4294967296
 n : i64s a.n
 ts : TouchesAt w S q qn a.ts
 qn : qn ≤ maxLen
 inner : ∀ t ∈ a.ts, t.2.length ≤ maxLen
structure ActsAt (w : World) (S : Nat → Prop) (p : Option Addr) (n : Nat) (acts : List ActV) : Prop where
 length : acts.length = n
 each : ∀ (j : Nat) (a : ActV), acts[j]? = some a → ∃ b q qn qc, p = some b ∧ S b.block ∧ CellsAt w (b.add (j * 6)) 0 [.int .i64 a.kind, .int .i64 a.n, .int .i64 a.p.1, .int .i64 a.p.2, .int .u32 a.set, .slice q qn qc] ∧ ActAt w S q qn qc a
theorem ActAt.chg {w w' : World} {S : Nat → Prop} {q : Option Addr} {qn qc : Nat} {a : ActV} {f : List Nat} (h : ActAt w S q qn qc a) (hc : Chg f w w') (hf : ∀ i ∈ f, ¬ S i) : ActAt w' S q qn qc a :=
 { h with ts := h.ts.chg hc hf }
theorem ActsAt.chg {w w' : World} {S : Nat → Prop} {p : Option Addr} {n : Nat} {acts : List ActV} {f : List Nat} (h : ActsAt w S p n acts) (hc : Chg f w w') (hf : ∀ i ∈ f, ¬ S i) : ActsAt w' S p n acts :=
 ⟨h.length, fun j a hj => let ⟨b, q, qn, qc, h1, h2, h3, h4⟩ := h.each j a hj; ⟨b, q, qn, qc, h1, h2, hc.cells (by rw [add_block]; exact fun hm => hf _ hm h2) h3, h4.chg hc hf⟩⟩
def broadT (ts : List Tch) : Prop := 20 < ts.length ∨ ∃ t ∈ ts, 20 < t.2.length
instance (ts : List Tch) : Decidable (broadT ts) := by unfold broadT; exact inferInstance
def vastA (acts : List ActV) : Prop := 30 < acts.length ∨ ∃ a ∈ acts, (200 < a.n ∧ a.n ≤ 65536) ∨ broadT a.ts
instance (acts : List ActV) : Decidable (vastA acts) := by unfold vastA; exact inferInstance
end Go.Proofs.YtfcfkhbkkfpehaaGreatDoor
end
section
/- The document's sets: Bit, Join. -/
namespace Go.Proofs.YtfcfkhbkkfpehaaGreatDoor
open Go Go.RowKit Go.X
end Go.Proofs.YtfcfkhbkkfpehaaGreatDoor
end
section
/- The document's flows: Get, together, MayAll, Decides, Apply. -/
namespace Go.Proofs.YtfcfkhbkkfpehaaGreatDoor
open Go Go.RowKit Go.X
theorem CellsAt.two {w : World} {q : Addr} {a b c : Value} (h : CellsAt w q 0 [a, b, c]) : CellsAt w q 0 [a, b] := ⟨h.1, h.2.1, trivial⟩
end Go.Proofs.YtfcfkhbkkfpehaaGreatDoor
end
section
/- The document's flows: Apply. -/
namespace Go.Proofs.YtfcfkhbkkfpehaaGreatDoor
open Go Go.RowKit Go.X
end Go.Proofs.YtfcfkhbkkfpehaaGreatDoor
end
section
namespace Go.Proofs.YtfcfkhbkkfpehaaGreatDoor
open Go Go.X
end Go.Proofs.YtfcfkhbkkfpehaaGreatDoor
end
section
/- What one act answers, on both flows. -/
namespace Go.Proofs.YtfcfkhbkkfpehaaGreatDoor
open Go Go.RowKit Go.X
theorem FlowAt.out {w : World} {b : Nat} {F : Fl} {fp : List Nat} (h : FlowAt w b F fp) (p : Int × Int) (hm : ¬ mayP F.fr F.se p) : F.g p = 0 := by
 obtain ⟨T, m, d, r, l, fpT, fpm, fpd, gm, gd, h1, h2, h3, h4, h5, h6, h7, h8, h9, _⟩ := h.there
 obtain ⟨k, n⟩ := p
 unfold mayP boundP at hm
 simp only [] at hm
 by_cases e1 : k = 10
 ·subst e1; rw [h6]; exact h3.out (by simp at hm; omega)
 by_cases e2 : k = 12
 ·subst e2; rw [h7]; exact h4.out (by simp at hm; omega)
 rw [h8 _ e1 e2]
 cases hk : lookK (k, n) l with
 | none => rfl
 | some v =>
  have := (h9 _ (lookK_mem hk)).2.2.1
  unfold mayP boundP at this
  simp only [] at this
  exact absurd this hm
end Go.Proofs.YtfcfkhbkkfpehaaGreatDoor
end
section
/- The document's pairs: rising, none empty, all of places that may be; two such lists that say the same are the same. -/
namespace Go.Proofs.YtfcfkhbkkfpehaaGreatDoor
open Go Go.RowKit Go.X
theorem ahead_trans {a b c : Int × Int} (h : aheadP a b) (k : aheadP b c) : aheadP a c := by unfold aheadP at *; omega
theorem ahead_irrefl (a : Int × Int) : ¬ aheadP a a := by unfold aheadP; omega
theorem ahead_tri {a b : Int × Int} (h : ¬ aheadP a b) (k : b ≠ a) : aheadP b a := by
 unfold aheadP at *
 by_cases e : a.1 = b.1
 ·by_cases e2 : a.2 = b.2
  ·exact absurd (Prod.ext e.symm e2.symm) k
  ·omega
 ·omega
theorem eq_of_rising : ∀ {l m : List (Int × Int)}, l.Pairwise aheadP → m.Pairwise aheadP → (∀ p, p ∈ l ↔ p ∈ m) → l = m
 | [], [], _, _, _ => rfl
 | [], b :: m, _, _, h => by have := (h b).2 (by simp); simp at this
 | a :: l, [], _, _, h => by have := (h a).1 (by simp); simp at this
 | a :: l, b :: m, hl, hm, h => by
  rw [List.pairwise_cons] at hl hm
  have hab : a = b := by
   by_cases e : a = b
   ·exact e
   ·exfalso
    have h1 : a ∈ m := by have := (h a).1 (by simp); simp [e] at this; exact this
    have h2 : b ∈ l := by have := (h b).2 (by simp); simp [Ne.symm e] at this; exact this
    exact ahead_irrefl _ (ahead_trans (hl.1 b h2) (hm.1 a h1))
  subst hab
  rw [eq_of_rising hl.2 hm.2 fun p => ?_]
  constructor
  ·intro hp
   rcases List.mem_cons.1 ((h p).1 (by simp [hp])) with e | e
   ·subst e; exact absurd (hl.1 _ hp) (ahead_irrefl _)
   ·exact e
  ·intro hp
   rcases List.mem_cons.1 ((h p).2 (by simp [hp])) with e | e
   ·subst e; exact absurd (hm.1 _ hp) (ahead_irrefl _)
   ·exact e
structure Good (fr se : Int) (l : List Pr) : Prop where
 rise : (l.map Prod.fst).Pairwise aheadP
 each : ∀ x ∈ l, x.2 ≠ 0 ∧ mayP fr se x.1
theorem Good.nil (fr se : Int) : Good fr se [] := ⟨by simp, by simp⟩
structure PutG (p : Int × Int) (set : Int) (l : List Pr) (s : List Pr × Bool) : Prop where
 rise : (s.1.map Prod.fst).Pairwise aheadP
 keys : ∀ x ∈ s.1, x ∈ l ∨ (x = (p, set) ∧ set ≠ 0 ∧ ∃ y ∈ l, p = y.1 ∨ aheadP p y.1)
 off : s.2 = false → set ≠ 0 ∧ (∀ y ∈ l, aheadP y.1 p) ∧ ∀ x ∈ s.1, aheadP x.1 p
theorem rise_snoc {l : List Pr} {x : Pr} (h : (l.map Prod.fst).Pairwise aheadP) (hx : ∀ y ∈ l, aheadP y.1 x.1) : ((l ++ [x]).map Prod.fst).Pairwise aheadP := by
 rw [List.map_append, List.pairwise_append]
 refine ⟨h, by simp, fun a ha b hb => ?_⟩
 obtain ⟨y, hy, rfl⟩ := List.mem_map.1 ha
 simp at hb; subst hb
 exact hx y hy
theorem putG_step {p : Int × Int} {set : Int} {l : List Pr} {s : List Pr × Bool} (h : PutG p set l s) {x : Pr} (hx : ∀ y ∈ l, aheadP y.1 x.1) : PutG p set (l ++ [x]) (stepPut p set s x) := by
 have hs : ∀ y ∈ s.1, aheadP y.1 x.1 := fun y hy => by
  rcases h.keys y hy with k | ⟨rfl, _, z, hz, k⟩
  ·exact hx y k
  ·rcases k with k | k
   ·simp only []; rw [k]; exact hx z hz
   ·exact ahead_trans k (hx z hz)
 have up : ∀ y ∈ s.1, y ∈ l ++ [x] ∨ (y = (p, set) ∧ set ≠ 0 ∧ ∃ z ∈ l ++ [x], p = z.1 ∨ aheadP p z.1) := fun y hy => by
  rcases h.keys y hy with k | ⟨k1, k0, z, hz, k2⟩
  ·exact .inl (by simp [k])
  ·exact .inr ⟨k1, k0, z, by simp [hz], k2⟩
 unfold stepPut
 cases hf : s.2 with
 | true =>
  simp only [Bool.not_true, Bool.false_and, Bool.false_eq_true, if_false, hf, and_false, reduceCtorEq]
  by_cases hxp : x.1 = p
  ·rw [if_pos hxp]
   exact ⟨h.rise, up, fun h => by cases h⟩
  ·rw [if_neg hxp]
   refine ⟨rise_snoc h.rise hs, fun y hy => ?_, fun h => by cases h⟩
   rcases List.mem_append.1 hy with hy | hy
   ·exact up y hy
   ·exact .inl (by simp at hy; simp [hy])
 | false =>
  obtain ⟨h0, h1, h2⟩ := h.off hf
  by_cases ha : aheadP p x.1
  ·have hxp : x.1 ≠ p := fun e => ahead_irrefl p (by rw [e] at ha; exact ha)
   simp only [Bool.not_false, Bool.true_and, ha, decide_true, if_true, hxp, if_false, false_and]
   refine ⟨rise_snoc (rise_snoc h.rise h2) fun y hy => ?_, fun y hy => ?_, fun h => by cases h⟩
   ·rcases List.mem_append.1 hy with hy | hy
    ·exact hs y hy
    ·simp at hy; subst hy; exact ha
   ·rcases List.mem_append.1 hy with hy | hy
    ·rcases List.mem_append.1 hy with hy | hy
     ·exact up y hy
     ·simp at hy; exact .inr ⟨hy, h0, x, by simp, .inr ha⟩
    ·exact .inl (by simp at hy; simp [hy])
  ·simp only [Bool.not_false, Bool.true_and, ha, decide_false, Bool.false_eq_true, if_false, hf, and_true]
   by_cases hxp : x.1 = p
   ·simp only [hxp, if_true]
    refine ⟨rise_snoc h.rise h2, fun y hy => ?_, fun h => by cases h⟩
    rcases List.mem_append.1 hy with hy | hy
    ·exact up y hy
    ·simp at hy; exact .inr ⟨hy, h0, x, by simp, .inl hxp.symm⟩
   ·simp only [hxp, if_false]
    have hxa : aheadP x.1 p := ahead_tri ha hxp
    refine ⟨rise_snoc h.rise hs, fun y hy => ?_, fun _ => ⟨h0, fun y hy => ?_, fun y hy => ?_⟩⟩
    ·rcases List.mem_append.1 hy with hy | hy
     ·exact up y hy
     ·exact .inl (by simp at hy; simp [hy])
    ·rcases List.mem_append.1 hy with hy | hy
     ·exact h1 y hy
     ·simp at hy; subst hy; exact hxa
    ·rcases List.mem_append.1 hy with hy | hy
     ·exact h2 y hy
     ·simp at hy; subst hy; exact hxa
theorem putG_fold (p : Int × Int) (set : Int) : ∀ (n : Nat) (l : List Pr), l.length = n → (l.map Prod.fst).Pairwise aheadP → PutG p set l (foldPut p set l)
 | 0, l, hl, _ => by
  obtain rfl := List.eq_nil_of_length_eq_zero hl
  exact ⟨by simp [foldPut], by simp [foldPut], fun h => ⟨by simpa [foldPut] using h, by simp, by simp [foldPut]⟩⟩
 | n + 1, l, hl, hr => by
  have hne : l ≠ [] := fun e => by subst e; simp at hl
  obtain ⟨l', x, rfl⟩ : ∃ l' x, l = l' ++ [x] := ⟨l.dropLast, l.getLast hne, (List.dropLast_concat_getLast hne).symm⟩
  rw [List.map_append, List.pairwise_append] at hr
  rw [foldPut_snoc]
  refine putG_step (putG_fold p set n l' (by simpa using hl) hr.1) fun y hy => ?_
  exact hr.2.2 y.1 (List.mem_map.2 ⟨y, hy, rfl⟩) x.1 (by simp)
theorem Good.put {fr se : Int} {l : List Pr} (h : Good fr se l) {p : Int × Int} {set : Int} (hp : mayP fr se p) : Good fr se (refPut p set l) := by
 have hg := putG_fold p set _ l rfl h.rise
 have hk : ∀ x ∈ (foldPut p set l).1, x.2 ≠ 0 ∧ mayP fr se x.1 := fun x hx => by
  rcases hg.keys x hx with k | ⟨rfl, k0, _⟩
  ·exact h.each x k
  ·exact ⟨k0, hp⟩
 unfold refPut
 simp only []
 cases hf : (foldPut p set l).2 with
 | true => exact ⟨by simpa using hg.rise, by simpa using hk⟩
 | false =>
  obtain ⟨h0, h1, h2⟩ := hg.off hf
  simp only [Bool.false_eq_true, if_false]
  refine ⟨rise_snoc hg.rise h2, fun x hx => ?_⟩
  rcases List.mem_append.1 hx with hx | hx
  ·exact hk x hx
  ·simp at hx; subst hx; exact ⟨h0, hp⟩
theorem Good.fill {fr se : Int} {p : Int × Int} {set : Int} {l : List Pr} (h : Good fr se l) : ∀ (n : Nat), (∀ i : Nat, i < n → mayP fr se (p.1, p.2 + i)) → Good fr se (refFill p set l n)
 | 0, _ => h
 | n + 1, hp => (Good.fill h n fun i hi => hp i (by omega)).put (hp n (by omega))
theorem Good.all {fr se : Int} {g : Int × Int → Int} : ∀ (ts : List Tch) {l : List Pr}, Good fr se l → rightAll fr se ts → Good fr se (putAll g ts l)
 | [], _, h, _ => h
 | t :: ts, l, h, hr => by
  show Good fr se (putAll g ts (putStep g l t))
  refine Good.all ts ?_ fun u hu => hr u (by simp [hu])
  unfold putStep
  split
  ·exact h
  ·rename_i hne
   exact h.put ((hr t (by simp)).1.resolve_left hne)
theorem Good.step {R : Rf} (h : Good R.fr R.se R.pairs) (a : ActV) : Good (stepR R a).fr (stepR R a).se (stepR R a).pairs := by
 unfold stepR
 split
 ·unfold refMark
  split
  ·rename_i he
   refine h.fill _ fun i hi => ?_
   unfold refMarkE at he
   split at he
   ·cases he
   ·rename_i k1
    split at he
    ·cases he
    ·rename_i k2
     have m1 : mayP R.fr R.se a.p := by
      apply Classical.byContradiction; intro k; exact k1 (.inl k)
     have m2 : mayP R.fr R.se (a.p.1, a.p.2 + a.n - 1) := by
      apply Classical.byContradiction; intro k; exact k2 (.inr (.inr ⟨by omega, k⟩))
     obtain ⟨q1, q2, q3, q4⟩ := m1
     obtain ⟨_, _, _, q5⟩ := m2
     simp only [] at q5
     exact ⟨q1, q2, by simp only []; omega, by simp only []; omega⟩
  ·exact h
 ·unfold refApply
  split
  ·rename_i hr
   simp only []
   split
   ·exact h.all _ hr
   ·exact h
  ·exact h
theorem Good.look {fr se : Int} {l : List Pr} (h : Good fr se l) (p : Int × Int) : p ∈ l.map Prod.fst ↔ lookPr l p ≠ 0 := by
 unfold lookPr
 cases hl : lookK p l with
 | none =>
  simp only [Option.getD_none, ne_eq, not_true, iff_false]
  intro hm
  obtain ⟨x, hx, e⟩ := List.mem_map.1 hm
  exact lookK_none.1 hl x hx e
 | some v =>
  have hm := lookK_mem hl
  simp only [Option.getD_some]
  exact ⟨fun _ => (h.each _ hm).1, fun _ => List.mem_map.2 ⟨_, hm, rfl⟩⟩
theorem Good.nodup {fr se : Int} {l : List Pr} (h : Good fr se l) : (l.map Prod.fst).Nodup := List.Pairwise.imp (R := aheadP) (S := (· ≠ ·)) (fun {a b} hab e => by subst e; exact ahead_irrefl a hab) h.rise
theorem Good.eq {fr se : Int} {l : List Pr} (h : Good fr se l) : l = (l.map Prod.fst).map fun p => (p, lookPr l p) := by
 rw [List.map_map]
 refine (List.map_id l).symm.trans (List.map_congr_left fun x hx => ?_)
 have := (lookK_iff h.nodup).2 (show (x.1, x.2) ∈ l from hx)
 simp only [Function.comp, id_eq, lookPr, this, Option.getD_some]
end Go.Proofs.YtfcfkhbkkfpehaaGreatDoor
end
section
/- Flows behind several acts: the flow's, the document's. -/
namespace Go.Proofs.YtfcfkhbkkfpehaaGreatDoor
open Go Go.RowKit Go.X
structure BothAt (w0 w : World) (bf : Nat) (F : Fl) (R : Rf) (p4 : Option Addr) (n4 c4 : Nat) (p5 : Option Addr) (n5 c5 : Nat) (fp : List Nat) : Prop where
 flow : FlowAt w bf F fp
 ref : RefAt w R p4 n4 c4 p5 n5 c5
 rel : RelF F R
 chg : Chg [] w0 w
 fresh : ∀ i ∈ fp, w0.heap.size ≤ i
 rows : ∀ i ∈ rowB p4 ++ rowB p5, i ∉ fp
end Go.Proofs.YtfcfkhbkkfpehaaGreatDoor
end
section
namespace Go.Proofs.YtfcfkhbkkfpehaaGreatDoor
open Go Go.X
/- slices.Collect[int] -/
def W_slices_Collect_61 (seq1 : Value) (w : World) (R : (Option Addr) → Nat → Nat → World → Prop) : Prop :=
 Calls Tryz.prog 123 #[.slice none 0 0, seq1] w fun e w1 => ∃ (r2 : Option Addr) (r2n : Nat) (r2c : Nat), e = .returned (.slice r2 r2n r2c) ∧ (R r2 r2n r2c w1)
set_option maxRecDepth 100000 in
theorem go_slices_Collect_61 (seq1 : Value) (w : World) (R : (Option Addr) → Nat → Nat → World → Prop) (h : W_slices_Collect_61 seq1 w R) : Calls Tryz.prog 110 #[seq1] w (fun e w' => ∃ (r1 : Option Addr) (r1n : Nat) (r1c : Nat), e = .returned (.slice r1 r1n r1c) ∧ R r1 r1n r1c w') := by
 unfold W_slices_Collect_61 at h
 refine enter (N := 5) Tryz.func110 rfl rfl ?_
 refine CW.seq ?_
 refine CW.region fun L hL => ?_
 refine LW.rd hL rfl (Wants.free rfl) rfl (Rd.assign (v := .slice none 0 0) rfl) ?_
 refine LW.nil hL rfl ?_
 refine NW.then ?_
 refine CW.seq ?_
 refine CW.region fun L hL => ?_
 refine LW.rd hL rfl (Wants.free rfl) rfl (Rd.move (v := seq1) rfl) ?_
 refine LW.call hL rfl (Wants.free rfl) rfl (Cl.fn (f := 123) rfl Tryz.func123 (by kernel_rfl) rfl) h (fun e w1 h_ => ?_)
 clear h
 obtain ⟨r2, r2n, r2c, rfl, h⟩ := h_
 refine ⟨_, rfl, ?_⟩
 refine LW.rd hL rfl (Wants.free rfl) rfl (Rd.assign (v := .slice r2 r2n r2c) rfl) ?_
 refine LW.nil hL rfl ?_
 refine NW.then ?_
 refine CW.ret ?_
 exact res1 rfl rfl ⟨r2, r2n, r2c, rfl, h⟩
/- slices.AppendSeq[[]int,int] -/
def W_slices_AppendSeq_577 (s1 : Option Addr) (s1n : Nat) (s1c : Nat) (seq1 : Value) (w : World) (R : (Option Addr) → Nat → Nat → World → Prop) : Prop :=
 ∀ (b1 : Nat) (w1 : World), (w.heap.size ≤ b1 ∧ b1 < w1.heap.size) → Chg [] w w1 → (∃ (S1 Sp1 : List (Int) → Prop) (keep1 : List Nat), XR.IsFn Tryz.prog seq1 ∧ XR.Iterates Tryz.prog seq1 (fun x : Int => #[.int .i64 x]) S1 Sp1 keep1 w1 ∧ (∀ i_ ∈ keep1, i_ < w1.heap.size) ∧ ∃ (I1 : (Option Addr) → Nat → Nat → List Nat → List (Int) → World → Prop), (∀ (c1 : Option Addr) (c1n : Nat) (c1c : Nat) (pre_ : List (Int)), XR.Stab w1 (fun O_ w_ => I1 c1 c1n c1c O_ pre_ w_)) ∧ (∀ (O1 : List Nat) (w2 : World), Chg [] w1 w2 → XR.InO w1 O1 w2 → I1 s1 s1n s1c O1 ([]) w2) ∧ (∀ (l1 : Nat) (O1 : List Nat) (pre1 : List (Int)) (x1 : Int) (c1 : Option Addr) (c1n : Nat) (c1c : Nat) (w2 : World), XR.InO w1 O1 w2 → l1 ∈ O1 → Sp1 (pre1 ++ [x1]) → I1 c1 c1n c1c O1 pre1 w2 → (∀ (w3 : World), Chg [l1] w2 w3 → (∀ b2 : Nat, b2 = World.size w3 → ∀ w4 : World, w4 = World.alloc w3 (.cells #[.int .i64 x1] 3) → (∃ (l2 : Option Addr) (l2n : Nat) (l2c : Nat) (w5 : World), (Builtin.append_ #[171, 171] 171 #[.slice c1 c1n c1c, .slice (some (⟨b2, 0, none⟩ : Addr)) 1 1]).run Tryz.prog w4 = .ok (.slice l2 l2n l2c) w5 ∧ (Same w4 w5 [b1] ∧ (∀ (w6 : World), Chg [b1] w5 w6 → ((w3.heap.size ≤ w6.heap.size ∧ I1 l2 l2n l2c O1 (pre1 ++ [x1]) w6 ∧ Same w3 w6 (keep1 ++ O1))))))))) ∧ (∀ (d1 : Nat) (O2 : List Nat) (xs1 : List (Int)) (c1 : Option Addr) (c1n : Nat) (c1c : Nat) (w7 : World), XR.InO w1 O2 w7 → d1 ∈ O2 → S1 xs1 → I1 c1 c1n c1c O2 xs1 w7 → (∀ w8 : World, Chg [d1] w7 w8 → (R c1 c1n c1c w8))))
set_option maxRecDepth 100000 in
theorem go_slices_AppendSeq_577 (s1 : Option Addr) (s1n : Nat) (s1c : Nat) (seq1 : Value) (w : World) (R : (Option Addr) → Nat → Nat → World → Prop) (h : W_slices_AppendSeq_577 s1 s1n s1c seq1 w R) : Calls Tryz.prog 123 #[.slice s1 s1n s1c, seq1] w (fun e w' => ∃ (r1 : Option Addr) (r1n : Nat) (r1c : Nat), e = .returned (.slice r1 r1n r1c) ∧ R r1 r1n r1c w') := by
 unfold W_slices_AppendSeq_577 at h
 refine XR.enterM (N := 13) Tryz.func123 rfl rfl ?_
 refine CW.seq ?_
 refine CW.region fun L hL => ?_
 obtain ⟨b1, hb_b1⟩ : ∃ b1, b1 = World.size w := ⟨_, rfl⟩
 obtain ⟨w1, hw_w1⟩ : ∃ w1, w1 = World.alloc w (.cells #[.slice s1 s1n s1c] 171) := ⟨_, rfl⟩
 refine LW.val hL rfl (Wants.free rfl) rfl (boxE hb_b1 hw_w1 (Vl.box (v := .slice s1 s1n s1c) rfl)) ?_
 have hB := Boxes.alloc (cs := [.slice s1 s1n s1c]) (T := 171) (Boxes.nil w) hb_b1 hw_w1
 have hlo_b1 := sil_lo (Chg.refl [] w) hb_b1
 have hc_w1 := sil_alloc (Chg.refl [] w) hw_w1
 refine LW.rd hL rfl (Wants.free rfl) rfl (Rd.assign (v := .slice none 0 0) rfl) ?_
 refine LW.nil hL rfl ?_
 refine NW.then ?_
 refine CW.seq ?_
 refine CW.seq ?_
 refine CW.region fun L hL => ?_
 refine LW.rd hL rfl (Wants.free rfl) rfl (Rd.move (v := seq1) rfl) ?_
 refine LW.nil hL rfl ?_
 refine NW.then ?_
 refine CW.block ?_
 replace h := h b1 w1 ⟨hlo_b1, lt_of_heap (hB.at (i := 0) rfl)⟩ hc_w1
 obtain ⟨S1, Sp1, keep1, hfn_, hit_, hkp_, I1, hst_I1, h0_, hrd_, hdn_⟩ := h
 refine XR.CW.rangeV (α := Int) (enc := (fun x : Int => #[.int .i64 x])) (S := S1) (Sp := Sp1) (keep := keep1) rfl hfn_ (fun _ => rfl) (by decide) hit_ (fun (O_ : List Nat) (pre_ : List (Int)) (w_ : World) => ∃ (c1 : Option Addr) (c1n : Nat) (c1c : Nat), I1 c1 c1n c1c O_ pre_ w_ ∧ Boxes w_ [(b1, [.slice c1 c1n c1c], 171)]) (fun (c_ : Code) (O_ : List Nat) (pre_ : List (Int)) (w_ : World) => False) ?_ ?_ ?_ hkp_ ?_ ?_ ?_
 ·intro pre_ O_ O2_ A_ B_ hi_ hO_ hc_ hO2_ hg_
  have hB0_ := hB
  obtain ⟨c1, c1n, c1c, hi_, hB⟩ := hi_
  exact ⟨c1, c1n, c1c, hst_I1 c1 c1n c1c pre_ O_ O2_ A_ B_ hi_ hO_ hc_ hO2_ hg_, hB.stab hB0_ rfl hO_ hc_⟩
 ·intro c_ pre_ O_ O2_ A_ B_ hi_ hO_ hc_ hO2_ hg_
  exact hi_.elim
 ·intro O_ A_ hc_ hO_
  exact ⟨s1, s1n, s1c, h0_ O_ A_ hc_ hO_, Boxes.chg hB hc_ (by simp)⟩
 ·intro l1 O1 pre1 x_ w2 hO_ hl_ hSp_ hi_
  obtain ⟨x1, rfl⟩ : ∃ y, y = x_ := ⟨_, rfl⟩
  obtain ⟨c1, c1n, c1c, hi_, hB⟩ := hi_
  have h := hrd_ l1 O1 pre1 x1 c1 c1n c1c w2 hO_ hl_ hSp_ hi_
  refine XR.CW.region fun L hL => ?_
  refine XR.LW.rd hL rfl (Wants.free rfl) rfl (Rd.assign (v := .int .i64 x1) rfl) ?_
  refine XR.LW.nil hL rfl ?_
  refine XR.NW.begin (Chg.refl [] w2) (fun w3 hcb_w3 hlp_ hib_ => ?_)
  have hc_w3 : Chg [l1] w2 w3 := sil_more (Chg.refl [] w2) hcb_w3
  replace hB := hB.notloop hlp_ hcb_w3
  replace h := h  w3  hc_w3
  refine XR.CW.block ?_
  refine XR.CW.region fun L hL => ?_
  refine XR.LW.rd hL rfl (Wants.free rfl) rfl (Rd.ld (v := .slice c1 c1n c1c) rfl (by kernel_rfl) (eqs (box_cell (hB.at (i := 0) rfl) rfl))) ?_
  refine XR.LW.rd hL rfl (Wants.free rfl) rfl (Rd.move (v := .int .i64 x1) rfl) ?_
  obtain ⟨b2, hb_b2⟩ : ∃ b2, b2 = World.size w3 := ⟨_, rfl⟩
  obtain ⟨w4, hw_w4⟩ : ∃ w4, w4 = World.alloc w3 (.cells #[.int .i64 x1] 3) := ⟨_, rfl⟩
  replace h := h b2 hb_b2 w4 hw_w4
  refine XR.LW.val hL rfl (Wants.free rfl) rfl (sliceE (n := 1) hb_b2 hw_w4 (fun w => Vl.buildSlice (vs := [(0, .int .i64 x1)]) rfl (by kernel_rfl))) ?_
  replace hB := hB.grow hw_w4
  obtain ⟨l2, l2n, l2c, w5, ha1, h⟩ := h
  refine XR.LW.val hL rfl (Wants.free rfl) rfl (Vl.builtin (v := .slice l2 l2n l2c) rfl (valB ha1)) ?_
  obtain ⟨hsm1, h⟩ := h
  replace hB := Boxes.sameS hB hsm1 (by simp)
  obtain ⟨w6, hw_w6⟩ : ∃ x, x = World.setCell w5 (⟨b1, 0, none⟩ : Addr) (.slice l2 l2n l2c) := ⟨_, rfl⟩
  refine XR.LW.eff hL rfl (Wants.free rfl) rfl (stE hw_w6 (Ef.st rfl rfl rfl (by kernel_rfl) (box_cell (v := .slice c1 c1n c1c) (hB.at (i := 0) rfl) rfl) (free_of (hB.at (i := 0) rfl) 0))) ?_
  replace hB : Boxes w6 [(b1, [.slice l2 l2n l2c], 171)] := Boxes.store1  (i := 0) (o := 0) hB rfl rfl rfl rfl hw_w6
  have hc_w6 : Chg [b1] w5 w6 := sil_more (Chg.refl [] w5) (sil_c1 hw_w6)
  refine XR.LW.nil hL rfl ?_
  refine NW.block ?_
  replace h := h  w6  hc_w6
  exact fun a_ ha_ => ⟨h.1, ⟨l2, l2n, l2c, h.2.1, hB⟩, h.2.2⟩
 ·intro d1 O2 xs1 w7 hO_ hd_ hdh_ hS_ hi_
  obtain ⟨c1, c1n, c1c, hi_, hB⟩ := hi_
  have h := hdn_ d1 O2 xs1 c1 c1n c1c w7 hO_ hd_ hS_ hi_
  have hK := XR.Marks.cons (XR.Marks.nil _) hdh_ (by simp)
  refine NW.block ?_
  refine NW.then ?_
  refine CW.seq ?_
  refine CW.region fun L hL => ?_
  refine LW.rd hL rfl (Wants.free rfl) rfl (Rd.ld (v := .slice c1 c1n c1c) rfl (by kernel_rfl) (eqs (box_cell (hB.at (i := 0) rfl) rfl))) ?_
  refine LW.rd hL rfl (Wants.free rfl) rfl (Rd.assign (v := .slice c1 c1n c1c) rfl) ?_
  refine LW.nil hL rfl ?_
  refine NW.then ?_
  refine CW.ret ?_
  exact XR.resM (ms := [d1]) (vs := [.slice c1 c1n c1c]) hK rfl (fun w_ hc_ => ⟨(ResOK.t rfl ResOK.nil), c1, c1n, c1c, rfl, h w_ hc_⟩)
 ·intro d2 c_ O3 xs2 w9 hO_ hd_ hdh_ hS_ hi_
  exact hi_.elim
/- slices.Sorted[int] -/
def W_slices_Sorted_61 (seq1 : Value) (w : World) (R : (Option Addr) → Nat → Nat → World → Prop) : Prop :=
 Calls Tryz.prog 110 #[seq1] w fun e w1 => ∃ (r2 : Option Addr) (r2n : Nat) (r2c : Nat), e = .returned (.slice r2 r2n r2c) ∧ (Calls Tryz.prog 111 #[.slice r2 r2n r2c] w1 fun e w2 => e = .returned (.tuple #[]) ∧ (R r2 r2n r2c w2))
set_option maxRecDepth 100000 in
theorem go_slices_Sorted_61 (seq1 : Value) (w : World) (R : (Option Addr) → Nat → Nat → World → Prop) (h : W_slices_Sorted_61 seq1 w R) : Calls Tryz.prog 91 #[seq1] w (fun e w' => ∃ (r1 : Option Addr) (r1n : Nat) (r1c : Nat), e = .returned (.slice r1 r1n r1c) ∧ R r1 r1n r1c w') := by
 unfold W_slices_Sorted_61 at h
 refine enter (N := 9) Tryz.func91 rfl rfl ?_
 refine CW.seq ?_
 refine CW.region fun L hL => ?_
 refine LW.rd hL rfl (Wants.free rfl) rfl (Rd.assign (v := .slice none 0 0) rfl) ?_
 refine LW.nil hL rfl ?_
 refine NW.then ?_
 refine CW.seq ?_
 refine CW.region fun L hL => ?_
 refine LW.rd hL rfl (Wants.free rfl) rfl (Rd.move (v := seq1) rfl) ?_
 refine LW.call hL rfl (Wants.free rfl) rfl (Cl.fn (f := 110) rfl Tryz.func110 (by kernel_rfl) rfl) h (fun e w1 h_ => ?_)
 clear h
 obtain ⟨r2, r2n, r2c, rfl, h⟩ := h_
 refine ⟨_, rfl, ?_⟩
 refine LW.rd hL rfl (Wants.free rfl) rfl (Rd.assign (v := .slice r2 r2n r2c) rfl) ?_
 refine LW.nil hL rfl ?_
 refine NW.then ?_
 refine CW.seq ?_
 refine CW.region fun L hL => ?_
 refine LW.rd hL rfl (Wants.free rfl) rfl (Rd.move (v := .slice r2 r2n r2c) rfl) ?_
 refine LW.call hL rfl (Wants.free rfl) rfl (Cl.fn (f := 111) rfl Tryz.func111 (by kernel_rfl) rfl) h (fun e w2 h_ => ?_)
 clear h
 obtain ⟨rfl, h⟩ := h_
 refine ⟨_, rfl, ?_⟩
 refine LW.nil hL rfl ?_
 refine NW.then ?_
 refine CW.seq ?_
 refine CW.region fun L hL => ?_
 refine LW.rd hL rfl (Wants.free rfl) rfl (Rd.move (v := .slice r2 r2n r2c) rfl) ?_
 refine LW.rd hL rfl (Wants.free rfl) rfl (Rd.assign (v := .slice r2 r2n r2c) rfl) ?_
 refine LW.nil hL rfl ?_
 refine NW.then ?_
 refine CW.ret ?_
 exact res1 rfl rfl ⟨r2, r2n, r2c, rfl, h⟩
/- (*pomander/shadow.Shadow).All -/
def W_shadow_Shadow_All (s1 : Option Addr) (w : World) (R : Value → World → Prop) : Prop :=
 ∀ b1 : Nat, b1 = World.size w → ∀ w1 : World, w1 = World.alloc w (.cells #[.pointer s1] 96) → (∃ (t1 : Option Addr), w1.cell? (⟨b1, 0, none⟩ : Addr) = some (.pointer t1) ∧ (Calls Tryz.prog 48 #[.pointer t1] w1 fun e w2 => ∃ (r2 : Option Addr), e = .returned (.pointer r2) ∧ ((∃ o : Value, w2.cell? (⟨b1, 0, none⟩ : Addr) = some o) ∧ w2.frozen? (⟨b1, 0, none⟩ : Addr) = false ∧ ∀ w3 : World, w3 = World.setCell w2 (⟨b1, 0, none⟩ : Addr) (.pointer r2) → (R (.func (.func 90) #[] #[.pointer (some (⟨b1, 0, none⟩ : Addr))]) w3))))
set_option maxRecDepth 100000 in
theorem go_shadow_Shadow_All (s1 : Option Addr) (w : World) (R : Value → World → Prop) (h : W_shadow_Shadow_All s1 w R) : Calls Tryz.prog 73 #[.pointer s1] w (fun e w' => ∃ (r1 : Value), e = .returned (r1) ∧ R r1 w') := by
 unfold W_shadow_Shadow_All at h
 refine enter (N := 6) Tryz.func73 rfl rfl ?_
 refine CW.seq ?_
 refine CW.region fun L hL => ?_
 obtain ⟨b1, hb_b1⟩ : ∃ b1, b1 = World.size w := ⟨_, rfl⟩
 obtain ⟨w1, hw_w1⟩ : ∃ w1, w1 = World.alloc w (.cells #[.pointer s1] 96) := ⟨_, rfl⟩
 replace h := h b1 hb_b1 w1 hw_w1
 refine LW.val hL rfl (Wants.free rfl) rfl (boxE hb_b1 hw_w1 (Vl.box (v := .pointer s1) rfl)) ?_
 refine LW.rd hL rfl (Wants.free rfl) rfl (Rd.assign (v := .nilFunc) rfl) ?_
 refine LW.nil hL rfl ?_
 refine NW.then ?_
 refine CW.seq ?_
 refine CW.region fun L hL => ?_
 obtain ⟨t1, hc1, h⟩ := h
 refine LW.rd hL rfl (Wants.free rfl) rfl (Rd.ld (v := .pointer t1) rfl (by kernel_rfl) (eqs hc1)) ?_
 refine LW.call hL rfl (Wants.free rfl) rfl (Cl.fn (f := 48) rfl Tryz.func48 (by kernel_rfl) rfl) h (fun e w2 h_ => ?_)
 clear h
 obtain ⟨r2, rfl, h⟩ := h_
 refine ⟨_, rfl, ?_⟩
 obtain ⟨⟨o_w3, ho1⟩, hf1, h⟩ := h
 obtain ⟨w3, hw_w3⟩ : ∃ w3, w3 = World.setCell w2 (⟨b1, 0, none⟩ : Addr) (.pointer r2) := ⟨_, rfl⟩
 replace h := h w3 hw_w3
 refine LW.eff hL rfl (Wants.free rfl) rfl (stE hw_w3 (Ef.st rfl rfl rfl (by kernel_rfl) ho1 hf1)) ?_
 refine LW.nil hL rfl ?_
 refine NW.then ?_
 refine CW.seq ?_
 refine CW.region fun L hL => ?_
 refine LW.rd hL rfl (Wants.free rfl) rfl (Rd.makeFunc rfl) ?_
 refine LW.rd hL rfl (Wants.free rfl) rfl (Rd.assign (v := .func (.func 90) #[] #[.pointer (some (⟨b1, 0, none⟩ : Addr))]) rfl) ?_
 refine LW.nil hL rfl ?_
 refine NW.then ?_
 refine CW.ret ?_
 exact res1 rfl rfl ⟨.func (.func 90) #[] #[.pointer (some (⟨b1, 0, none⟩ : Addr))], rfl, h⟩
/- (*pomander/shadow.Shadow).All$1 -/
def W_shadow_Shadow_All_1 (yield1 : Value) (cap1 : Addr) (w : World) (R : World → Prop) : Prop :=
 ∃ (t1 : Option Addr), w.cell? cap1 = some (.pointer t1) ∧ (Calls Tryz.prog 70 #[.pointer t1] w fun e w1 => ∃ (r1 : Bool), e = .returned (.bool r1) ∧ ((r1 = true → R w1) ∧ (r1 = false → ∃ (t2 : Option Addr), w1.cell? cap1 = some (.pointer t2) ∧ (∃ a1 : Addr, t2 = some a1 ∧ (∃ (t3 : Option Nat), w1.cell? (a1.add 1) = some (.map t3) ∧ (Calls Tryz.prog 92 #[.map t3] w1 fun e w2 => ∃ (r2 : Value), e = .returned (r2) ∧ (Calls Tryz.prog 91 #[r2] w2 fun e w3 => ∃ (r3 : Option Addr) (r3n : Nat) (r3c : Nat), e = .returned (.slice r3 r3n r3c) ∧ (∃ (I1 : Int → World → Prop) (m1 : Int → World → Nat), I1 0 w3 ∧ ∀ (x1 : Int) (w4 : World), I1 x1 w4 → ((decide (x1 < (r3n : Int))) = true → ∃ a2 : Addr, r3 = some a2 ∧ (0 : Int) ≤ x1 ∧ x1 < (r3n : Int) ∧ (∃ (t4 : Int), w4.cell? (a2.add (Int.toNat x1 * 1)) = some (.int .i64 t4) ∧ (∃ (t5 : Option Addr), w4.cell? cap1 = some (.pointer t5) ∧ (∃ a3 : Addr, t5 = some a3 ∧ (∃ (t6 : Option Nat), w4.cell? (a3.add 1) = some (.map t6) ∧ (∃ (v1 : Option Addr), (Instr.lookup 131 (.map t6) (.int .i64 t4) false).run Tryz.prog w4 = .ok (.pointer v1) w4 ∧ (∃ a4 : Addr, v1 = some a4 ∧ (∃ (t7 : List Value), t7.length = 64 ∧ CellsAt w4 (a4.add 1) 0 t7 ∧ (∃ (I2 : Int → World → Prop) (m2 : Int → World → Nat), I2 0 w4 ∧ ∀ (x2 : Int) (w5 : World), I2 x2 w5 → ((decide (x2 < 64)) = true → ∃ (x3 : Int), (∀ w : World, (Instr.index 153 (.agg (t7).toArray) (.int .i64 x2)).run Tryz.prog w = .ok (.int .u32 x3) w) ∧ (∃ J1 : Bool → World → Prop, (∀ (b1 : Bool) (w6 : World), J1 b1 w6 → (b1 = true → R w6) ∧ (b1 = false → (I2 (IntKind.wrap .i64 (x2 + 1)) w6 ∧ m2 (IntKind.wrap .i64 (x2 + 1)) w6 < m2 x2 w5))) ∧ (((!(x3 == 0)) = true → XR.CallsY Tryz.prog yield1 #[.int .i64 (IntKind.wrap .i64 ((IntKind.wrap .i64 (t4 * 64)) + x2)), .int .u32 x3] w5 fun e w7 => ∃ (r4 : Bool), e = .returned (.bool r4) ∧ (J1 (!r4) w7)) ∧ ((!(x3 == 0)) = false → J1 false w5)))) ∧ ((decide (x2 < 64)) = false → (I1 (IntKind.wrap .i64 (x1 + 1)) w5 ∧ m1 (IntKind.wrap .i64 (x1 + 1)) w5 < m1 x1 w4))))))))))) ∧ ((decide (x1 < (r3n : Int))) = false → R w4)))))))))
set_option maxRecDepth 100000 in
theorem go_shadow_Shadow_All_1 (yield1 : Value) (cap1 : Addr) (w : World) (R : World → Prop) (h : W_shadow_Shadow_All_1 yield1 cap1 w R) : Calls Tryz.prog 90 #[yield1, .pointer (some cap1)] w (fun e w' => e = .returned (.tuple #[]) ∧ R w') := by
 unfold W_shadow_Shadow_All_1 at h
 refine enter (N := 47) Tryz.func90 rfl rfl ?_
 refine CW.scope0 ?_
 refine CW.seq ?_
 refine CW.seq ?_
 refine CW.region fun L hL => ?_
 obtain ⟨t1, hc1, h⟩ := h
 refine LW.rd hL rfl (Wants.free rfl) rfl (Rd.ld (v := .pointer t1) rfl (by kernel_rfl) (eqs hc1)) ?_
 refine LW.call hL rfl (Wants.free rfl) rfl (Cl.fn (f := 70) rfl Tryz.func70 (by kernel_rfl) rfl) h (fun e w1 h_ => ?_)
 clear h
 obtain ⟨r1, rfl, h⟩ := h_
 refine ⟨_, rfl, ?_⟩
 refine LW.nil hL rfl ?_
 refine NW.then ?_
 refine CW.cond rfl (fun hb1 => ?_) (fun hb1 => ?_)
 ·replace h := h.1 hb1
  refine CW.ret ?_
  refine RW.then ?_
  refine RW.noGoto ?_
  exact res0 rfl ⟨rfl, h⟩
 ·replace h := h.2 hb1
  refine CW.skip ?_
  refine NW.then ?_
  refine CW.seq ?_
  refine CW.label ?_
  refine NW.then ?_
  refine CW.seq ?_
  refine CW.region fun L hL => ?_
  obtain ⟨t2, hc2, h⟩ := h
  refine LW.rd hL rfl (Wants.free rfl) rfl (Rd.ld (v := .pointer t2) rfl (by kernel_rfl) (eqs hc2)) ?_
  obtain ⟨a1, ha1, h⟩ := h
  refine LW.rd hL rfl (Wants.free rfl) rfl (Rd.nil (q := a1) (by rw [← ha1]; rfl)) ?_
  refine LW.rd hL rfl (Wants.free rfl) rfl (Rd.fa (v := .pointer (some (a1.add 1))) rfl (fun _ => by kernel_rfl)) ?_
  obtain ⟨t3, hc3, h⟩ := h
  refine LW.rd hL rfl (Wants.free rfl) rfl (Rd.ld (v := .map t3) rfl (by kernel_rfl) (eqs hc3)) ?_
  refine LW.call hL rfl (Wants.free rfl) rfl (Cl.fn (f := 92) rfl Tryz.func92 (by kernel_rfl) rfl) h (fun e w2 h_ => ?_)
  clear h
  obtain ⟨r2, rfl, h⟩ := h_
  refine ⟨_, rfl, ?_⟩
  refine LW.call hL rfl (Wants.free rfl) rfl (Cl.fn (f := 91) rfl Tryz.func91 (by kernel_rfl) rfl) h (fun e w3 h_ => ?_)
  clear h
  obtain ⟨r3, r3n, r3c, rfl, h⟩ := h_
  refine ⟨_, rfl, ?_⟩
  refine LW.rd hL rfl (Wants.free rfl) rfl (Rd.builtin (v := .int .i64 (r3n : Int)) rfl (fun _ _ => by kernel_rfl)) ?_
  refine LW.rd hL rfl (Wants.free rfl) rfl (Rd.move (v := .int .i64 0) rfl) ?_
  refine LW.nil hL rfl ?_
  refine NW.then ?_
  refine CW.block ?_
  obtain ⟨I1, m1, hI1, h⟩ := h
  refine CW.loop (S := Int) (fun x1 => [(0, yield1), (1, .pointer (some cap1)), (14, .slice r3 r3n r3c), (15, .int .i64 (r3n : Int)), (16, .int .i64 x1)]) (fun x1 w4 => I1 x1 w4) (fun x1 w4 => m1 x1 w4) 0 (by exact ⟨rfl, rfl, rfl, rfl, rfl, trivial⟩) hI1 (fun x1 w4 hI1 => ?_)
  replace h := h x1 w4 hI1
  refine CW.seq ?_
  refine CW.region fun L hL => ?_
  refine LW.rd hL rfl (Wants.free rfl) rfl (Rd.bin (v := .bool (decide (x1 < (r3n : Int)))) rfl rfl (fun w => by kernel_rfl)) ?_
  refine LW.nil hL rfl ?_
  refine NW.then ?_
  refine CW.seq ?_
  refine CW.cond rfl (fun hb2 => ?_) (fun hb2 => ?_)
  ·replace h := h.1 hb2
   refine CW.skip ?_
   refine NW.then ?_
   refine CW.seq ?_
   refine CW.block ?_
   refine CW.seq ?_
   refine CW.region fun L hL => ?_
   obtain ⟨a2, he1, hi1, hi2, h⟩ := h
   refine LW.rd hL rfl (Wants.free rfl) rfl (Rd.iaS (q := a2) (sz := 1) (by rw [← he1]; rfl) rfl Tryz.underlying171 (by kernel_rfl) hi1 hi2) ?_
   obtain ⟨t4, hc4, h⟩ := h
   refine LW.rd hL rfl (Wants.free rfl) rfl (Rd.ld (v := .int .i64 t4) rfl (by kernel_rfl) (eqs hc4)) ?_
   refine LW.rd hL rfl (Wants.free rfl) rfl (Rd.assign (v := .int .i64 t4) rfl) ?_
   refine LW.nil hL rfl ?_
   refine NW.then ?_
   refine CW.seq ?_
   refine CW.region fun L hL => ?_
   obtain ⟨t5, hc5, h⟩ := h
   refine LW.rd hL rfl (Wants.free rfl) rfl (Rd.ld (v := .pointer t5) rfl (by kernel_rfl) (eqs hc5)) ?_
   obtain ⟨a3, ha2, h⟩ := h
   refine LW.rd hL rfl (Wants.free rfl) rfl (Rd.nil (q := a3) (by rw [← ha2]; rfl)) ?_
   refine LW.rd hL rfl (Wants.free rfl) rfl (Rd.fa (v := .pointer (some (a3.add 1))) rfl (fun _ => by kernel_rfl)) ?_
   obtain ⟨t6, hc6, h⟩ := h
   refine LW.rd hL rfl (Wants.free rfl) rfl (Rd.ld (v := .map t6) rfl (by kernel_rfl) (eqs hc6)) ?_
   refine LW.rd hL rfl (Wants.free rfl) rfl (Rd.move (v := .int .i64 t4) rfl) ?_
   obtain ⟨v1, hl1, h⟩ := h
   refine LW.rd hL rfl (Wants.free rfl) rfl (Rd.lookup (v := .pointer v1) rfl rfl (fun _ e => e ▸ hl1)) ?_
   obtain ⟨a4, ha3, h⟩ := h
   refine LW.rd hL rfl (Wants.free rfl) rfl (Rd.nil (q := a4) (by rw [← ha3]; rfl)) ?_
   refine LW.rd hL rfl (Wants.free rfl) rfl (Rd.fa (v := .pointer (some (a4.add 1))) rfl (fun _ => by kernel_rfl)) ?_
   obtain ⟨t7, hl2, hc7, h⟩ := h
   refine LW.rd hL rfl (Wants.free rfl) rfl (Rd.ldN (cs := t7) rfl (by kernel_rfl) (by rw [hl2]; kernel_rfl) (cellsS hc7)) ?_
   refine LW.rd hL rfl (Wants.free rfl) rfl (Rd.move (v := .int .i64 0) rfl) ?_
   refine LW.nil hL rfl ?_
   refine NW.then ?_
   refine CW.block ?_
   obtain ⟨I2, m2, hI2, h⟩ := h
   refine CW.loop (S := Int) (fun x2 => [(0, yield1), (1, .pointer (some cap1)), (4, .int .i64 t4), (14, .slice r3 r3n r3c), (15, .int .i64 (r3n : Int)), (16, .int .i64 x1), (28, .agg (t7).toArray), (29, .int .i64 x2)]) (fun x2 w5 => I2 x2 w5) (fun x2 w5 => m2 x2 w5) 0 (by exact ⟨rfl, rfl, rfl, rfl, rfl, rfl, rfl, rfl, trivial⟩) hI2 (fun x2 w5 hI2 => ?_)
   replace h := h x2 w5 hI2
   refine CW.seq ?_
   refine CW.region fun L hL => ?_
   refine LW.rd hL rfl (Wants.free rfl) rfl (Rd.bin (v := .bool (decide (x2 < 64))) rfl rfl (fun w => by kernel_rfl)) ?_
   refine LW.nil hL rfl ?_
   refine NW.then ?_
   refine CW.seq ?_
   refine CW.cond rfl (fun hb3 => ?_) (fun hb3 => ?_)
   ·replace h := h.1 hb3
    refine CW.skip ?_
    refine NW.then ?_
    refine CW.seq ?_
    refine CW.block ?_
    refine CW.seq ?_
    refine CW.region fun L hL => ?_
    refine LW.rd hL rfl (Wants.free rfl) rfl (Rd.move (v := .int .i64 x2) rfl) ?_
    obtain ⟨x3, hx1, h⟩ := h
    refine LW.rd hL rfl (Wants.free rfl) rfl (Rd.index (v := .int .u32 x3) rfl rfl hx1) ?_
    refine LW.rd hL rfl (Wants.free rfl) rfl (Rd.assign (v := .int .i64 x2) rfl) ?_
    refine LW.rd hL rfl (Wants.free rfl) rfl (Rd.assign (v := .int .u32 x3) rfl) ?_
    refine LW.nil hL rfl ?_
    refine NW.then ?_
    refine CW.seq ?_
    refine XR.CW.un ?_
    refine XR.CW.region fun L hL => ?_
    refine XR.LW.rd hL rfl (Wants.free rfl) rfl (Rd.move (v := .int .u32 x3) rfl) ?_
    refine XR.LW.rd hL rfl (Wants.free rfl) rfl (Rd.bin (v := .bool (!(x3 == 0))) rfl rfl (fun w => by kernel_rfl)) ?_
    refine XR.LW.rd hL rfl (Wants.free rfl) rfl (Rd.move (v := .bool (!(x3 == 0))) rfl) ?_
    obtain ⟨J1, hJ1, h1_J1, h0_J1⟩ := h
    suffices K1 : ∀ (b1 : Bool) (w6 : World), J1 b1 w6 → L 12 [(0, yield1), (1, .pointer (some cap1)), (4, .int .i64 t4), (14, .slice r3 r3n r3c), (15, .int .i64 (r3n : Int)), (16, .int .i64 x1), (28, .agg (t7).toArray), (29, .int .i64 x2), (44, .bool b1)] w6 by
     rcases Bool.eq_false_or_eq_true (!(x3 == 0)) with hb4 | hb4
     ·have h := h1_J1 hb4
      refine XR.LW.rd hL rfl (Wants.on rfl rfl rfl rfl rfl hb4) rfl (Rd.move (v := yield1) rfl) ?_
      refine XR.LW.rd hL rfl (Wants.on rfl rfl rfl rfl rfl hb4) rfl (Rd.move (v := .int .i64 t4) rfl) ?_
      refine XR.LW.rd hL rfl (Wants.on rfl rfl rfl rfl rfl hb4) rfl (Rd.bin (v := .int .i64 (IntKind.wrap .i64 (t4 * 64))) rfl rfl (fun w => by kernel_rfl)) ?_
      refine XR.LW.rd hL rfl (Wants.on rfl rfl rfl rfl rfl hb4) rfl (Rd.move (v := .int .i64 x2) rfl) ?_
      refine XR.LW.rd hL rfl (Wants.on rfl rfl rfl rfl rfl hb4) rfl (Rd.bin (v := .int .i64 (IntKind.wrap .i64 ((IntKind.wrap .i64 (t4 * 64)) + x2))) rfl rfl (fun w => by kernel_rfl)) ?_
      refine XR.LW.rd hL rfl (Wants.on rfl rfl rfl rfl rfl hb4) rfl (Rd.move (v := .int .u32 x3) rfl) ?_
      refine XR.LW.callY hL rfl (Wants.on rfl rfl rfl rfl rfl hb4) rfl rfl rfl h (fun e w7 h_ => ?_)
      clear h
      obtain ⟨r4, rfl, h⟩ := h_
      refine ⟨_, rfl, ?_⟩
      refine XR.LW.rd hL rfl (Wants.on rfl rfl rfl rfl rfl hb4) rfl (Rd.un (v := .bool (!r4)) rfl (fun _ => by kernel_rfl)) ?_
      refine XR.LW.rd hL rfl (Wants.free rfl) rfl (Rd.pickT rfl hb4 rfl) ?_
      exact XR.LW.sub hL (by exact ⟨rfl, rfl, rfl, rfl, rfl, rfl, rfl, rfl, rfl, trivial⟩) (K1 (!r4) w7 h)
     ·have h := h0_J1 hb4
      refine XR.LW.skip hL rfl (Skips.on rfl rfl rfl rfl rfl hb4) rfl ?_
      refine XR.LW.skip hL rfl (Skips.on rfl rfl rfl rfl rfl hb4) rfl ?_
      refine XR.LW.skip hL rfl (Skips.on rfl rfl rfl rfl rfl hb4) rfl ?_
      refine XR.LW.skip hL rfl (Skips.on rfl rfl rfl rfl rfl hb4) rfl ?_
      refine XR.LW.skip hL rfl (Skips.on rfl rfl rfl rfl rfl hb4) rfl ?_
      refine XR.LW.skip hL rfl (Skips.on rfl rfl rfl rfl rfl hb4) rfl ?_
      refine XR.LW.skip hL rfl (Skips.on rfl rfl rfl rfl rfl hb4) rfl ?_
      refine XR.LW.skip hL rfl (Skips.on rfl rfl rfl rfl rfl hb4) rfl ?_
      refine XR.LW.rd hL rfl (Wants.free rfl) rfl (Rd.pickF rfl hb4 rfl) ?_
      exact XR.LW.sub hL (by exact ⟨rfl, rfl, rfl, rfl, rfl, rfl, rfl, rfl, rfl, trivial⟩) (K1 false w5 h)
    intro b1 w6 h_
    have h := hJ1 b1 w6 h_; clear h_
    refine XR.LW.nil hL rfl ?_
    refine NW.then ?_
    refine CW.cond rfl (fun hb5 => ?_) (fun hb5 => ?_)
    ·replace h := h.1 hb5
     refine CW.exit ?_
     refine XW.miss rfl ?_
     refine XW.then ?_
     refine XW.then ?_
     refine XW.miss rfl ?_
     refine XW.miss rfl ?_
     refine XW.then ?_
     refine XW.then ?_
     refine XW.hit ?_
     refine NW.noGoto ?_
     exact res0n rfl (by exact ⟨rfl, h⟩)
    ·replace h := h.2 hb5
     refine CW.skip ?_
     refine NW.block ?_
     refine NW.then ?_
     refine CW.region fun L hL => ?_
     refine LW.rd hL rfl (Wants.free rfl) rfl (Rd.bin (v := .int .i64 (IntKind.wrap .i64 (x2 + 1))) rfl rfl (fun w => by kernel_rfl)) ?_
     refine LW.rd hL rfl (Wants.free rfl) rfl (Rd.move (v := .int .i64 (IntKind.wrap .i64 (x2 + 1))) rfl) ?_
     refine LW.nil hL rfl ?_
     exact NW.loop (S := Int) (Ek := fun x2 => [(0, yield1), (1, .pointer (some cap1)), (4, .int .i64 t4), (14, .slice r3 r3n r3c), (15, .int .i64 (r3n : Int)), (16, .int .i64 x1), (28, .agg (t7).toArray), (29, .int .i64 x2)]) (IntKind.wrap .i64 (x2 + 1)) (by exact ⟨rfl, rfl, rfl, rfl, rfl, rfl, rfl, rfl, trivial⟩) h
   ·replace h := h.2 hb3
    refine CW.exit ?_
    refine XW.then ?_
    refine XW.then ?_
    refine XW.hit ?_
    refine NW.block ?_
    refine NW.then ?_
    refine CW.region fun L hL => ?_
    refine LW.rd hL rfl (Wants.free rfl) rfl (Rd.bin (v := .int .i64 (IntKind.wrap .i64 (x1 + 1))) rfl rfl (fun w => by kernel_rfl)) ?_
    refine LW.rd hL rfl (Wants.free rfl) rfl (Rd.move (v := .int .i64 (IntKind.wrap .i64 (x1 + 1))) rfl) ?_
    refine LW.nil hL rfl ?_
    exact NW.loop (S := Int) (Ek := fun x1 => [(0, yield1), (1, .pointer (some cap1)), (14, .slice r3 r3n r3c), (15, .int .i64 (r3n : Int)), (16, .int .i64 x1)]) (IntKind.wrap .i64 (x1 + 1)) (by exact ⟨rfl, rfl, rfl, rfl, rfl, trivial⟩) h
  ·replace h := h.2 hb2
   refine CW.exit ?_
   refine XW.then ?_
   refine XW.then ?_
   refine XW.hit ?_
   refine NW.noGoto ?_
   exact res0n rfl (by exact ⟨rfl, h⟩)
/- maps.Keys[map[int]*pomander/shadow.page,int,*pomander/shadow.page] -/
def W_maps_Keys_0 (m1 : Option Nat) (w : World) (R : Value → World → Prop) : Prop :=
 ∀ b1 : Nat, b1 = World.size w → ∀ w1 : World, w1 = World.alloc w (.cells #[.map m1] 131) → (R (.func (.func 112) #[] #[.pointer (some (⟨b1, 0, none⟩ : Addr))]) w1)
set_option maxRecDepth 100000 in
theorem go_maps_Keys_0 (m1 : Option Nat) (w : World) (R : Value → World → Prop) (h : W_maps_Keys_0 m1 w R) : Calls Tryz.prog 92 #[.map m1] w (fun e w' => ∃ (r1 : Value), e = .returned (r1) ∧ R r1 w') := by
 unfold W_maps_Keys_0 at h
 refine enter (N := 4) Tryz.func92 rfl rfl ?_
 refine CW.seq ?_
 refine CW.region fun L hL => ?_
 obtain ⟨b1, hb_b1⟩ : ∃ b1, b1 = World.size w := ⟨_, rfl⟩
 obtain ⟨w1, hw_w1⟩ : ∃ w1, w1 = World.alloc w (.cells #[.map m1] 131) := ⟨_, rfl⟩
 replace h := h b1 hb_b1 w1 hw_w1
 refine LW.val hL rfl (Wants.free rfl) rfl (boxE hb_b1 hw_w1 (Vl.box (v := .map m1) rfl)) ?_
 refine LW.rd hL rfl (Wants.free rfl) rfl (Rd.assign (v := .nilFunc) rfl) ?_
 refine LW.nil hL rfl ?_
 refine NW.then ?_
 refine CW.seq ?_
 refine CW.region fun L hL => ?_
 refine LW.rd hL rfl (Wants.free rfl) rfl (Rd.makeFunc rfl) ?_
 refine LW.rd hL rfl (Wants.free rfl) rfl (Rd.assign (v := .func (.func 112) #[] #[.pointer (some (⟨b1, 0, none⟩ : Addr))]) rfl) ?_
 refine LW.nil hL rfl ?_
 refine NW.then ?_
 refine CW.ret ?_
 exact res1 rfl rfl ⟨.func (.func 112) #[] #[.pointer (some (⟨b1, 0, none⟩ : Addr))], rfl, h⟩
end Go.Proofs.YtfcfkhbkkfpehaaGreatDoor
end
section
/- slices.AppendSeq, slices.Collect over iterators of ints. -/
namespace Go.Proofs.YtfcfkhbkkfpehaaGreatDoor
open Go Go.RowKit Go.X Go.XR
theorem _root_.Go.XR.Iterates.later {α : Type} {P : Program} {fv : Value} {enc : α → Array Value} {S Sp : List α → Prop} {keep : List Nat} {w w1 : World} (h : Iterates P fv enc S Sp keep w) (hc : Chg [] w w1) : Iterates P fv enc S Sp keep w1 :=
 fun W yv I Ix hW => h W yv I Ix (hc.trans0 hW)
theorem append_seq {w : World} {fv : Value} {S Sp : List Int → Prop} {keep : List Nat} (hf : IsFn Tryz.prog fv) (hi : Iterates Tryz.prog fv (fun x : Int => #[.int .i64 x]) S Sp keep w) (hk : ∀ i ∈ keep, i < w.heap.size)
  (hle : ∀ pre, Sp pre → pre.length ≤ 1000000) :
  Calls Tryz.prog 123 #[.slice none 0 0, fv] w fun e w' => ∃ (p : Option Addr) (n c : Nat), e = .returned (.slice p n c) ∧ ∃ xs, S xs ∧ n = xs.length ∧ RowAt w' 3 1 p n c (xs.map (Value.int .i64)) ∧ Chg [] w w' ∧ ∀ b ∈ rowB p, w.heap.size ≤ b := by
 refine go_slices_AppendSeq_577 _ _ _ _ _ _ ?_
 unfold W_slices_AppendSeq_577
 rintro b1 w1 ⟨hb1, hb2⟩ c1
 have s1 := c1.size
 refine ⟨S, Sp, keep, hf, hi.later c1, fun i h => Nat.lt_of_lt_of_le (hk i h) s1,
  fun p n c O pre w' => n = pre.length ∧ RowAt w' 3 1 p n c (pre.map (Value.int .i64)) ∧ (∀ b ∈ rowB p, b ∉ O ∧ w1.heap.size ≤ b) ∧ Chg [] w w' ∧ w1.heap.size ≤ w'.heap.size, ?_, ?_, ?_, ?_⟩
 ·rintro p n c pre O O' A B ⟨k1, k2, k3, k4, k5⟩ hO hc hO' hg
  have hsz := hc.size
  refine ⟨k1, k2.chg hc (fun b hb => (k3 b hb).1), fun b hb => ⟨fun hm => ?_, (k3 b hb).2⟩, k4.trans hc (fun i hi hlt => by have := (hO i hi).1; omega), by omega⟩
  rcases hg _ hm with h | h
  ·exact (k3 b hb).1 h
  ·have := k2.lt b hb; omega
 ·intro O w2 c2 hO
  exact ⟨rfl, RowAt.nil, by simp [rowB], c1.trans0 c2, c2.size⟩
 ·rintro l1 O pre x p n c w2 hO hl1 hsp ⟨k1, k2, k3, k4, k5⟩ w3 c3
  have s3 := c3.size
  have hl := hO l1 hl1
  have hlp : ∀ b ∈ rowB p, b ∉ [l1] := fun b hb hm => by simp at hm; subst hm; exact (k3 _ hb).1 hl1
  refine v_alloc fun b2 w4 e2 hb2' c4 => ?_
  have s4 := c4.size
  have hlen := hle _ hsp
  simp at hlen
  have hr4 : RowAt w4 3 1 p n c (pre.map (Value.int .i64)) := (k2.chg c3 hlp).chg c4 (by simp)
  obtain ⟨p', c', w5, hrun, hr5, c5, hnew⟩ := hr4.append (P := Tryz.prog) (t := 171) (ty := 171) (i := Tryz.t3) (z := .int .i64 0) (bytes := 8) (by kernel_rfl) (by kernel_rfl) (by kernel_rfl) (by kernel_rfl) (by kernel_rfl) rfl (by omega) (a := ⟨b2, 0, none⟩) (m := 1) (mc := 1) (news := [Value.int .i64 x]) (by simp)
   (fun j u hj => by
    cases j with
    | zero => simp at hj; subst hj; rw [add_at, cell_of hb2']; rfl
    | succ j => simp at hj) (by simp; rfl) (by subst k1; unfold maxLen; omega) (by omega)
  have s5 := c5.size
  refine ⟨p', n + 1, c', w5, hrun, Same.of c5 (fun b hb => ⟨by simp at hb; omega, fun hm => by simp at hb; have := (k3 _ hm).2; omega⟩), fun w6 c6 => ?_⟩
  have s6 := c6.size
  have hnew' : ∀ b ∈ rowB p', b ∉ O ∧ w1.heap.size ≤ b := fun b hb => by
   rcases hnew b hb with h | h
   ·exact k3 b h
   ·exact ⟨fun hm => by have := (hO _ hm).2; omega, by omega⟩
  have c46 : Chg (b1 :: rowB p) w4 w6 := (c5.mono (fun i hi _ => List.mem_cons_of_mem _ hi)).trans c6 (fun i hi _ => by simp at hi; simp [hi])
  have c36 : Chg (b1 :: rowB p) w3 w6 := (c4.nil (f := b1 :: rowB p)).trans c46 (fun i hi _ => hi)
  refine ⟨by omega, ⟨by simp [k1], ?_, hnew', ?_, by omega⟩, ?_⟩
  ·rw [List.map_append]
   exact hr5.chg c6 (fun b hb hm => by simp at hm; have := (hnew' b hb).2; omega)
  ·have c03 : Chg [] w w3 := k4.trans c3 (fun i hi hlt => by simp at hi; omega)
   exact c03.trans c36 (fun i hi hlt => by
    rcases List.mem_cons.1 hi with h | h
    ·omega
    ·have := (k3 i h).2; omega)
  ·refine Same.of c36 (fun b hb => ?_)
   rcases List.mem_append.1 hb with h | h
   ·have := hk b h
    refine ⟨by omega, fun hm => ?_⟩
    rcases List.mem_cons.1 hm with h | h
    ·omega
    ·have := (k3 b h).2; omega
   ·have := hO b h
    refine ⟨by omega, fun hm => ?_⟩
    rcases List.mem_cons.1 hm with h' | h'
    ·omega
    ·exact (k3 b h').1 h
 ·rintro d O xs p n c w7 hO hd hS ⟨k1, k2, k3, k4, k5⟩ w8 c8
  exact ⟨xs, hS, k1, k2.chg c8 (fun b hb hm => by simp at hm; subst hm; exact (k3 _ hb).1 hd), k4.trans c8 (fun i hi hlt => by simp at hi; subst hi; have := (hO _ hd).1; omega), fun b hb => by have := (k3 b hb).2; omega⟩
theorem collect {w : World} {fv : Value} {S Sp : List Int → Prop} {keep : List Nat} (hf : IsFn Tryz.prog fv) (hi : Iterates Tryz.prog fv (fun x : Int => #[.int .i64 x]) S Sp keep w) (hk : ∀ i ∈ keep, i < w.heap.size)
  (hle : ∀ pre, Sp pre → pre.length ≤ 1000000) :
  Calls Tryz.prog 110 #[fv] w fun e w' => ∃ (p : Option Addr) (n c : Nat), e = .returned (.slice p n c) ∧ ∃ xs, S xs ∧ n = xs.length ∧ RowAt w' 3 1 p n c (xs.map (Value.int .i64)) ∧ Chg [] w w' ∧ ∀ b ∈ rowB p, w.heap.size ≤ b := by
 refine go_slices_Collect_61 _ _ _ ?_
 unfold W_slices_Collect_61
 refine (append_seq hf hi hk hle).mono ?_
 rintro _ w1 ⟨p, n, c, rfl, xs, h⟩
 exact ⟨p, n, c, rfl, xs, h⟩
end Go.Proofs.YtfcfkhbkkfpehaaGreatDoor
end
section
/- slices.Sort over ints (by the shelf's contract), slices.Sorted. -/
namespace Go.Proofs.YtfcfkhbkkfpehaaGreatDoor
open Go Go.RowKit Go.X Go.XR Go.Shelf
/-! The shelf's laying of slices.Sort (written by the kit's lay-plain) -/
def sortA_ren : Go.Shelf.Ren := ⟨fun | 5 => 111 | 8 => 77 | 7 => 124 | 19 => 101 | 20 => 102 | 10 => 128 | 11 => 129 | 12 => 130 | 13 => 131 | 14 => 132 | 15 => 133 | 16 => 134 | 17 => 135 | 18 => 136 | 30 => 137 | 31 => 114 | 32 => 115 | 33 => 138 | 34 => 139 | 35 => 79 | 40 => 140 | n => n, fun | 23 => 171 | 25 => 3 | 3 => 3 | 32 => 163 | 22 => 171 | 0 => 0 | 44 => 43 | 46 => 184 | 4 => 4 | 36 => 178 | 35 => 177 | 41 => 166 | 5 => 5 | 9 => 9 | 53 => 194 | 57 => 198 | 63 => 207 | 64 => 208 | n => n, fun | n => n⟩
theorem sortA : Go.Proofs.SlLaysM.n5 Tryz.prog sortA_ren := {
 mixed := by kernel_rfl
 f5 := ⟨Tryz.f111.name, by decide, Tryz.func111.trans (congrArg some (by kernel_rfl))⟩
 f7 := ⟨Tryz.f124.name, by decide, Tryz.func124.trans (congrArg some (by kernel_rfl))⟩
 f8 := Tryz.func77.trans (congrArg some (by kernel_rfl))
 f10 := ⟨Tryz.f128.name, by decide, Tryz.func128.trans (congrArg some (by kernel_rfl))⟩
 f11 := ⟨Tryz.f129.name, by decide, Tryz.func129.trans (congrArg some (by kernel_rfl))⟩
 f12 := ⟨Tryz.f130.name, by decide, Tryz.func130.trans (congrArg some (by kernel_rfl))⟩
 f13 := ⟨Tryz.f131.name, by decide, Tryz.func131.trans (congrArg some (by kernel_rfl))⟩
 f14 := ⟨Tryz.f132.name, by decide, Tryz.func132.trans (congrArg some (by kernel_rfl))⟩
 f15 := ⟨Tryz.f133.name, by decide, Tryz.func133.trans (congrArg some (by kernel_rfl))⟩
 f16 := ⟨Tryz.f134.name, by decide, Tryz.func134.trans (congrArg some (by kernel_rfl))⟩
 f17 := ⟨Tryz.f135.name, by decide, Tryz.func135.trans (congrArg some (by kernel_rfl))⟩
 f18 := ⟨Tryz.f136.name, by decide, Tryz.func136.trans (congrArg some (by kernel_rfl))⟩
 f19 := Tryz.func101.trans (congrArg some (by kernel_rfl))
 f20 := Tryz.func102.trans (congrArg some (by kernel_rfl))
 f30 := ⟨Tryz.f137.name, by decide, Tryz.func137.trans (congrArg some (by kernel_rfl))⟩
 f31 := Tryz.func114.trans (congrArg some (by kernel_rfl))
 f32 := Tryz.func115.trans (congrArg some (by kernel_rfl))
 f33 := ⟨Tryz.f138.name, by decide, Tryz.func138.trans (congrArg some (by kernel_rfl))⟩
 f34 := ⟨Tryz.f139.name, by decide, Tryz.func139.trans (congrArg some (by kernel_rfl))⟩
 f35 := ⟨Tryz.f79.name, by decide, Tryz.func79.trans (congrArg some (by kernel_rfl))⟩
 f40 := ⟨Tryz.f140.name, by decide, Tryz.func140.trans (congrArg some (by kernel_rfl))⟩
 t0 := Tryz.underlying0
 a0 := Tryz.isAgg0
 z0 := Tryz.sizeOf0
 v0 := Tryz.zeroValue0
 t3 := Tryz.underlying3
 a3 := Tryz.isAgg3
 z3 := Tryz.sizeOf3
 v3 := Tryz.zeroValue3
 t4 := Tryz.underlying4
 a4 := Tryz.isAgg4
 z4 := Tryz.sizeOf4
 v4 := Tryz.zeroValue4
 t5 := Tryz.underlying5
 a5 := Tryz.isAgg5
 z5 := Tryz.sizeOf5
 v5 := Tryz.zeroValue5
 t9 := Tryz.underlying9
 a9 := Tryz.isAgg9
 z9 := Tryz.sizeOf9
 v9 := Tryz.zeroValue9
 t22 := Tryz.underlying171
 a22 := Tryz.isAgg171
 z22 := Tryz.sizeOf171
 v22 := Tryz.zeroValue171
 t23 := Tryz.underlying171
 a23 := Tryz.isAgg171
 z23 := Tryz.sizeOf171
 v23 := Tryz.zeroValue171
 t25 := Tryz.underlying3
 a25 := Tryz.isAgg3
 z25 := Tryz.sizeOf3
 v25 := Tryz.zeroValue3
 t32 := Tryz.underlying163
 a32 := Tryz.isAgg163
 z32 := Tryz.sizeOf163
 v32 := Tryz.zeroValue163
 t35 := Tryz.underlying177
 a35 := Tryz.isAgg177
 z35 := Tryz.sizeOf177
 v35 := Tryz.zeroValue177
 t36 := Tryz.underlying178
 a36 := Tryz.isAgg178
 z36 := Tryz.sizeOf178
 v36 := Tryz.zeroValue178
 t41 := Tryz.underlying166
 a41 := Tryz.isAgg166
 z41 := Tryz.sizeOf166
 v41 := Tryz.zeroValue166
 t44 := Tryz.underlying43
 a44 := Tryz.isAgg43
 z44 := Tryz.sizeOf43
 v44 := Tryz.zeroValue43
 t46 := Tryz.underlying184
 a46 := Tryz.isAgg184
 z46 := Tryz.sizeOf184
 v46 := Tryz.zeroValue184
 t53 := Tryz.underlying194
 a53 := Tryz.isAgg194
 z53 := Tryz.sizeOf194
 v53 := Tryz.zeroValue194
 t57 := Tryz.underlying198
 a57 := Tryz.isAgg198
 z57 := Tryz.sizeOf198
 v57 := Tryz.zeroValue198
 t63 := Tryz.underlying207
 a63 := Tryz.isAgg207
 z63 := Tryz.sizeOf207
 v63 := Tryz.zeroValue207
 t64 := Tryz.underlying208
 a64 := Tryz.isAgg208
 z64 := Tryz.sizeOf208
 v64 := Tryz.zeroValue208 }
theorem sort_ints {w : World} {p : Option Addr} {n c : Nat} {xs : List Int} (h : RowAt w 3 1 p n c (xs.map (Value.int .i64))) (hn : n = xs.length) (hle : n ≤ 1000000) :
  Calls Tryz.prog 111 #[.slice p n c] w fun e w' => e = .returned (.tuple #[]) ∧ RowAt w' 3 1 p n c ((xs.mergeSort fun x y => decide (x ≤ y)).map (Value.int .i64)) ∧ Chg (rowB p) w w' := by
 subst hn
 rcases h.2 with ⟨hv, hz⟩ | ⟨g, cap, cur, hv, hb, hg, h1, h2, h3, h4⟩
 ·obtain rfl : xs = [] := List.eq_nil_of_length_eq_zero hz
  cases hv
  refine (AnyM.slices_Sort_int_none sortA none 0 w).mono ?_
  rintro e w' ⟨rfl, rfl⟩
  exact ⟨rfl, by simpa using h, Chg.refl _ _⟩
 ·cases hv
  refine (AnyM.slices_Sort_int sortA g 0 c xs w (holds_of_blockI hg (by simpa using h4)) (lt_of_heap hg) (by omega)).mono ?_
  rintro e w' ⟨rfl, nn, os, rfl⟩
  refine ⟨rfl, ?_, ?_⟩
  ·exact ownsRow_sortedI (by simp) (Nat.zero_le _) hg h1 h2 h3
  ·obtain ⟨k1, k2, k3, k4, k5⟩ := grownBy_sortedI (w := w) (g := g) (n := nn) (os := os) (xs.mergeSort fun x y => decide (x ≤ y)).toArray
   exact ⟨k1, k2, k3, k4, fun k hk hf => k5 k hk (fun e => hf (by simp [rowB] at e ⊢; omega))⟩
theorem sorted {w : World} {fv : Value} {S Sp : List Int → Prop} {keep : List Nat} (hf : IsFn Tryz.prog fv) (hi : Iterates Tryz.prog fv (fun x : Int => #[.int .i64 x]) S Sp keep w) (hk : ∀ i ∈ keep, i < w.heap.size)
  (hle : ∀ pre, Sp pre → pre.length ≤ 1000000) (hSp : ∀ xs, S xs → Sp xs) :
  Calls Tryz.prog 91 #[fv] w fun e w' => ∃ (p : Option Addr) (n c : Nat), e = .returned (.slice p n c) ∧ ∃ xs, S xs ∧ n = xs.length ∧ RowAt w' 3 1 p n c ((xs.mergeSort fun x y => decide (x ≤ y)).map (Value.int .i64)) ∧ Chg [] w w' ∧ ∀ b ∈ rowB p, w.heap.size ≤ b := by
 refine go_slices_Sorted_61 _ _ _ ?_
 unfold W_slices_Sorted_61
 refine (collect hf hi hk hle).mono ?_
 rintro _ w1 ⟨p, n, c, rfl, xs, hS, hn, hr, c1, hb⟩
 refine ⟨p, n, c, rfl, ?_⟩
 refine (sort_ints hr hn (by have := hle _ (hSp _ hS); omega)).mono ?_
 rintro _ w2 ⟨rfl, hr2, c2⟩
 exact ⟨rfl, xs, hS, hn, hr2, c1.trans c2 (fun i hi hlt => by have := hb i hi; omega), hb⟩
end Go.Proofs.YtfcfkhbkkfpehaaGreatDoor
end
section
/- Shadows: Copy. -/
namespace Go.Proofs.YtfcfkhbkkfpehaaGreatDoor
open Go Go.RowKit Go.X Go.XR
theorem maps_all (w : World) (m : Option Nat) : Calls Tryz.prog 71 #[.map m] w fun e w' => ∃ r : Value, e = .returned r ∧ ∃ cb, r = .func (.func 89) #[] #[.pointer (some ⟨cb, 0, none⟩)] ∧ cb = w.heap.size ∧ w'.heap[cb]? = some (.cells #[.map m] 131 (0, 0)) ∧ Chg [] w w' := by
 refine go_maps_All_0 _ _ _ ?_
 unfold W_maps_All_0
 exact v_alloc fun b w1 e h c => ⟨b, rfl, e, h, c⟩
theorem PageC.ones {w : World} {q : Nat} {n : Int} {s : Nat → Int} {c : Array Value} (h1 : c.size = 65) (h2 : c[0]? = some (.int .i64 n)) (h3 : ∀ i, i < 64 → c[1 + i]? = some (.int .u32 (s i))) : ∀ v ∈ c.toList, Value.oneCell' v = true := by
 intro v hv
 obtain ⟨j, hj⟩ := List.getElem?_of_mem hv
 have hlt : j < c.toList.length := (List.getElem?_eq_some_iff.1 hj).1
 simp at hlt
 cases j with
 | zero =>
  have : c[0]? = some v := by simpa using hj
  rw [h2] at this; cases this; rfl
 | succ j =>
  have : c[1 + j]? = some v := by rw [Nat.add_comm]; simpa using hj
  rw [h3 j (by omega)] at this; cases this; rfl
theorem shadow_copy {w : World} {b : Nat} {pages : Int} {g : Int → Int} {fp : List Nat} (h : ShadowAt w b pages g fp) :
  Calls Tryz.prog 48 #[.pointer (some ⟨b, 0, none⟩)] w fun e w' => ∃ r1 : Option Addr, e = .returned (.pointer r1) ∧ (∃ b' fp', r1 = some ⟨b', 0, none⟩ ∧ ShadowAt w' b' pages g fp' ∧ Chg [] w w' ∧ ∀ i ∈ fp', w.heap.size ≤ i) := by
 obtain ⟨r, l, h1, h2, h3, h4, rfl⟩ := h.there
 have hlt := h.lt
 refine go_shadow_Shadow_Copy _ _ _ ?_
 unfold W_shadow_Shadow_Copy
 refine (shadow_none h).mono ?_
 rintro _ w1 ⟨_, rfl, rfl, hw⟩
 subst w1
 refine ⟨_, rfl, fun h => by simp at h, fun _ => ⟨_, rfl, pages, by rw [cell_of h1]; rfl, ?_⟩⟩
 refine v_alloc fun b1 w2 e1 hb1 c2 => ?_
 refine v_alloc fun b2 w3 e2 hb2 c3 => ?_
 refine v_alloc fun b3 w4 e3 hb3 c4 => ?_
 refine v_set0 hb3 (by simp) fun w5 hb35 c5 s5 => ?_
 have s2 := c2.size
 have s3 := c3.size
 have s4 := c4.size
 have l2 : b1 < w2.heap.size := lt_of_heap hb1
 have l3 : b2 < w3.heap.size := lt_of_heap hb2
 have l4 : b3 < w4.heap.size := lt_of_heap hb3
 have c05 : Chg [] w w5 := ((c2.trans0 c3).trans0 c4).trans c5 (fun i hi hlt => by simp at hi; omega)
 have hh5 := c05.obj (by simp) h1
 have hb15 := c5.obj (by simp; omega) (c4.obj (by simp) (c3.obj (by simp) hb1))
 have hb25 := c5.obj (by simp; omega) (c4.obj (by simp) hb2)
 refine ⟨some r, by rw [add_at, cell_of hh5]; rfl, ?_⟩
 refine (maps_all w5 (some r)).mono ?_
 rintro _ w6 ⟨_, rfl, cb, rfl, ecb, hcb, c6⟩
 have s6 := c6.size
 have c06 := c05.trans0 c6
 have hm6 := h2.chg c06 (by simp)
 have hcbl : cb < w6.heap.size := lt_of_heap hcb
 have hrl : r < w6.heap.size := hm6.lt
 refine ⟨_, rfl, allS pgF l, allSp pgF l, [cb, r], isFn118 cb, iterates_all hcb hm6, by simp; exact ⟨hcbl, hrl⟩,
  fun O pre w' => ∃ l' : List (Int × Nat), l'.map Prod.fst = pre.map Prod.fst ∧ MapIs w' b1 (fun n : Int => .int .i64 n) encPg l' ∧ (∀ x ∈ l', PageC w' x.2 (many (pg g x.1)) (pg g x.1) ∧ x.2 ∉ O ∧ w6.heap.size ≤ x.2) ∧ (l'.map Prod.snd).Nodup ∧
   w'.heap[b2]? = some (.cells #[.int .i64 pages, .map (some b1)] 133 (0, 0)) ∧ w'.heap[b3]? = some (.cells #[.pointer (some ⟨b2, 0, none⟩)] 96 (0, 0)) ∧ Chg [] w w' ∧ w6.heap.size ≤ w'.heap.size, ?_, ?_, ?_, ?_⟩
 ·rintro pre O O' A B ⟨l', k1, k2, k3, k4, k5, k6, k7, k8⟩ hO hc hO' hg
  have hn : ∀ {i : Nat}, i < w6.heap.size → i ∉ O := fun hi hm => by have := (hO _ hm).1; omega
  have hsz := hc.size
  refine ⟨l', k1, k2.chg hc (hn (by omega)), fun x hx => ?_, k4, hc.obj (hn (by omega)) k5, hc.obj (hn (by omega)) k6, k7.trans hc (fun i hi hlt => by have := (hO i hi).1; omega), by omega⟩
  obtain ⟨a1, a2, a3⟩ := k3 x hx
  refine ⟨a1.chg hc a2, fun hm => ?_, a3⟩
  rcases hg _ hm with h | h
  ·exact a2 h
  ·have := a1.lt; omega
 ·intro O w7 c7 hO
  exact ⟨[], rfl, ⟨#[], 0, c7.obj (by simp) (c6.obj (by simp) hb15), rfl, by simp, by simp, by simp⟩, by simp, by simp, c7.obj (by simp) (c6.obj (by simp) hb25), c7.obj (by simp) (c6.obj (by simp) hb35), c06.trans0 c7, c7.size⟩
 ·rintro l1 O pre x1 x2 w7 hO hl1 ⟨done, hd, hdn, hds⟩ ⟨l', k1, k2, k3, k4, k5, k6, k7, k8⟩ w8 c8
  have hn : ∀ {i : Nat}, i < w6.heap.size → i ∉ [l1] := fun hi hm => by simp at hm; subst hm; have := (hO _ hl1).1; omega
  have s8 := c8.size
  -- the element
  obtain ⟨k, v, done', hdd, hx1, hx2, hpre⟩ : ∃ (k : Int) (v : Nat) (done' : List (Int × Nat)), done = done' ++ [(k, v)] ∧ x1 = k ∧ x2 = some ⟨v, 0, none⟩ ∧ pre = done'.map pgF := by
   have hne : done ≠ [] := by rintro rfl; simp at hd
   obtain ⟨done', y, rfl⟩ : ∃ d' y, done = d' ++ [y] := ⟨done.dropLast, done.getLast hne, (List.dropLast_concat_getLast hne).symm⟩
   rw [List.map_append] at hd
   have := List.append_inj' hd rfl
   have h2' : (x1, x2) = pgF y := by simpa using this.2
   exact ⟨y.1, y.2, done', rfl, congrArg Prod.fst h2', congrArg Prod.snd h2', this.1⟩
  subst hdd hx1 hx2 hpre
  have hkl : (x1, v) ∈ l := hds _ (by simp)
  have hknew : x1 ∉ done'.map Prod.fst := fun hm => by
   rw [List.map_append, List.nodup_append] at hdn
   exact hdn.2.2 _ hm x1 (by simp) rfl
  obtain ⟨v0, v1, ⟨c, p1, p2, p3, p4⟩, vm⟩ := h3 _ hkl
  simp only [] at v0 v1 p1 p3 p4
  have c08 : Chg [] w w8 := k7.trans c8 (fun i hi hlt => by simp at hi; subst hi; have := (hO _ hl1).1; omega)
  have hp8 := c08.obj (by simp) p1
  refine ⟨_, rfl, c.toList, by simp [p2], cellsAt_of (by simpa using hp8), ?_⟩
  refine v_alloc fun b4 w9 e4 hb4 c9 => ?_
  have s9 := c9.size
  have l9 : b4 < w9.heap.size := lt_of_heap hb4
  refine ⟨PageC.ones (w := w) (q := v) p2 p3 p4, ?_⟩
  refine v_fill hb4 (by simp [z155_XG3, p2]) (by simp [z155_XG3]) fun w10 hb410 c10 s10 => ?_
  have c810 : Chg [] w8 w10 := c9.trans c10 (fun i hi hlt => by simp at hi; omega)
  have hb310 := c810.obj (by simp) (c8.obj (hn (by omega)) k6)
  have hb210 := c810.obj (by simp) (c8.obj (hn (by omega)) k5)
  refine ⟨_, by rw [cell_of hb310]; rfl, _, rfl, some b1, by rw [add_at, cell_of hb210]; rfl, ?_⟩
  have hm10 := (k2.chg c8 (hn (by omega))).chg c810 (by simp)
  obtain ⟨w11, hu, c11, hs11, hm11⟩ := hm10.update (P := Tryz.prog) (T := 131) u173 keyInt x1 b4
  refine ⟨w11, hu, by omega, ?_, ?_⟩
  ·have hknone : lookK x1 l' = none := lookK_none.2 fun p hp e => by
    have : p.1 ∈ l'.map Prod.fst := List.mem_map.2 ⟨p, hp, rfl⟩
    rw [k1, List.map_map] at this
    exact hknew (e ▸ (by simpa [pgF, Function.comp_def] using this))
   have hupd : upd x1 b4 l' = l' ++ [(x1, b4)] := by unfold upd; rw [hknone]; rfl
   rw [hupd] at hm11
   refine ⟨l' ++ [(x1, b4)], by simp [k1], hm11, fun x hx => ?_, ?_, c11.obj (by simp; omega) hb210, c11.obj (by simp; omega) hb310, (c08.trans0 c810).trans c11 (fun i hi hlt => by simp at hi; omega), by omega⟩
   ·rcases List.mem_append.1 hx with hx | hx
    ·obtain ⟨a1, a2, a3⟩ := k3 x hx
     exact ⟨((a1.chg c8 (fun hm => by simp at hm; exact a2 (hm ▸ hl1))).chg c810 (by simp)).chg c11 (by simp; omega), a2, a3⟩
    ·simp at hx; subst hx
     refine ⟨⟨c, c11.obj (by simp; omega) (by simpa using hb410), p2, p3, p4⟩, fun hm => ?_, by simp only []; omega⟩
     have := (hO _ hm).2; omega
   ·rw [List.map_append, List.nodup_append]
    refine ⟨k4, by simp, fun a ha b' hb' e => ?_⟩
    simp at hb'; subst hb'; subst e
    obtain ⟨x, hx, rfl⟩ := List.mem_map.1 ha
    have := (k3 x hx).1.lt; omega
  ·intro i hi
   have hi' : i < w8.heap.size ∧ i ≠ b1 := by
    rcases List.mem_append.1 hi with hi | hi
    ·simp at hi; rcases hi with rfl | rfl
     ·exact ⟨by omega, by omega⟩
     ·have := h2.lt; exact ⟨by omega, by omega⟩
    ·have := hO i hi; exact ⟨by omega, by omega⟩
   rw [c11.block i (by have := c810.size; omega) (by simpa using hi'.2), c810.block i hi'.1 (by simp)]
 ·rintro d1 O xs w12 hO hd1 ⟨done, rfl, hdn, hds, hda⟩ ⟨l', k1, k2, k3, k4, k5, k6, k7, k8⟩
  refine ⟨_, by rw [cell_of k6]; rfl, fun w13 c13 => ?_⟩
  have hn : ∀ {i : Nat}, i < w6.heap.size → i ∉ [d1] := fun hi hm => by simp at hm; subst hm; have := (hO _ hd1).1; omega
  have hkeys : ∀ n, n ∈ l'.map Prod.fst ↔ n ∈ l.map Prod.fst := fun n => by
   rw [k1, List.map_map]
   constructor
   ·intro hm
    obtain ⟨x, hx, e⟩ := List.mem_map.1 hm
    exact List.mem_map.2 ⟨x, hds x hx, e⟩
   ·intro hm
    obtain ⟨x, hx, e⟩ := List.mem_map.1 hm
    exact List.mem_map.2 ⟨x, hda x hx, e⟩
  have hget : ∀ x ∈ l', ∃ y ∈ l, y.1 = x.1 := fun x hx => by
   have := (hkeys x.1).1 (List.mem_map.2 ⟨x, hx, rfl⟩)
   obtain ⟨y, hy, e⟩ := List.mem_map.1 this
   exact ⟨y, hy, e⟩
  refine ⟨b2, b2 :: b1 :: l'.map Prod.snd, rfl, ⟨⟨b1, l', c13.obj (hn (by omega)) k5, k2.chg c13 (hn (by omega)), fun x hx => ?_, fun n hnone i hi => ?_, rfl⟩, ?_, h.pages1, h.pages2, h.each⟩, k7.trans c13 (fun i hi hlt => by simp at hi; subst hi; have := (hO _ hd1).1; omega), fun i hi => ?_⟩
  ·obtain ⟨a1, a2, a3⟩ := k3 x hx
   obtain ⟨y, hy, e⟩ := hget x hx
   obtain ⟨q1, q2, q3, q4⟩ := h3 y hy
   rw [e] at q1 q2 q4
   exact ⟨q1, q2, a1.chg c13 (fun hm => by simp at hm; exact a2 (hm ▸ hd1)), q4⟩
  ·refine h4 n (lookK_none.2 fun p hp e => ?_) i hi
   have := (hkeys n).2 (List.mem_map.2 ⟨p, hp, e⟩)
   obtain ⟨x, hx, e'⟩ := List.mem_map.1 this
   exact lookK_none.1 hnone x hx e'
  ·simp only [List.nodup_cons, List.mem_cons, not_or]
   refine ⟨⟨by omega, fun hm => ?_⟩, fun hm => ?_, k4⟩
   ·obtain ⟨x, hx, e⟩ := List.mem_map.1 hm
    have := (k3 x hx).2.2; omega
   ·obtain ⟨x, hx, e⟩ := List.mem_map.1 hm
    have := (k3 x hx).2.2; omega
  ·simp only [List.mem_cons] at hi
   rcases hi with rfl | rfl | hi
   ·omega
   ·omega
   ·obtain ⟨x, hx, e⟩ := List.mem_map.1 hi
    have := (k3 x hx).2.2; omega
end Go.Proofs.YtfcfkhbkkfpehaaGreatDoor
end
section
/- Shadows: All. -/
namespace Go.Proofs.YtfcfkhbkkfpehaaGreatDoor
open Go Go.RowKit Go.X Go.XR
/-! ### The plain law: what is told -/
def one (g : Int → Int) (n : Int) (i : Nat) : List (Int × Int) := if pg g n i = 0 then [] else [(64 * n + i, pg g n i)]
def pgL (g : Int → Int) (n : Int) (k : Nat) : List (Int × Int) := (List.range k).flatMap (one g n)
def someL (g : Int → Int) (k : Nat) : List (Int × Int) := (List.range k).flatMap fun i : Nat => if g i = 0 then [] else [((i : Int), g i)]
theorem pgL_succ (g : Int → Int) (n : Int) (k : Nat) : pgL g n (k + 1) = pgL g n k ++ one g n k := by simp [pgL, List.range_succ]
theorem pgL_none {g : Int → Int} {n : Int} (h : ∀ i, i < 64 → pg g n i = 0) : pgL g n 64 = [] := by
 unfold pgL
 rw [List.flatMap_eq_nil_iff]
 intro i hi
 simp [one, h i (List.mem_range.1 hi)]
theorem someL_add (g : Int → Int) (k m : Nat) : someL g (k + m) = someL g k ++ (List.range m).flatMap fun i : Nat => if g (k + i) = 0 then [] else [((k : Int) + i, g (k + i))] := by
 unfold someL
 rw [List.range_add, List.flatMap_append, List.flatMap_map]
 simp
theorem someL_page (g : Int → Int) (n : Nat) : someL g (64 * (n + 1)) = someL g (64 * n) ++ pgL g n 64 := by
 rw [Nat.mul_succ, someL_add]
 unfold pgL one pg
 simp
theorem someL_pages (g : Int → Int) (n : Nat) : someL g (64 * n) = (List.range n).flatMap fun i : Nat => pgL g i 64 := by
 induction n with
 | zero => rfl
 | succ n ih => rw [someL_page, List.range_succ, List.flatMap_append, ih]; simp
theorem sorted_ext {a b : List Int} (ha : a.Pairwise (· < ·)) (hb : b.Pairwise (· < ·)) (h : ∀ x, x ∈ a ↔ x ∈ b) : a = b := by
 induction a generalizing b with
 | nil => cases b with
  | nil => rfl
  | cons y b => exact absurd ((h y).2 (by simp)) (by simp)
 | cons x a ih =>
  cases b with
  | nil => exact absurd ((h x).1 (by simp)) (by simp)
  | cons y b =>
   rw [List.pairwise_cons] at ha hb
   have hxy : x = y := by
    rcases List.mem_cons.1 ((h x).1 (by simp)) with e | hx
    ·exact e
    ·rcases List.mem_cons.1 ((h y).2 (by simp)) with e | hy
     ·exact e.symm
     ·have := ha.1 y hy; have := hb.1 x hx; omega
   subst hxy
   rw [ih ha.2 hb.2 fun z => ?_]
   constructor
   ·intro hz
    rcases List.mem_cons.1 ((h z).1 (by simp [hz])) with e | h'
    ·have := ha.1 z hz; omega
    ·exact h'
   ·intro hz
    rcases List.mem_cons.1 ((h z).2 (by simp [hz])) with e | h'
    ·have := hb.1 z hz; omega
    ·exact h'
theorem flatMap_filter {α β : Type} (p : α → Bool) (f : α → List β) (l : List α) (h : ∀ x ∈ l, p x = false → f x = []) : (l.filter p).flatMap f = l.flatMap f := by
 induction l with
 | nil => rfl
 | cons a l ih =>
  have ih := ih fun x hx => h x (by simp [hx])
  cases hp : p a with
  | true => simp [hp, ih]
  | false => simp [hp, ih, h a (by simp) hp]
theorem sort_strict {ks : List Int} (hn : ks.Nodup) : (ks.mergeSort fun x y => decide (x ≤ y)).Pairwise (· < ·) := by
 have h1 := List.pairwise_mergeSort (le := fun x y : Int => decide (x ≤ y)) (fun a b c h1 h2 => by simp at *; omega) (fun a b => by simp; omega) ks
 have h2 : (ks.mergeSort fun x y => decide (x ≤ y)).Nodup := (List.mergeSort_perm ks _).nodup_iff.2 hn
 exact (h1.and h2).imp fun {a b} h => by have := h.1; have := h.2; simp at *; omega
theorem keys_all {g : Int → Int} {pages : Int} {l : List (Int × Nat)} {xs : List Int} (hx : allS Prod.fst l xs) (hp : ∀ x ∈ l, 0 ≤ x.1 ∧ x.1 < pages) (hnone : ∀ n, lookK n l = none → ∀ i, i < 64 → pg g n i = 0) :
  (xs.mergeSort fun x y => decide (x ≤ y)).flatMap (fun n => pgL g n 64) = someL g (64 * pages.toNat) := by
 obtain ⟨done, rfl, hn, h1, h2⟩ := hx
 have hmem : ∀ n : Int, n ∈ done.map Prod.fst ↔ (lookK n l).isSome = true := fun n => by
  constructor
  ·intro h
   obtain ⟨x, hx, rfl⟩ := List.mem_map.1 h
   cases hl : lookK x.1 l with
   | none => exact absurd rfl (lookK_none.1 hl x (h1 x hx))
   | some v => rfl
  ·intro h
   obtain ⟨v, hv⟩ := Option.isSome_iff_exists.1 h
   exact List.mem_map.2 ⟨(n, v), h2 _ (lookK_mem hv), rfl⟩
 have e1 : (done.map Prod.fst).mergeSort (fun x y => decide (x ≤ y)) = ((List.range pages.toNat).map (fun i : Nat => (i : Int))).filter fun n => (lookK n l).isSome := by
  refine sorted_ext (sort_strict hn) (List.Pairwise.filter _ ?_) fun n => ?_
  ·rw [List.pairwise_map]
   exact List.pairwise_lt_range.imp fun {a b} h => by omega
  ·rw [(List.mergeSort_perm _ _).mem_iff, hmem, List.mem_filter]
   constructor
   ·intro h
    obtain ⟨v, hv⟩ := Option.isSome_iff_exists.1 h
    have := hp _ (lookK_mem hv)
    exact ⟨List.mem_map.2 ⟨n.toNat, List.mem_range.2 (by simp at this; omega), by simp at this; omega⟩, h⟩
   ·exact fun h => h.2
 rw [e1, flatMap_filter, List.flatMap_map, someL_pages]
 intro n hn' hno
 exact pgL_none (hnone n (by simpa using hno))
/-! ### The walk -/
theorem maps_keys (w : World) (m : Option Nat) : Calls Tryz.prog 92 #[.map m] w fun e w' => ∃ r : Value, e = .returned r ∧ ∃ cb, r = .func (.func 112) #[] #[.pointer (some ⟨cb, 0, none⟩)] ∧ cb = w.heap.size ∧ w'.heap[cb]? = some (.cells #[.map m] 131 (0, 0)) ∧ Chg [] w w' := by
 refine go_maps_Keys_0 _ _ _ ?_
 unfold W_maps_Keys_0
 exact v_alloc fun b w1 e h c => ⟨b, rfl, e, h, c⟩
theorem index_179 {c : Array Value} (hs : c.size = 65) {i : Nat} {z : Int} (hi : i < 64) (hz : c[1 + i]? = some (.int .u32 z)) (w : World) :
  (Instr.index 153 (.agg ((c.toList.drop 1).toArray)) (.int .i64 (i : Int))).run Tryz.prog w = .ok (.int .u32 z) w := by
 have hu : Tryz.prog.underlying 153 = some (.array 64 43) := by kernel_rfl
 have hz' : c[i + 1]? = some (.int .u32 z) := by rw [Nat.add_comm]; exact hz
 unfold Instr.index
 simp [go_sem, run_underlying hu, Result.andThen, hi, part, hz']
theorem isFn93 (cb : Nat) : IsFn Tryz.prog (.func (.func 90) #[] #[.pointer (some ⟨cb, 0, none⟩)]) := ⟨90, Tryz.f90, _, rfl, Tryz.func90, by kernel_rfl, by kernel_rfl⟩
theorem ShadowAt.same {w w' : World} {b : Nat} {pages : Int} {g : Int → Int} {fp : List Nat} (h : ShadowAt w b pages g fp) (hs : Same w w' fp) : ShadowAt w' b pages g fp := by
 obtain ⟨r, l, h1, ⟨es, clk, m1, m2⟩, h3, h4, rfl⟩ := h.there
 refine ⟨⟨r, l, (hs b (by simp)).trans h1, ⟨es, clk, (hs r (by simp)).trans m1, m2⟩, fun x hx => ?_, h4, rfl⟩, h.nodup, h.pages1, h.pages2, h.each⟩
 obtain ⟨a1, a2, ⟨c, a3, a4⟩, a5⟩ := h3 x hx
 exact ⟨a1, a2, ⟨c, (hs x.2 (by simp; exact .inr (.inr ⟨x.1, hx⟩))).trans a3, a4⟩, a5⟩
theorem same_cell {w w' : World} {q : Addr} {v : Value} (h : w'.heap[q.block]? = w.heap[q.block]?) (hq : w.cell? q = some v) : w'.cell? q = some v := by
 unfold World.cell? at hq ⊢
 rw [h]; exact hq
theorem pgL_pre (g : Int → Int) (n : Int) (i m : Nat) : ∃ s, pgL g n (i + m) = pgL g n i ++ s := by
 unfold pgL
 rw [List.range_add, List.flatMap_append]
 exact ⟨_, rfl⟩
theorem allSp_len {l : List (Int × Nat)} {pages : Int} (hp : pages ≤ 32) (h : ∀ x ∈ l, 0 ≤ x.1 ∧ x.1 < pages) {pre : List Int} (hs : allSp Prod.fst l pre) : pre.length ≤ 1000000 := by
 obtain ⟨done, rfl, hn, hd⟩ := hs
 have := nodup_sub_length hn (b := (List.range 32).map fun i : Nat => (i : Int)) fun x hx => by
  obtain ⟨y, hy, rfl⟩ := List.mem_map.1 hx
  have := h y (hd y hy)
  exact List.mem_map.2 ⟨y.1.toNat, List.mem_range.2 (by omega), by omega⟩
 simp at this ⊢
 omega
theorem iterates_shadow {w : World} {cb b : Nat} {pages : Int} {g : Int → Int} {fp : List Nat} (hcb : w.heap[cb]? = some (.cells #[.pointer (some ⟨b, 0, none⟩)] 96 (0, 0))) (h : ShadowAt w b pages g fp) :
  Iterates Tryz.prog (.func (.func 90) #[] #[.pointer (some ⟨cb, 0, none⟩)]) (fun x : Int × Int => #[.int .i64 x.1, .int .u32 x.2]) (fun xs => xs = someL g (64 * pages.toNat)) (fun pre => ∃ suf, pre ++ suf = someL g (64 * pages.toNat)) (cb :: fp) w := by
 intro W yv I Ix hW hI hIx h0 hround
 refine ⟨90, #[.pointer (some ⟨cb, 0, none⟩)], Tryz.f90, rfl, Tryz.func90, by kernel_rfl, by kernel_rfl, ?_⟩
 have hcW := hW.obj (by simp) hcb
 have hSW := h.chg hW (by simp)
 obtain ⟨r, l, h1, h2, h3, h4, rfl⟩ := hSW.there
 have hpg := h.pages2
 have hlr := h2.lt
 have hlcb := lt_of_heap hcW
 have hl := hSW.lt
 have hkeys : ∀ x ∈ l, 0 ≤ x.1 ∧ x.1 < pages := fun x hx => ⟨(h3 x hx).1, (h3 x hx).2.1⟩
 refine (go_shadow_Shadow_All_1 yv ⟨cb, 0, none⟩ W (fun w' => ∃ Own, InO W Own w' ∧ ((∃ xs, xs = someL g (64 * pages.toNat) ∧ I Own xs w') ∨ ∃ pre, (∃ suf, pre ++ suf = someL g (64 * pages.toNat)) ∧ Ix Own pre w')) ?_).mono (fun e w' h => ⟨⟨_, h.1⟩, h.2⟩)
 unfold W_shadow_Shadow_All_1
 refine ⟨_, by rw [cell_of hcW]; rfl, ?_⟩
 refine (shadow_none hSW).mono ?_
 rintro _ w1 ⟨_, rfl, rfl, hw⟩
 subst w1
 refine ⟨_, rfl, fun h => by simp at h, fun _ => ⟨_, by rw [cell_of hcW]; rfl, _, rfl, some r, by rw [add_at, cell_of h1]; rfl, ?_⟩⟩
 refine (maps_keys W (some r)).mono ?_
 rintro _ w2 ⟨_, rfl, kb, rfl, ekb, hkb, c2⟩
 have s2 := c2.size
 have hkl := lt_of_heap hkb
 refine ⟨_, rfl, ?_⟩
 refine (sorted (isFn117 kb) (iterates_keys hkb (h2.chg c2 (by simp))) (by simp; omega) (fun pre hp => allSp_len hpg hkeys hp) (fun xs ⟨d, e, n, a, _⟩ => ⟨d, e, n, a⟩)).mono ?_
 rintro _ w3 ⟨p, n, c, rfl, xs, hS, hn, hr, c3, hp⟩
 have s3 := c3.size
 have hks := keys_all (g := g) hS hkeys h4
 have hmem : ∀ k ∈ (xs.mergeSort fun x y => decide (x ≤ y)), ∃ q, lookK k l = some q ∧ (k, q) ∈ l := fun k hk => by
  rw [(List.mergeSort_perm _ _).mem_iff] at hk
  obtain ⟨done, rfl, d1, d2, d3⟩ := hS
  obtain ⟨x, hx, rfl⟩ := List.mem_map.1 hk
  cases hl : lookK x.1 l with
  | none => exact absurd rfl (lookK_none.1 hl x (d2 x hx))
  | some v => exact ⟨v, rfl, lookK_mem hl⟩
 have hlen : (xs.mergeSort fun x y => decide (x ≤ y)).length = n := by simp [hn]
 have hxs : n ≤ 1000000 := hn ▸ allSp_len hpg hkeys (by obtain ⟨d, e, n, a, _⟩ := hS; exact ⟨d, e, n, a⟩)
 generalize (xs.mergeSort fun x y => decide (x ≤ y)) = ks at hr hks hmem hlen
 refine ⟨p, n, c, rfl, ?_⟩
 have c03 : Chg [] W w3 := c2.trans0 c3
 have hO : ∀ {A : World}, w3.heap.size ≤ A.heap.size → InO W (rowB p) A := fun hA i hi => ⟨by have := hp i hi; omega, by have := hr.lt i hi; omega⟩
 have hI3 := hI [] [] (rowB p) W w3 h0 (by intro i hi; cases hi) c03 (hO (Nat.le_refl _)) (fun i hi => .inr (by have := hp i hi; omega))
 refine ⟨fun x1 w4 => ∃ j : Nat, x1 = j ∧ j ≤ n ∧ I (rowB p) ((ks.take j).flatMap fun n => pgL g n 64) w4 ∧ Same w3 w4 ((cb :: b :: r :: l.map Prod.snd) ++ rowB p) ∧ w3.heap.size ≤ w4.heap.size, fun x1 _ => n - x1.toNat,
  ⟨0, rfl, Nat.zero_le _, hI3, Same.refl _ _, Nat.le_refl _⟩, ?_⟩
 rintro x1 w4 ⟨j, rfl, hj, hI4, hs4, s4⟩
 refine ⟨fun hlt => ?_, fun hge => ?_⟩
 ·simp at hlt
  have hjl : j < ks.length := by omega
  obtain ⟨k, hk⟩ : ∃ k, ks[j]? = some k := ⟨_, List.getElem?_eq_getElem hjl⟩
  obtain ⟨q, hq, hql⟩ := hmem k (List.mem_of_getElem? hk)
  obtain ⟨a, rfl, hcell⟩ := RowAt.at hr (j := j) (u := .int .i64 k) (by simp [hk])
  have hks' : ks = ks.take j ++ k :: ks.drop (j + 1) := by
   rw [← List.take_append_drop j ks]
   congr 1
   ·simp
   ·rw [List.take_append_drop, List.drop_eq_getElem_cons hjl]
    rw [List.getElem?_eq_getElem hjl] at hk
    cases hk; rfl
  have hcb4 := (hs4 cb (by simp)).trans (c03.obj (by simp) hcW)
  have hb4 := (hs4 b (by simp)).trans (c03.obj (by simp) h1)
  have hS4 : ShadowAt w4 b pages g (b :: r :: l.map Prod.snd) := (hSW.chg c03 (by simp)).same (fun x hx => hs4 x (List.mem_append_left _ (List.mem_cons_of_mem _ hx)))
  have hm4 : MapIs w4 r (fun n : Int => .int .i64 n) encPg l := by
   obtain ⟨es, clk, m1, m2⟩ := h2.chg c03 (by simp)
   exact ⟨es, clk, (hs4 r (by simp)).trans m1, m2⟩
  obtain ⟨k0, k1, ⟨cc, p1, p2, p3, p4⟩, _⟩ := h3 _ hql
  simp only [] at k0 k1 p1 p3 p4
  have p1' := (hs4 q (by simp; exact .inr (.inr (.inr (.inl ⟨k, hql⟩))))).trans (c03.obj (by simp) p1)
  refine ⟨a, rfl, by omega, by simp; omega, k, ?_, some ⟨b, 0, none⟩, by rw [cell_of hcb4]; rfl, _, rfl, some r, by rw [add_at, cell_of hb4]; rfl, some ⟨q, 0, none⟩, ?_, _, rfl, cc.toList.drop 1, by simp [p2], ?_, ?_⟩
  ·have : ((j : Int).toNat * 1) = j := by simp
   rw [this]
   exact same_cell (hs4 _ (by rw [add_block]; simp [rowB])) hcell
  ·have := hm4.lookup (P := Tryz.prog) (T := 131) u173 keyInt (z := .pointer none) (fun _ => by kernel_rfl) k false
   rw [this, hq]; rfl
  ·rw [add_at]
   exact box_cells (cs := cc.toList) (by simpa using p1') (by rw [List.take_of_length_le (Nat.le_refl _)])
  have hpre : ∀ i, i < 64 → ∃ suf, ((ks.take j).flatMap fun n => pgL g n 64) ++ pgL g k i ++ one g k i ++ suf = someL g (64 * pages.toNat) := fun i hi => by
   obtain ⟨s, hs⟩ := pgL_pre g k (i + 1) (64 - (i + 1))
   refine ⟨s ++ (ks.drop (j + 1)).flatMap fun n => pgL g n 64, ?_⟩
   rw [← hks]
   conv => rhs; rw [hks']
   rw [List.flatMap_append, List.flatMap_cons, show (64 : Nat) = i + 1 + (64 - (i + 1)) by omega, hs, pgL_succ]
   simp
  refine ⟨fun x2 w5 => ∃ i : Nat, x2 = i ∧ i ≤ 64 ∧ I (rowB (some a)) (((ks.take j).flatMap fun n => pgL g n 64) ++ pgL g k i) w5 ∧ Same w3 w5 ((cb :: b :: r :: l.map Prod.snd) ++ rowB (some a)) ∧ w3.heap.size ≤ w5.heap.size, fun x2 _ => 64 - x2.toNat,
   ⟨0, rfl, by omega, by simpa [pgL] using hI4, hs4, s4⟩, ?_⟩
  rintro x2 w5 ⟨i, rfl, hi, hI5, hs5, s5⟩
  have ew : IntKind.wrap .i64 ((i : Int) + 1) = ((i + 1 : Nat) : Int) := by rw [wr (by omega) (by omega)]; omega
  refine ⟨fun hlt => ?_, fun hge => ?_⟩
  ·simp at hlt
   have hi6 : i < 64 := by omega
   refine ⟨pg g k i, fun w => index_179 p2 hi6 (p4 i hi6) w, ?_⟩
   have next : ∀ w6, I (rowB (some a)) (((ks.take j).flatMap fun n => pgL g n 64) ++ pgL g k i ++ one g k i) w6 → Same w3 w6 ((cb :: b :: r :: l.map Prod.snd) ++ rowB (some a)) → w3.heap.size ≤ w6.heap.size →
     ((∃ i' : Nat, IntKind.wrap .i64 ((i : Int) + 1) = i' ∧ i' ≤ 64 ∧ I (rowB (some a)) (((ks.take j).flatMap fun n => pgL g n 64) ++ pgL g k i') w6 ∧ Same w3 w6 ((cb :: b :: r :: l.map Prod.snd) ++ rowB (some a)) ∧ w3.heap.size ≤ w6.heap.size) ∧ 64 - (IntKind.wrap .i64 ((i : Int) + 1)).toNat < 64 - (i : Int).toNat) := fun w6 h1 h2 h3 =>
    ⟨⟨i + 1, ew, by omega, by rw [pgL_succ, ← List.append_assoc]; exact h1, h2, h3⟩, by rw [ew]; omega⟩
   refine ⟨fun b6 w6 => (b6 = true → ∃ Own, InO W Own w6 ∧ ∃ pre, (∃ suf, pre ++ suf = someL g (64 * pages.toNat)) ∧ Ix Own pre w6) ∧ (b6 = false → I (rowB (some a)) (((ks.take j).flatMap fun n => pgL g n 64) ++ pgL g k i ++ one g k i) w6 ∧ Same w3 w6 ((cb :: b :: r :: l.map Prod.snd) ++ rowB (some a)) ∧ w3.heap.size ≤ w6.heap.size), ?_, fun hne => ?_, fun heq => ?_⟩
   ·rintro b6 w6 ⟨k1, k2⟩
    refine ⟨fun hb => ?_, fun hb => ?_⟩
    ·obtain ⟨Own, h1, h2⟩ := k1 hb
     exact ⟨Own, h1, .inr h2⟩
    ·obtain ⟨h1, h2, h3⟩ := k2 hb
     exact next w6 h1 h2 h3
   ·have hne' : pg g k i ≠ 0 := by simpa using hne
    have e1 : one g k i = [(64 * k + (i : Int), pg g k i)] := by simp [one, hne']
    have e2 : IntKind.wrap .i64 (IntKind.wrap .i64 (k * 64) + (i : Int)) = 64 * k + i := by
     rw [wr (n := k * 64) (by omega) (by omega), wr (by omega) (by omega)]; omega
    rw [e2]
    have hpi := hpre i hi6
    rw [e1] at hpi ⊢
    refine (hround (rowB (some a)) _ (64 * k + (i : Int), pg g k i) w5 (hO s5) hpi hI5).mono ?_
    rintro e w7 ⟨s7, ⟨rfl, hI7, hs7⟩ | ⟨rfl, hx7⟩⟩
    ·exact ⟨true, rfl, fun h => by simp at h, fun _ => ⟨hI7, fun x hx => (hs7 x hx).trans (hs5 x hx), by omega⟩⟩
    ·exact ⟨false, rfl, fun _ => ⟨rowB (some a), hO (by omega), _, hpi, hx7⟩, fun h => by simp at h⟩
   ·have he : pg g k i = 0 := by simpa using heq
    exact ⟨fun h => by simp at h, fun _ => ⟨by simpa [one, he] using hI5, hs5, s5⟩⟩
  ·simp at hge
   have : i = 64 := by omega
   subst this
   have ew1 : IntKind.wrap .i64 ((j : Int) + 1) = ((j + 1 : Nat) : Int) := by rw [wr (by omega) (by omega)]; omega
   refine ⟨⟨j + 1, ew1, by omega, ?_, hs5, s5⟩, by rw [ew1]; simp only []; omega⟩
   rw [List.take_add_one, hk, List.flatMap_append]
   simpa using hI5
 ·simp at hge
  have : j = n := by omega
  subst this
  rw [List.take_of_length_le (by omega), hks] at hI4
  exact ⟨rowB p, hO s4, .inl ⟨_, rfl, hI4⟩⟩
end Go.Proofs.YtfcfkhbkkfpehaaGreatDoor
end
section
namespace Go.Proofs.YtfcfkhbkkfpehaaGreatDoor
open Go Go.X
end Go.Proofs.YtfcfkhbkkfpehaaGreatDoor
end
section
/- The document's shadow (pomanderref03): a list of sets. -/
namespace Go.Proofs.YtfcfkhbkkfpehaaGreatDoor
open Go Go.RowKit Go.X
section
variable {w : World} {p : Option Addr} {n c : Nat} {g : Int → Int} {pages : Int}
end
end Go.Proofs.YtfcfkhbkkfpehaaGreatDoor
end
section
/- Shadows: Pages, Private; All. -/
namespace Go.Proofs.YtfcfkhbkkfpehaaGreatDoor
open Go Go.RowKit Go.X Go.XR
theorem shadow_all {w : World} {b : Nat} {pages : Int} {g : Int → Int} {fp : List Nat} (h : ShadowAt w b pages g fp) :
  Calls Tryz.prog 73 #[.pointer (some ⟨b, 0, none⟩)] w fun e w' => ∃ r : Value, e = .returned r ∧ ∃ cb b' fp', r = .func (.func 90) #[] #[.pointer (some ⟨cb, 0, none⟩)] ∧ w'.heap[cb]? = some (.cells #[.pointer (some ⟨b', 0, none⟩)] 96 (0, 0)) ∧ ShadowAt w' b' pages g fp' ∧ Chg [] w w' ∧ ∀ i ∈ cb :: fp', w.heap.size ≤ i := by
 refine go_shadow_Shadow_All _ _ _ ?_
 unfold W_shadow_Shadow_All
 refine v_alloc fun b1 w1 e1 hb1 c1 => ?_
 have s1 := c1.size
 have hl1 := lt_of_heap hb1
 refine ⟨_, by rw [cell_of hb1]; rfl, ?_⟩
 refine (shadow_copy (h.chg c1 (by simp))).mono ?_
 rintro _ w2 ⟨_, rfl, b', fp', rfl, hS, c2, hn⟩
 refine ⟨_, rfl, ?_⟩
 refine v_set0 (c2.obj (by simp) hb1) (by simp) fun w3 hb3 c3 s3 => ?_
 refine ⟨b1, b', fp', rfl, hb3, hS.chg c3 (fun i hi hm => by simp at hm; subst hm; have := hn _ hi; omega), (c1.trans0 c2).trans c3 (fun i hi hlt => by simp at hi; omega), ?_⟩
 intro i hi
 rcases List.mem_cons.1 hi with h | h
 ·omega
 ·have := hn i h; omega
end Go.Proofs.YtfcfkhbkkfpehaaGreatDoor
end
section
namespace Go.Proofs.YtfcfkhbkkfpehaaGreatDoor
open Go Go.X
end Go.Proofs.YtfcfkhbkkfpehaaGreatDoor
end
section
/- pomanderlaw03: is. -/
namespace Go.Proofs.YtfcfkhbkkfpehaaGreatDoor
open Go Go.RowKit Go.X Go.XR
theorem someL_succ (g : Int → Int) (k : Nat) : someL g (k + 1) = someL g k ++ if g k = 0 then [] else [((k : Int), g k)] := by
 unfold someL
 rw [List.range_succ, List.flatMap_append]
 simp
theorem someL_le (g : Int → Int) (k m : Nat) : ∃ s, someL g (k + m) = someL g k ++ s := ⟨_, someL_add g k m⟩
theorem someL_next {g : Int → Int} {n : Nat} {x s : Int} {suf : List (Int × Int)} : ∀ (m k : Nat), k + m = n → someL g k ++ (x, s) :: suf = someL g n →
  ∃ j : Nat, x = j ∧ k ≤ j ∧ j < n ∧ s = g j ∧ g j ≠ 0 ∧ (∀ i : Nat, k ≤ i → i < j → g i = 0) ∧ someL g (j + 1) = someL g k ++ [(x, s)]
 | 0, k, hk, h => by
  obtain rfl : k = n := by omega
  have := congrArg List.length h
  simp at this
 | m + 1, k, hk, h => by
  by_cases hz : g k = 0
  ·have e := someL_succ g k
   rw [if_pos hz, List.append_nil] at e
   rw [← e] at h
   obtain ⟨j, h1, h2, h3, h4, h5, h6, h7⟩ := someL_next m (k + 1) (by omega) h
   refine ⟨j, h1, by omega, h3, h4, h5, fun i hi hj => ?_, by rw [h7, e]⟩
   rcases Nat.lt_or_ge k i with h | h
   ·exact h6 i h hj
   ·obtain rfl : i = k := by omega
    exact hz
  ·have e := someL_succ g k
   rw [if_neg hz] at e
   obtain ⟨s', hs⟩ := someL_le g (k + 1) m
   rw [show k + 1 + m = n by omega, e, List.append_assoc] at hs
   rw [hs] at h
   have h' := List.append_cancel_left h
   simp at h'
   obtain ⟨⟨rfl, rfl⟩, rfl⟩ := h'
   exact ⟨k, rfl, Nat.le_refl _, by omega, rfl, hz, fun i hi hj => by omega, e⟩
end Go.Proofs.YtfcfkhbkkfpehaaGreatDoor
end
section
namespace Go.Proofs.YtfcfkhbkkfpehaaGreatDoor
open Go Go.X
/- (*pomander/flow.Flow).Copy -/
def W_flow_Flow_Copy (f1 : Option Addr) (w : World) (R : (Option Addr) → World → Prop) : Prop :=
 Calls Tryz.prog 36 #[.pointer f1] w fun e w1 => ∃ (r2 : Bool), e = .returned (.bool r2) ∧ ((r2 = true → R none w1) ∧ (r2 = false → ∀ (w2 : World), Chg [] w1 w2 → (∃ a1 : Addr, f1 = some a1 ∧ (∃ (t1 : Int) (t2 : Int), CellsAt w2 a1 0 [.int .i64 t1, .int .i64 t2] ∧ (∃ (t3 : Option Addr), w2.cell? (a1.add 2) = some (.pointer t3) ∧ (∃ (t4 : Option Addr), w2.cell? (a1.add 3) = some (.pointer t4) ∧ (∃ (t5 : Option Addr), w2.cell? (a1.add 4) = some (.pointer t5) ∧ (∃ (t6 : Option Nat), w2.cell? (a1.add 5) = some (.map t6) ∧ (Calls Tryz.prog 47 #[.pointer t3] w2 fun e w3 => ∃ (r3 : Option Addr), e = .returned (.pointer r3) ∧ ((CellsAt w3 a1 0 [.int .i64 t1, .int .i64 t2] ∧ w3.cell? (a1.add 2) = some (.pointer t3) ∧ w3.cell? (a1.add 3) = some (.pointer t4) ∧ w3.cell? (a1.add 4) = some (.pointer t5) ∧ w3.cell? (a1.add 5) = some (.map t6)) ∧ (Calls Tryz.prog 48 #[.pointer t4] w3 fun e w4 => ∃ (r4 : Option Addr), e = .returned (.pointer r4) ∧ ((CellsAt w4 a1 0 [.int .i64 t1, .int .i64 t2] ∧ w4.cell? (a1.add 2) = some (.pointer t3) ∧ w4.cell? (a1.add 3) = some (.pointer t4) ∧ w4.cell? (a1.add 4) = some (.pointer t5) ∧ w4.cell? (a1.add 5) = some (.map t6)) ∧ (Calls Tryz.prog 48 #[.pointer t5] w4 fun e w5 => ∃ (r5 : Option Addr), e = .returned (.pointer r5) ∧ ((CellsAt w5 a1 0 [.int .i64 t1, .int .i64 t2] ∧ w5.cell? (a1.add 2) = some (.pointer t3) ∧ w5.cell? (a1.add 3) = some (.pointer t4) ∧ w5.cell? (a1.add 4) = some (.pointer t5) ∧ w5.cell? (a1.add 5) = some (.map t6)) ∧ (Calls Tryz.prog 49 #[.map t6] w5 fun e w6 => ∃ (r6 : Option Nat), e = .returned (.map r6) ∧ ((CellsAt w6 a1 0 [.int .i64 t1, .int .i64 t2] ∧ w6.cell? (a1.add 2) = some (.pointer t3) ∧ w6.cell? (a1.add 3) = some (.pointer t4) ∧ w6.cell? (a1.add 4) = some (.pointer t5) ∧ w6.cell? (a1.add 5) = some (.map t6)) ∧ (∀ b1 : Nat, b1 = World.size w6 → ∀ w7 : World, w7 = World.alloc w6 (.cells #[.int .i64 t1, .int .i64 t2, .pointer r3, .pointer r4, .pointer r5, .map r6] 101) → (R (some (⟨b1, 0, none⟩ : Addr)) w7))))))))))))))))))
set_option maxRecDepth 100000 in
theorem go_flow_Flow_Copy (f1 : Option Addr) (w : World) (R : (Option Addr) → World → Prop) (h : W_flow_Flow_Copy f1 w R) : Calls Tryz.prog 27 #[.pointer f1] w (fun e w' => ∃ (r1 : Option Addr), e = .returned (.pointer r1) ∧ R r1 w') := by
 unfold W_flow_Flow_Copy at h
 refine enter (N := 31) Tryz.func27 rfl rfl ?_
 refine CW.seq ?_
 refine CW.region fun L hL => ?_
 refine LW.rd hL rfl (Wants.free rfl) rfl (Rd.assign (v := .pointer none) rfl) ?_
 refine LW.nil hL rfl ?_
 refine NW.then ?_
 refine CW.seq ?_
 refine CW.seq ?_
 refine CW.region fun L hL => ?_
 refine LW.rd hL rfl (Wants.free rfl) rfl (Rd.move (v := .pointer f1) rfl) ?_
 refine LW.call hL rfl (Wants.free rfl) rfl (Cl.fn (f := 36) rfl Tryz.func36 (by kernel_rfl) rfl) h (fun e w1 h_ => ?_)
 clear h
 obtain ⟨r2, rfl, h⟩ := h_
 refine ⟨_, rfl, ?_⟩
 refine LW.nil hL rfl ?_
 refine NW.then ?_
 refine CW.cond rfl (fun hb1 => ?_) (fun hb1 => ?_)
 ·replace h := h.1 hb1
  refine CW.seq ?_
  refine CW.region fun L hL => ?_
  refine LW.rd hL rfl (Wants.free rfl) rfl (Rd.assign (v := .pointer none) rfl) ?_
  refine LW.nil hL rfl ?_
  refine NW.then ?_
  refine CW.ret ?_
  refine RW.then ?_
  exact res1 rfl rfl ⟨none, rfl, h⟩
 ·replace h := h.2 hb1
  refine CW.skip ?_
  refine NW.then ?_
  refine CW.seq ?_
  obtain ⟨w2, hw_w2⟩ : ∃ x, x = World.drew w1 := ⟨_, rfl⟩
  have hc_w2 := sil_drew (Chg.refl [] w1) hw_w2
  replace h := h  w2  hc_w2
  obtain ⟨a1, ha1, h⟩ := h
  obtain ⟨t1, t2, hc1, h⟩ := h
  obtain ⟨t3, hc2, h⟩ := h
  obtain ⟨t4, hc3, h⟩ := h
  obtain ⟨t5, hc4, h⟩ := h
  obtain ⟨t6, hc5, h⟩ := h
  refine CW.drawn (fun w => CellsAt w a1 0 [.int .i64 t1, .int .i64 t2] ∧ w.cell? (a1.add 2) = some (.pointer t3) ∧ w.cell? (a1.add 3) = some (.pointer t4) ∧ w.cell? (a1.add 4) = some (.pointer t5) ∧ w.cell? (a1.add 5) = some (.map t6) ∧ True) 25 (by kernel_rfl) fun H hH => ?_
  rw [← hw_w2]
  have hS1 : CellsAt w2 a1 0 [.int .i64 t1, .int .i64 t2] ∧ w2.cell? (a1.add 2) = some (.pointer t3) ∧ w2.cell? (a1.add 3) = some (.pointer t4) ∧ w2.cell? (a1.add 4) = some (.pointer t5) ∧ w2.cell? (a1.add 5) = some (.map t6) ∧ True := ⟨hc1, hc2, hc3, hc4, hc5, trivial⟩
  refine HW.pure (i := 0) hH rfl (by kernel_rfl) (Wants.free rfl) rfl (fun _ => hS1) (Rd.move (v := .pointer f1) rfl) ?_
  refine HW.pure (i := 1) hH rfl (by kernel_rfl) (Wants.free rfl) rfl (fun _ => hS1) (Rd.nil (q := a1) (by rw [← ha1]; rfl)) ?_
  refine HW.pure (i := 2) hH rfl (by kernel_rfl) (Wants.free rfl) rfl (fun _ => hS1) (Rd.fa (v := .pointer (some a1)) rfl (fun _ => by kernel_rfl)) ?_
  refine HW.take (i := 3) hH rfl (by kernel_rfl) (by kernel_rfl) (Wants.free rfl) rfl (fun _ => hS1) (Rd.ldN (cs := [.int .i64 t1, .int .i64 t2]) rfl (by kernel_rfl) (by kernel_rfl) (fun w h => cellsAt_get h.1)) ?_
  refine HW.pure (i := 4) hH rfl (by kernel_rfl) (Wants.free rfl) rfl (fun _ => hS1) (Rd.move (v := .pointer f1) rfl) ?_
  refine HW.pure (i := 5) hH rfl (by kernel_rfl) (Wants.free rfl) rfl (fun _ => hS1) (Rd.nil (q := a1) (by rw [← ha1]; rfl)) ?_
  refine HW.pure (i := 6) hH rfl (by kernel_rfl) (Wants.free rfl) rfl (fun _ => hS1) (Rd.fa (v := .pointer (some (a1.add 2))) rfl (fun _ => by kernel_rfl)) ?_
  refine HW.take (i := 7) hH rfl (by kernel_rfl) (by kernel_rfl) (Wants.free rfl) rfl (fun _ => hS1) (Rd.ld (v := .pointer t3) rfl (by kernel_rfl) (fun w h => h.2.1)) ?_
  refine HW.pure (i := 9) hH rfl (by kernel_rfl) (Wants.free rfl) rfl (fun _ => hS1) (Rd.move (v := .pointer f1) rfl) ?_
  refine HW.pure (i := 10) hH rfl (by kernel_rfl) (Wants.free rfl) rfl (fun _ => hS1) (Rd.nil (q := a1) (by rw [← ha1]; rfl)) ?_
  refine HW.pure (i := 11) hH rfl (by kernel_rfl) (Wants.free rfl) rfl (fun _ => hS1) (Rd.fa (v := .pointer (some (a1.add 3))) rfl (fun _ => by kernel_rfl)) ?_
  refine HW.take (i := 12) hH rfl (by kernel_rfl) (by kernel_rfl) (Wants.free rfl) rfl (fun _ => hS1) (Rd.ld (v := .pointer t4) rfl (by kernel_rfl) (fun w h => h.2.2.1)) ?_
  refine HW.pure (i := 14) hH rfl (by kernel_rfl) (Wants.free rfl) rfl (fun _ => hS1) (Rd.move (v := .pointer f1) rfl) ?_
  refine HW.pure (i := 15) hH rfl (by kernel_rfl) (Wants.free rfl) rfl (fun _ => hS1) (Rd.nil (q := a1) (by rw [← ha1]; rfl)) ?_
  refine HW.pure (i := 16) hH rfl (by kernel_rfl) (Wants.free rfl) rfl (fun _ => hS1) (Rd.fa (v := .pointer (some (a1.add 4))) rfl (fun _ => by kernel_rfl)) ?_
  refine HW.take (i := 17) hH rfl (by kernel_rfl) (by kernel_rfl) (Wants.free rfl) rfl (fun _ => hS1) (Rd.ld (v := .pointer t5) rfl (by kernel_rfl) (fun w h => h.2.2.2.1)) ?_
  refine HW.pure (i := 19) hH rfl (by kernel_rfl) (Wants.free rfl) rfl (fun _ => hS1) (Rd.move (v := .pointer f1) rfl) ?_
  refine HW.pure (i := 20) hH rfl (by kernel_rfl) (Wants.free rfl) rfl (fun _ => hS1) (Rd.nil (q := a1) (by rw [← ha1]; rfl)) ?_
  refine HW.pure (i := 21) hH rfl (by kernel_rfl) (Wants.free rfl) rfl (fun _ => hS1) (Rd.fa (v := .pointer (some (a1.add 5))) rfl (fun _ => by kernel_rfl)) ?_
  refine HW.take (i := 22) hH rfl (by kernel_rfl) (by kernel_rfl) (Wants.free rfl) rfl (fun _ => hS1) (Rd.ld (v := .map t6) rfl (by kernel_rfl) (fun w h => h.2.2.2.2.1)) ?_
  refine HW.call (i := 8) hH (by kernel_rfl) rfl (Wants.free rfl) rfl (Cl.fn (f := 47) rfl Tryz.func47 (by kernel_rfl) rfl) h (fun e w3 h_ => ?_)
  clear h
  obtain ⟨r3, rfl, hS2, h⟩ := h_
  have hS3 := (⟨hS2.1, hS2.2.1, hS2.2.2.1, hS2.2.2.2.1, hS2.2.2.2.2, trivial⟩ : CellsAt w3 a1 0 [.int .i64 t1, .int .i64 t2] ∧ w3.cell? (a1.add 2) = some (.pointer t3) ∧ w3.cell? (a1.add 3) = some (.pointer t4) ∧ w3.cell? (a1.add 4) = some (.pointer t5) ∧ w3.cell? (a1.add 5) = some (.map t6) ∧ True)
  refine ⟨_, rfl, (fun _ => hS3), ?_⟩
  refine HW.call (i := 13) hH (by kernel_rfl) rfl (Wants.free rfl) rfl (Cl.fn (f := 48) rfl Tryz.func48 (by kernel_rfl) rfl) h (fun e w4 h_ => ?_)
  clear h
  obtain ⟨r4, rfl, hS4, h⟩ := h_
  have hS5 := (⟨hS4.1, hS4.2.1, hS4.2.2.1, hS4.2.2.2.1, hS4.2.2.2.2, trivial⟩ : CellsAt w4 a1 0 [.int .i64 t1, .int .i64 t2] ∧ w4.cell? (a1.add 2) = some (.pointer t3) ∧ w4.cell? (a1.add 3) = some (.pointer t4) ∧ w4.cell? (a1.add 4) = some (.pointer t5) ∧ w4.cell? (a1.add 5) = some (.map t6) ∧ True)
  refine ⟨_, rfl, (fun _ => hS5), ?_⟩
  refine HW.call (i := 18) hH (by kernel_rfl) rfl (Wants.free rfl) rfl (Cl.fn (f := 48) rfl Tryz.func48 (by kernel_rfl) rfl) h (fun e w5 h_ => ?_)
  clear h
  obtain ⟨r5, rfl, hS6, h⟩ := h_
  have hS7 := (⟨hS6.1, hS6.2.1, hS6.2.2.1, hS6.2.2.2.1, hS6.2.2.2.2, trivial⟩ : CellsAt w5 a1 0 [.int .i64 t1, .int .i64 t2] ∧ w5.cell? (a1.add 2) = some (.pointer t3) ∧ w5.cell? (a1.add 3) = some (.pointer t4) ∧ w5.cell? (a1.add 4) = some (.pointer t5) ∧ w5.cell? (a1.add 5) = some (.map t6) ∧ True)
  refine ⟨_, rfl, (fun _ => hS7), ?_⟩
  refine HW.call (i := 23) hH (by kernel_rfl) rfl (Wants.free rfl) rfl (Cl.fn (f := 49) rfl Tryz.func49 (by kernel_rfl) rfl) h (fun e w6 h_ => ?_)
  clear h
  obtain ⟨r6, rfl, hS8, h⟩ := h_
  have hS9 := (⟨hS8.1, hS8.2.1, hS8.2.2.1, hS8.2.2.2.1, hS8.2.2.2.2, trivial⟩ : CellsAt w6 a1 0 [.int .i64 t1, .int .i64 t2] ∧ w6.cell? (a1.add 2) = some (.pointer t3) ∧ w6.cell? (a1.add 3) = some (.pointer t4) ∧ w6.cell? (a1.add 4) = some (.pointer t5) ∧ w6.cell? (a1.add 5) = some (.map t6) ∧ True)
  refine ⟨_, rfl, (fun _ => hS9), ?_⟩
  refine HW.pure (i := 24) hH rfl (by kernel_rfl) (Wants.free rfl) rfl (fun _ => hS9) (Rd.build (v := .agg #[.int .i64 t1, .int .i64 t2, .pointer r3, .pointer r4, .pointer r5, .map r6]) rfl (fun _ => by kernel_rfl)) ?_
  obtain ⟨b1, hb_b1⟩ : ∃ b1, b1 = World.size w6 := ⟨_, rfl⟩
  obtain ⟨w7, hw_w7⟩ : ∃ w7, w7 = World.alloc w6 (.cells #[.int .i64 t1, .int .i64 t2, .pointer r3, .pointer r4, .pointer r5, .map r6] 101) := ⟨_, rfl⟩
  replace h := h b1 hb_b1 w7 hw_w7
  refine HW.val (i := 25) hH (by kernel_rfl) rfl (Wants.free rfl) rfl (boxE hb_b1 hw_w7 (Vl.box (v := .agg #[.int .i64 t1, .int .i64 t2, .pointer r3, .pointer r4, .pointer r5, .map r6]) rfl)) (fun hc => by cases hc) ?_
  refine HW.pure (i := 26) hH rfl (by kernel_rfl) (Wants.free rfl) rfl (fun hc => by cases hc) (Rd.assign (v := .pointer (some (⟨b1, 0, none⟩ : Addr))) rfl) ?_
  refine HW.done hH (by kernel_rfl) ?_
  refine NW.then ?_
  refine CW.ret ?_
  exact res1 rfl rfl ⟨some (⟨b1, 0, none⟩ : Addr), rfl, h⟩
/- (*pomander/labels.Table).Copy -/
def W_labels_Table_Copy (t1 : Option Addr) (w : World) (R : (Option Addr) → World → Prop) : Prop :=
 Calls Tryz.prog 66 #[.pointer t1] w fun e w1 => ∃ (r2 : Bool), e = .returned (.bool r2) ∧ ((r2 = true → R none w1) ∧ (r2 = false → ∀ (w2 : World), Chg [] w1 w2 → (∃ a1 : Addr, t1 = some a1 ∧ (∃ (t2 : Int), w2.cell? a1 = some (.int .i64 t2) ∧ (∃ (t3 : Option Addr) (t3n : Nat) (t3c : Nat), w2.cell? (a1.add 1) = some (.slice t3 t3n t3c) ∧ (∃ (t4 : Option Nat), w2.cell? (a1.add 2) = some (.map t4) ∧ (∃ (t5 : Option Nat), w2.cell? (a1.add 3) = some (.map t5) ∧ (Calls Tryz.prog 67 #[.slice t3 t3n t3c] w2 fun e w3 => ∃ (r3 : Option Addr) (r3n : Nat) (r3c : Nat), e = .returned (.slice r3 r3n r3c) ∧ ((w3.cell? a1 = some (.int .i64 t2) ∧ w3.cell? (a1.add 1) = some (.slice t3 t3n t3c) ∧ w3.cell? (a1.add 2) = some (.map t4) ∧ w3.cell? (a1.add 3) = some (.map t5)) ∧ (Calls Tryz.prog 68 #[.map t4] w3 fun e w4 => ∃ (r4 : Option Nat), e = .returned (.map r4) ∧ ((w4.cell? a1 = some (.int .i64 t2) ∧ w4.cell? (a1.add 1) = some (.slice t3 t3n t3c) ∧ w4.cell? (a1.add 2) = some (.map t4) ∧ w4.cell? (a1.add 3) = some (.map t5)) ∧ (Calls Tryz.prog 69 #[.map t5] w4 fun e w5 => ∃ (r5 : Option Nat), e = .returned (.map r5) ∧ ((w5.cell? a1 = some (.int .i64 t2) ∧ w5.cell? (a1.add 1) = some (.slice t3 t3n t3c) ∧ w5.cell? (a1.add 2) = some (.map t4) ∧ w5.cell? (a1.add 3) = some (.map t5)) ∧ (∀ b1 : Nat, b1 = World.size w5 → ∀ w6 : World, w6 = World.alloc w5 (.cells #[.int .i64 t2, .slice r3 r3n r3c, .map r4, .map r5] 130) → (R (some (⟨b1, 0, none⟩ : Addr)) w6)))))))))))))))
set_option maxRecDepth 100000 in
theorem go_labels_Table_Copy (t1 : Option Addr) (w : World) (R : (Option Addr) → World → Prop) (h : W_labels_Table_Copy t1 w R) : Calls Tryz.prog 47 #[.pointer t1] w (fun e w' => ∃ (r1 : Option Addr), e = .returned (.pointer r1) ∧ R r1 w') := by
 unfold W_labels_Table_Copy at h
 refine enter (N := 26) Tryz.func47 rfl rfl ?_
 refine CW.seq ?_
 refine CW.region fun L hL => ?_
 refine LW.rd hL rfl (Wants.free rfl) rfl (Rd.assign (v := .pointer none) rfl) ?_
 refine LW.nil hL rfl ?_
 refine NW.then ?_
 refine CW.seq ?_
 refine CW.seq ?_
 refine CW.region fun L hL => ?_
 refine LW.rd hL rfl (Wants.free rfl) rfl (Rd.move (v := .pointer t1) rfl) ?_
 refine LW.call hL rfl (Wants.free rfl) rfl (Cl.fn (f := 66) rfl Tryz.func66 (by kernel_rfl) rfl) h (fun e w1 h_ => ?_)
 clear h
 obtain ⟨r2, rfl, h⟩ := h_
 refine ⟨_, rfl, ?_⟩
 refine LW.nil hL rfl ?_
 refine NW.then ?_
 refine CW.cond rfl (fun hb1 => ?_) (fun hb1 => ?_)
 ·replace h := h.1 hb1
  refine CW.seq ?_
  refine CW.region fun L hL => ?_
  refine LW.rd hL rfl (Wants.free rfl) rfl (Rd.assign (v := .pointer none) rfl) ?_
  refine LW.nil hL rfl ?_
  refine NW.then ?_
  refine CW.ret ?_
  refine RW.then ?_
  exact res1 rfl rfl ⟨none, rfl, h⟩
 ·replace h := h.2 hb1
  refine CW.skip ?_
  refine NW.then ?_
  refine CW.seq ?_
  obtain ⟨w2, hw_w2⟩ : ∃ x, x = World.drew w1 := ⟨_, rfl⟩
  have hc_w2 := sil_drew (Chg.refl [] w1) hw_w2
  replace h := h  w2  hc_w2
  obtain ⟨a1, ha1, h⟩ := h
  obtain ⟨t2, hc1, h⟩ := h
  obtain ⟨t3, t3n, t3c, hc2, h⟩ := h
  obtain ⟨t4, hc3, h⟩ := h
  obtain ⟨t5, hc4, h⟩ := h
  refine CW.drawn (fun w => w.cell? a1 = some (.int .i64 t2) ∧ w.cell? (a1.add 1) = some (.slice t3 t3n t3c) ∧ w.cell? (a1.add 2) = some (.map t4) ∧ w.cell? (a1.add 3) = some (.map t5) ∧ True) 20 (by kernel_rfl) fun H hH => ?_
  rw [← hw_w2]
  have hS1 : w2.cell? a1 = some (.int .i64 t2) ∧ w2.cell? (a1.add 1) = some (.slice t3 t3n t3c) ∧ w2.cell? (a1.add 2) = some (.map t4) ∧ w2.cell? (a1.add 3) = some (.map t5) ∧ True := ⟨hc1, hc2, hc3, hc4, trivial⟩
  refine HW.pure (i := 0) hH rfl (by kernel_rfl) (Wants.free rfl) rfl (fun _ => hS1) (Rd.move (v := .pointer t1) rfl) ?_
  refine HW.pure (i := 1) hH rfl (by kernel_rfl) (Wants.free rfl) rfl (fun _ => hS1) (Rd.nil (q := a1) (by rw [← ha1]; rfl)) ?_
  refine HW.pure (i := 2) hH rfl (by kernel_rfl) (Wants.free rfl) rfl (fun _ => hS1) (Rd.fa (v := .pointer (some a1)) rfl (fun _ => by kernel_rfl)) ?_
  refine HW.take (i := 3) hH rfl (by kernel_rfl) (by kernel_rfl) (Wants.free rfl) rfl (fun _ => hS1) (Rd.ld (v := .int .i64 t2) rfl (by kernel_rfl) (fun w h => h.1)) ?_
  refine HW.pure (i := 4) hH rfl (by kernel_rfl) (Wants.free rfl) rfl (fun _ => hS1) (Rd.move (v := .pointer t1) rfl) ?_
  refine HW.pure (i := 5) hH rfl (by kernel_rfl) (Wants.free rfl) rfl (fun _ => hS1) (Rd.nil (q := a1) (by rw [← ha1]; rfl)) ?_
  refine HW.pure (i := 6) hH rfl (by kernel_rfl) (Wants.free rfl) rfl (fun _ => hS1) (Rd.fa (v := .pointer (some (a1.add 1))) rfl (fun _ => by kernel_rfl)) ?_
  refine HW.take (i := 7) hH rfl (by kernel_rfl) (by kernel_rfl) (Wants.free rfl) rfl (fun _ => hS1) (Rd.ld (v := .slice t3 t3n t3c) rfl (by kernel_rfl) (fun w h => h.2.1)) ?_
  refine HW.pure (i := 9) hH rfl (by kernel_rfl) (Wants.free rfl) rfl (fun _ => hS1) (Rd.move (v := .pointer t1) rfl) ?_
  refine HW.pure (i := 10) hH rfl (by kernel_rfl) (Wants.free rfl) rfl (fun _ => hS1) (Rd.nil (q := a1) (by rw [← ha1]; rfl)) ?_
  refine HW.pure (i := 11) hH rfl (by kernel_rfl) (Wants.free rfl) rfl (fun _ => hS1) (Rd.fa (v := .pointer (some (a1.add 2))) rfl (fun _ => by kernel_rfl)) ?_
  refine HW.take (i := 12) hH rfl (by kernel_rfl) (by kernel_rfl) (Wants.free rfl) rfl (fun _ => hS1) (Rd.ld (v := .map t4) rfl (by kernel_rfl) (fun w h => h.2.2.1)) ?_
  refine HW.pure (i := 14) hH rfl (by kernel_rfl) (Wants.free rfl) rfl (fun _ => hS1) (Rd.move (v := .pointer t1) rfl) ?_
  refine HW.pure (i := 15) hH rfl (by kernel_rfl) (Wants.free rfl) rfl (fun _ => hS1) (Rd.nil (q := a1) (by rw [← ha1]; rfl)) ?_
  refine HW.pure (i := 16) hH rfl (by kernel_rfl) (Wants.free rfl) rfl (fun _ => hS1) (Rd.fa (v := .pointer (some (a1.add 3))) rfl (fun _ => by kernel_rfl)) ?_
  refine HW.take (i := 17) hH rfl (by kernel_rfl) (by kernel_rfl) (Wants.free rfl) rfl (fun _ => hS1) (Rd.ld (v := .map t5) rfl (by kernel_rfl) (fun w h => h.2.2.2.1)) ?_
  refine HW.call (i := 8) hH (by kernel_rfl) rfl (Wants.free rfl) rfl (Cl.fn (f := 67) rfl Tryz.func67 (by kernel_rfl) rfl) h (fun e w3 h_ => ?_)
  clear h
  obtain ⟨r3, r3n, r3c, rfl, hS2, h⟩ := h_
  have hS3 := (⟨hS2.1, hS2.2.1, hS2.2.2.1, hS2.2.2.2, trivial⟩ : w3.cell? a1 = some (.int .i64 t2) ∧ w3.cell? (a1.add 1) = some (.slice t3 t3n t3c) ∧ w3.cell? (a1.add 2) = some (.map t4) ∧ w3.cell? (a1.add 3) = some (.map t5) ∧ True)
  refine ⟨_, rfl, (fun _ => hS3), ?_⟩
  refine HW.call (i := 13) hH (by kernel_rfl) rfl (Wants.free rfl) rfl (Cl.fn (f := 68) rfl Tryz.func68 (by kernel_rfl) rfl) h (fun e w4 h_ => ?_)
  clear h
  obtain ⟨r4, rfl, hS4, h⟩ := h_
  have hS5 := (⟨hS4.1, hS4.2.1, hS4.2.2.1, hS4.2.2.2, trivial⟩ : w4.cell? a1 = some (.int .i64 t2) ∧ w4.cell? (a1.add 1) = some (.slice t3 t3n t3c) ∧ w4.cell? (a1.add 2) = some (.map t4) ∧ w4.cell? (a1.add 3) = some (.map t5) ∧ True)
  refine ⟨_, rfl, (fun _ => hS5), ?_⟩
  refine HW.call (i := 18) hH (by kernel_rfl) rfl (Wants.free rfl) rfl (Cl.fn (f := 69) rfl Tryz.func69 (by kernel_rfl) rfl) h (fun e w5 h_ => ?_)
  clear h
  obtain ⟨r5, rfl, hS6, h⟩ := h_
  have hS7 := (⟨hS6.1, hS6.2.1, hS6.2.2.1, hS6.2.2.2, trivial⟩ : w5.cell? a1 = some (.int .i64 t2) ∧ w5.cell? (a1.add 1) = some (.slice t3 t3n t3c) ∧ w5.cell? (a1.add 2) = some (.map t4) ∧ w5.cell? (a1.add 3) = some (.map t5) ∧ True)
  refine ⟨_, rfl, (fun _ => hS7), ?_⟩
  refine HW.pure (i := 19) hH rfl (by kernel_rfl) (Wants.free rfl) rfl (fun _ => hS7) (Rd.build (v := .agg #[.int .i64 t2, .slice r3 r3n r3c, .map r4, .map r5]) rfl (fun _ => by kernel_rfl)) ?_
  obtain ⟨b1, hb_b1⟩ : ∃ b1, b1 = World.size w5 := ⟨_, rfl⟩
  obtain ⟨w6, hw_w6⟩ : ∃ w6, w6 = World.alloc w5 (.cells #[.int .i64 t2, .slice r3 r3n r3c, .map r4, .map r5] 130) := ⟨_, rfl⟩
  replace h := h b1 hb_b1 w6 hw_w6
  refine HW.val (i := 20) hH (by kernel_rfl) rfl (Wants.free rfl) rfl (boxE hb_b1 hw_w6 (Vl.box (v := .agg #[.int .i64 t2, .slice r3 r3n r3c, .map r4, .map r5]) rfl)) (fun hc => by cases hc) ?_
  refine HW.pure (i := 21) hH rfl (by kernel_rfl) (Wants.free rfl) rfl (fun hc => by cases hc) (Rd.assign (v := .pointer (some (⟨b1, 0, none⟩ : Addr))) rfl) ?_
  refine HW.done hH (by kernel_rfl) ?_
  refine NW.then ?_
  refine CW.ret ?_
  exact res1 rfl rfl ⟨some (⟨b1, 0, none⟩ : Addr), rfl, h⟩
end Go.Proofs.YtfcfkhbkkfpehaaGreatDoor
end
section
namespace Go.Proofs.YtfcfkhbkkfpehaaGreatDoor
open Go Go.X
/- maps.Clone[map[pomander/api.Place]uint32,pomander/api.Place,uint32] -/
def W_maps_Clone_134 (m1 : Option Nat) (w : World) (R : (Option Nat) → World → Prop) : Prop :=
 ((Option.isNone m1) = true → R none w) ∧ ((Option.isNone m1) = false → ∃ (r2 : Value) (w1 : World), (callFunc 72 #[(.iface 99 (.map m1))]).run Tryz.prog w = .ok (.value (r2)) w1 ∧ (∃ (x1 : Option Nat), (∀ w : World, (Instr.typeAssert (r2) 20 99 false).run Tryz.prog w = .ok (.map x1) w) ∧ (R x1 w1)))
set_option maxRecDepth 100000 in
theorem go_maps_Clone_134 (m1 : Option Nat) (w : World) (R : (Option Nat) → World → Prop) (h : W_maps_Clone_134 m1 w R) : Calls Tryz.prog 49 #[.map m1] w (fun e w' => ∃ (r1 : Option Nat), e = .returned (.map r1) ∧ R r1 w') := by
 unfold W_maps_Clone_134 at h
 refine enter (N := 9) Tryz.func49 rfl rfl ?_
 refine CW.seq ?_
 refine CW.region fun L hL => ?_
 refine LW.rd hL rfl (Wants.free rfl) rfl (Rd.assign (v := .map none) rfl) ?_
 refine LW.nil hL rfl ?_
 refine NW.then ?_
 refine CW.seq ?_
 refine CW.seq ?_
 refine CW.region fun L hL => ?_
 refine LW.rd hL rfl (Wants.free rfl) rfl (Rd.move (v := .map m1) rfl) ?_
 refine LW.rd hL rfl (Wants.free rfl) rfl (Rd.bin (v := .bool (Option.isNone m1)) rfl rfl (fun w => map_nil_eq (by kernel_rfl) m1 w)) ?_
 refine LW.nil hL rfl ?_
 refine NW.then ?_
 refine CW.cond rfl (fun hb1 => ?_) (fun hb1 => ?_)
 ·replace h := h.1 hb1
  refine CW.seq ?_
  refine CW.region fun L hL => ?_
  refine LW.rd hL rfl (Wants.free rfl) rfl (Rd.assign (v := .map none) rfl) ?_
  refine LW.nil hL rfl ?_
  refine NW.then ?_
  refine CW.ret ?_
  refine RW.then ?_
  exact res1 rfl rfl ⟨none, rfl, h⟩
 ·replace h := h.2 hb1
  refine CW.skip ?_
  refine NW.then ?_
  refine CW.seq ?_
  refine CW.region fun L hL => ?_
  refine LW.rd hL rfl (Wants.free rfl) rfl (Rd.move (v := .map m1) rfl) ?_
  refine LW.rd hL rfl (Wants.free rfl) rfl (Rd.makeInterface (v := .iface 99 (.map m1)) rfl (fun _ => by kernel_rfl)) ?_
  obtain ⟨r2, w1, hx1, h⟩ := h
  refine LW.val hL rfl (Wants.free rfl) rfl (Vl.extern (v := r2) rfl hx1) ?_
  obtain ⟨x1, hx2, h⟩ := h
  refine LW.rd hL rfl (Wants.free rfl) rfl (Rd.typeAssert (v := .map x1) rfl hx2) ?_
  refine LW.rd hL rfl (Wants.free rfl) rfl (Rd.assign (v := .map x1) rfl) ?_
  refine LW.nil hL rfl ?_
  refine NW.then ?_
  refine CW.ret ?_
  exact res1 rfl rfl ⟨x1, rfl, h⟩
/- maps.Clone[map[uint32]int,uint32,int] -/
def W_maps_Clone_416 (m1 : Option Nat) (w : World) (R : (Option Nat) → World → Prop) : Prop :=
 ((Option.isNone m1) = true → R none w) ∧ ((Option.isNone m1) = false → ∃ (r2 : Value) (w1 : World), (callFunc 72 #[(.iface 127 (.map m1))]).run Tryz.prog w = .ok (.value (r2)) w1 ∧ (∃ (x1 : Option Nat), (∀ w : World, (Instr.typeAssert (r2) 20 127 false).run Tryz.prog w = .ok (.map x1) w) ∧ (R x1 w1)))
set_option maxRecDepth 100000 in
theorem go_maps_Clone_416 (m1 : Option Nat) (w : World) (R : (Option Nat) → World → Prop) (h : W_maps_Clone_416 m1 w R) : Calls Tryz.prog 68 #[.map m1] w (fun e w' => ∃ (r1 : Option Nat), e = .returned (.map r1) ∧ R r1 w') := by
 unfold W_maps_Clone_416 at h
 refine enter (N := 9) Tryz.func68 rfl rfl ?_
 refine CW.seq ?_
 refine CW.region fun L hL => ?_
 refine LW.rd hL rfl (Wants.free rfl) rfl (Rd.assign (v := .map none) rfl) ?_
 refine LW.nil hL rfl ?_
 refine NW.then ?_
 refine CW.seq ?_
 refine CW.seq ?_
 refine CW.region fun L hL => ?_
 refine LW.rd hL rfl (Wants.free rfl) rfl (Rd.move (v := .map m1) rfl) ?_
 refine LW.rd hL rfl (Wants.free rfl) rfl (Rd.bin (v := .bool (Option.isNone m1)) rfl rfl (fun w => map_nil_eq (by kernel_rfl) m1 w)) ?_
 refine LW.nil hL rfl ?_
 refine NW.then ?_
 refine CW.cond rfl (fun hb1 => ?_) (fun hb1 => ?_)
 ·replace h := h.1 hb1
  refine CW.seq ?_
  refine CW.region fun L hL => ?_
  refine LW.rd hL rfl (Wants.free rfl) rfl (Rd.assign (v := .map none) rfl) ?_
  refine LW.nil hL rfl ?_
  refine NW.then ?_
  refine CW.ret ?_
  refine RW.then ?_
  exact res1 rfl rfl ⟨none, rfl, h⟩
 ·replace h := h.2 hb1
  refine CW.skip ?_
  refine NW.then ?_
  refine CW.seq ?_
  refine CW.region fun L hL => ?_
  refine LW.rd hL rfl (Wants.free rfl) rfl (Rd.move (v := .map m1) rfl) ?_
  refine LW.rd hL rfl (Wants.free rfl) rfl (Rd.makeInterface (v := .iface 127 (.map m1)) rfl (fun _ => by kernel_rfl)) ?_
  obtain ⟨r2, w1, hx1, h⟩ := h
  refine LW.val hL rfl (Wants.free rfl) rfl (Vl.extern (v := r2) rfl hx1) ?_
  obtain ⟨x1, hx2, h⟩ := h
  refine LW.rd hL rfl (Wants.free rfl) rfl (Rd.typeAssert (v := .map x1) rfl hx2) ?_
  refine LW.rd hL rfl (Wants.free rfl) rfl (Rd.assign (v := .map x1) rfl) ?_
  refine LW.nil hL rfl ?_
  refine NW.then ?_
  refine CW.ret ?_
  exact res1 rfl rfl ⟨x1, rfl, h⟩
/- maps.Clone[map[pomander/labels.pair]int,pomander/labels.pair,int] -/
def W_maps_Clone_413 (m1 : Option Nat) (w : World) (R : (Option Nat) → World → Prop) : Prop :=
 ((Option.isNone m1) = true → R none w) ∧ ((Option.isNone m1) = false → ∃ (r2 : Value) (w1 : World), (callFunc 72 #[(.iface 128 (.map m1))]).run Tryz.prog w = .ok (.value (r2)) w1 ∧ (∃ (x1 : Option Nat), (∀ w : World, (Instr.typeAssert (r2) 20 128 false).run Tryz.prog w = .ok (.map x1) w) ∧ (R x1 w1)))
set_option maxRecDepth 100000 in
theorem go_maps_Clone_413 (m1 : Option Nat) (w : World) (R : (Option Nat) → World → Prop) (h : W_maps_Clone_413 m1 w R) : Calls Tryz.prog 69 #[.map m1] w (fun e w' => ∃ (r1 : Option Nat), e = .returned (.map r1) ∧ R r1 w') := by
 unfold W_maps_Clone_413 at h
 refine enter (N := 9) Tryz.func69 rfl rfl ?_
 refine CW.seq ?_
 refine CW.region fun L hL => ?_
 refine LW.rd hL rfl (Wants.free rfl) rfl (Rd.assign (v := .map none) rfl) ?_
 refine LW.nil hL rfl ?_
 refine NW.then ?_
 refine CW.seq ?_
 refine CW.seq ?_
 refine CW.region fun L hL => ?_
 refine LW.rd hL rfl (Wants.free rfl) rfl (Rd.move (v := .map m1) rfl) ?_
 refine LW.rd hL rfl (Wants.free rfl) rfl (Rd.bin (v := .bool (Option.isNone m1)) rfl rfl (fun w => map_nil_eq (by kernel_rfl) m1 w)) ?_
 refine LW.nil hL rfl ?_
 refine NW.then ?_
 refine CW.cond rfl (fun hb1 => ?_) (fun hb1 => ?_)
 ·replace h := h.1 hb1
  refine CW.seq ?_
  refine CW.region fun L hL => ?_
  refine LW.rd hL rfl (Wants.free rfl) rfl (Rd.assign (v := .map none) rfl) ?_
  refine LW.nil hL rfl ?_
  refine NW.then ?_
  refine CW.ret ?_
  refine RW.then ?_
  exact res1 rfl rfl ⟨none, rfl, h⟩
 ·replace h := h.2 hb1
  refine CW.skip ?_
  refine NW.then ?_
  refine CW.seq ?_
  refine CW.region fun L hL => ?_
  refine LW.rd hL rfl (Wants.free rfl) rfl (Rd.move (v := .map m1) rfl) ?_
  refine LW.rd hL rfl (Wants.free rfl) rfl (Rd.makeInterface (v := .iface 128 (.map m1)) rfl (fun _ => by kernel_rfl)) ?_
  obtain ⟨r2, w1, hx1, h⟩ := h
  refine LW.val hL rfl (Wants.free rfl) rfl (Vl.extern (v := r2) rfl hx1) ?_
  obtain ⟨x1, hx2, h⟩ := h
  refine LW.rd hL rfl (Wants.free rfl) rfl (Rd.typeAssert (v := .map x1) rfl hx2) ?_
  refine LW.rd hL rfl (Wants.free rfl) rfl (Rd.assign (v := .map x1) rfl) ?_
  refine LW.nil hL rfl ?_
  refine NW.then ?_
  refine CW.ret ?_
  exact res1 rfl rfl ⟨x1, rfl, h⟩
/- slices.Clone[[]uint32,uint32] -/
def W_slices_Clone_334 (s1 : Option Addr) (s1n : Nat) (s1c : Nat) (w : World) (R : (Option Addr) → Nat → Nat → World → Prop) : Prop :=
 ∃ (t1 : Bool), (∀ w : World, ((do eqGuard .eql 59 (.tmp 3) (.const (.slice none 0 0)) (.slice s1 s1n s1c) (.slice none 0 0); binOp .eql 59 (.slice s1 s1n s1c) (.slice none 0 0) : Sem Value)).run Tryz.prog w = .ok (.bool t1) w) ∧ ((t1 = true → R none 0 0 w) ∧ (t1 = false → ∀ b1 : Nat, b1 = World.size w → ∀ w1 : World, w1 = World.alloc w (.cells #[] 43) → (∃ (l1 : Option Addr) (l1n : Nat) (l1c : Nat) (w2 : World), (Builtin.append_ #[59, 59] 59 #[.slice (some (⟨b1, 0, none⟩ : Addr)) 0 0, .slice s1 s1n s1c]).run Tryz.prog w1 = .ok (.slice l1 l1n l1c) w2 ∧ (R l1 l1n l1c w2))))
set_option maxRecDepth 100000 in
theorem go_slices_Clone_334 (s1 : Option Addr) (s1n : Nat) (s1c : Nat) (w : World) (R : (Option Addr) → Nat → Nat → World → Prop) (h : W_slices_Clone_334 s1 s1n s1c w R) : Calls Tryz.prog 67 #[.slice s1 s1n s1c] w (fun e w' => ∃ (r1 : Option Addr) (r1n : Nat) (r1c : Nat), e = .returned (.slice r1 r1n r1c) ∧ R r1 r1n r1c w') := by
 unfold W_slices_Clone_334 at h
 refine enter (N := 8) Tryz.func67 rfl rfl ?_
 refine CW.seq ?_
 refine CW.region fun L hL => ?_
 refine LW.rd hL rfl (Wants.free rfl) rfl (Rd.assign (v := .slice none 0 0) rfl) ?_
 refine LW.nil hL rfl ?_
 refine NW.then ?_
 refine CW.seq ?_
 refine CW.seq ?_
 refine CW.region fun L hL => ?_
 refine LW.rd hL rfl (Wants.free rfl) rfl (Rd.move (v := .slice s1 s1n s1c) rfl) ?_
 obtain ⟨t1, hx1, h⟩ := h
 refine LW.rd hL rfl (Wants.free rfl) rfl (Rd.bin (v := .bool t1) rfl rfl hx1) ?_
 refine LW.nil hL rfl ?_
 refine NW.then ?_
 refine CW.cond rfl (fun hb1 => ?_) (fun hb1 => ?_)
 ·replace h := h.1 hb1
  refine CW.seq ?_
  refine CW.region fun L hL => ?_
  refine LW.rd hL rfl (Wants.free rfl) rfl (Rd.assign (v := .slice none 0 0) rfl) ?_
  refine LW.nil hL rfl ?_
  refine NW.then ?_
  refine CW.ret ?_
  refine RW.then ?_
  exact res1 rfl rfl ⟨none, 0, 0, rfl, h⟩
 ·replace h := h.2 hb1
  refine CW.skip ?_
  refine NW.then ?_
  refine CW.seq ?_
  refine CW.region fun L hL => ?_
  obtain ⟨b1, hb_b1⟩ : ∃ b1, b1 = World.size w := ⟨_, rfl⟩
  obtain ⟨w1, hw_w1⟩ : ∃ w1, w1 = World.alloc w (.cells #[] 43) := ⟨_, rfl⟩
  replace h := h b1 hb_b1 w1 hw_w1
  refine LW.val hL rfl (Wants.free rfl) rfl (sliceE (n := 0) hb_b1 hw_w1 (fun w => Vl.buildSlice (vs := []) rfl (by kernel_rfl))) ?_
  refine LW.rd hL rfl (Wants.free rfl) rfl (Rd.move (v := .slice s1 s1n s1c) rfl) ?_
  obtain ⟨l1, l1n, l1c, w2, ha1, h⟩ := h
  refine LW.val hL rfl (Wants.free rfl) rfl (Vl.builtin (v := .slice l1 l1n l1c) rfl (valB ha1)) ?_
  refine LW.rd hL rfl (Wants.free rfl) rfl (Rd.assign (v := .slice l1 l1n l1c) rfl) ?_
  refine LW.nil hL rfl ?_
  refine NW.then ?_
  refine CW.ret ?_
  exact res1 rfl rfl ⟨l1, l1n, l1c, rfl, h⟩
end Go.Proofs.YtfcfkhbkkfpehaaGreatDoor
end
section
/- maps.Clone, slices.Clone; Copy of a table, of a flow. -/
namespace Go.Proofs.YtfcfkhbkkfpehaaGreatDoor
open Go Go.RowKit Go.X Go.XR
theorem run_clone {P : Program} {w : World} {r : Nat} {es : Array MapEntry} {clk : Nat} (t : TypeId) (hb : w.heap[r]? = some (.map es clk)) :
  (Extern.MapsClone.clone #[.iface t (.map (some r))]).run P w = .ok (.iface t (.map (some w.heap.size))) (w.alloc (.map es clk)) := by
 have e : Extern.MapsClone.clone #[.iface t (.map (some r))] = (getObj r >>= fun o => match o with
   | .map entries clock => (newObj (.map entries clock) >>= fun n => pure (.iface t (.map (some n))))
   | _ => stuck "maps.clone: a map expected") := rfl
 rw [e]
 simp [MapKept.run_getObj_map hb, Result.andThen, go_sem]
theorem run_clone114 {w : World} {r : Nat} {es : Array MapEntry} {clk : Nat} (t : TypeId) (hb : w.heap[r]? = some (.map es clk)) :
  (callFunc 72 #[.iface t (.map (some r))]).run Tryz.prog w = .ok (.value (.iface t (.map (some w.heap.size)))) (w.alloc (.map es clk)) := by
 rw [run_callFunc_extern Tryz.func72 (by kernel_rfl) (by kernel_rfl) (by kernel_rfl) (e := Extern.MapsClone.clone) (by kernel_rfl), run_clone t hb]
 rfl
theorem run_assertMap {P : Program} (t xT k e : TypeId) (v : Value) (h : P.underlying t = some (.map k e)) (w : World) : (Instr.typeAssert (.iface t v) xT t false).run P w = .ok v w := by
 simp [Instr.typeAssert, run_underlying h, go_sem, Result.andThen]
theorem clone80 {w : World} {b : Nat} {es : Array MapEntry} {clk : Nat} (hb : w.heap[b]? = some (.map es clk)) :
  Calls Tryz.prog 49 #[.map (some b)] w fun e w' => ∃ r : Option Nat, e = .returned (.map r) ∧ (r = some w.heap.size ∧ w' = w.alloc (.map es clk)) := by
 refine go_maps_Clone_134 _ _ _ ?_
 unfold W_maps_Clone_134
 exact ⟨fun h => by simp at h, fun _ => ⟨_, _, run_clone114 99 hb, _, fun w => run_assertMap 99 20 _ _ _ u143 w, rfl, rfl⟩⟩
theorem clone112 {w : World} {b : Nat} {es : Array MapEntry} {clk : Nat} (hb : w.heap[b]? = some (.map es clk)) :
  Calls Tryz.prog 68 #[.map (some b)] w fun e w' => ∃ r : Option Nat, e = .returned (.map r) ∧ (r = some w.heap.size ∧ w' = w.alloc (.map es clk)) := by
 refine go_maps_Clone_416 _ _ _ ?_
 unfold W_maps_Clone_416
 exact ⟨fun h => by simp at h, fun _ => ⟨_, _, run_clone114 127 hb, _, fun w => run_assertMap 127 20 _ _ _ u198 w, rfl, rfl⟩⟩
theorem clone113 {w : World} {b : Nat} {es : Array MapEntry} {clk : Nat} (hb : w.heap[b]? = some (.map es clk)) :
  Calls Tryz.prog 69 #[.map (some b)] w fun e w' => ∃ r : Option Nat, e = .returned (.map r) ∧ (r = some w.heap.size ∧ w' = w.alloc (.map es clk)) := by
 refine go_maps_Clone_413 _ _ _ ?_
 unfold W_maps_Clone_413
 exact ⟨fun h => by simp at h, fun _ => ⟨_, _, run_clone114 128 hb, _, fun w => run_assertMap 128 20 _ _ _ (show Tryz.prog.underlying 128 = some (.map 146 3) by kernel_rfl) w, rfl, rfl⟩⟩
theorem slice_nil_eq (a : Addr) (n c : Nat) (x y : Operand) (w : World) : ((do eqGuard .eql 59 x y (.slice (some a) n c) (.slice none 0 0); binOp .eql 59 (.slice (some a) n c) (.slice none 0 0) : Sem Value)).run Tryz.prog w = .ok (.bool false) w := by
 simp only [binOp]
 simp [eqGuard, run_equal_slice_nil w 59 43 (some a) n c (show Tryz.prog.underlying 59 = some (.slice 43) by kernel_rfl)]
theorem clone111 {w : World} {a : Addr} {n c : Nat} {xs : List Int} (h : RowAt w 43 1 (some a) n c (xs.map (.int .u32))) (hn : n ≤ 1000000000) :
  Calls Tryz.prog 67 #[.slice (some a) n c] w fun e w' => ∃ (r : Option Addr) (rn rc : Nat), e = .returned (.slice r rn rc) ∧ (rn = n ∧ RowAt w' 43 1 r n rc (xs.map (.int .u32)) ∧ Chg [] w w' ∧ ∀ i ∈ rowB r, w.heap.size ≤ i) := by
 refine go_slices_Clone_334 _ _ _ _ _ ?_
 unfold W_slices_Clone_334
 refine ⟨false, slice_nil_eq a n c _ _, fun h => by simp at h, fun _ => ?_⟩
 refine v_alloc fun b1 w1 e1 hb1 c1 => ?_
 have hl := h.length
 have h0 : RowAt w1 43 1 (some ⟨b1, 0, none⟩) 0 0 [] := RowAt.of_heap (n := 0) (cs := []) hb1 rfl (Nat.zero_le _)
 obtain ⟨p', c', w', happ, hrow, hc, hf⟩ := h0.append (P := Tryz.prog) (t := 59) (ty := 59) (i := _) (z := .int .u32 0) (bytes := 4) (by kernel_rfl) (show Tryz.prog.info? 43 = some Tryz.t43 by kernel_rfl) (by kernel_rfl) (by kernel_rfl) (by kernel_rfl) rfl (by omega)
  (a := a) (m := n) (mc := c) (news := xs.map (.int .u32)) (by simpa using hl) (fun i u hi => by
   obtain ⟨a', ea, hc⟩ := (h.chg c1 (by simp)).at hi
   obtain rfl : a = a' := by simpa using ea
   exact hc) (fun u hu => by obtain ⟨x, _, rfl⟩ := List.mem_map.1 hu; rfl) (by simp only [maxLen]; omega) (by omega)
 refine ⟨p', 0 + n, c', w', happ, by omega, by simpa using hrow, c1.trans hc (fun i hi hlt => by simp [rowB] at hi; omega), fun i hi => ?_⟩
 rcases hf i hi with h | h
 ·simp [rowB] at h; omega
 ·have := c1.size; omega
theorem table_copy {w : World} {b : Nat} {most : Int} {sets : List Int} {fp : List Nat} (h : TableAt w b most sets fp) :
  Calls Tryz.prog 47 #[.pointer (some ⟨b, 0, none⟩)] w fun e w' => ∃ r1 : Option Addr, e = .returned (.pointer r1) ∧ (∃ b' fp', r1 = some ⟨b', 0, none⟩ ∧ TableAt w' b' most sets fp' ∧ Chg [] w w' ∧ ∀ i ∈ fp', w.heap.size ≤ i) := by
 obtain ⟨p, c, r, j, clk, h1, h2, h3, h4, rfl⟩ := h.there
 refine go_labels_Table_Copy _ _ _ ?_
 unfold W_labels_Table_Copy
 refine (table_none h).mono ?_
 rintro _ w1 ⟨_, rfl, rfl, hw⟩
 subst w1
 refine ⟨_, rfl, fun h => by simp at h, fun _ w2 c2 => ?_⟩
 obtain ⟨a, rfl⟩ : ∃ a, p = some a := by
  cases p with
  | some a => exact ⟨a, rfl⟩
  | none =>
   exfalso
   obtain ⟨s, hs⟩ : ∃ s, (sets.map (Value.int .u32))[0]? = some s := by
    have := h.some
    cases sets with
    | nil => exact absurd rfl this
    | cons a l => exact ⟨_, rfl⟩
   obtain ⟨a, ha, _⟩ := h2.at hs
   cases ha
 have h12 := c2.obj (by simp) h1
 have cells : ∀ {A : World}, A.heap[b]? = some (.cells #[.int .i64 most, .slice (some a) sets.length c, .map (some r), .map (some j)] 130 (0, 0)) →
   A.cell? (⟨b, 0, none⟩ : Addr) = some (.int .i64 most) ∧ A.cell? ((⟨b, 0, none⟩ : Addr).add 1) = some (.slice (some a) sets.length c) ∧ A.cell? ((⟨b, 0, none⟩ : Addr).add 2) = some (.map (some r)) ∧ A.cell? ((⟨b, 0, none⟩ : Addr).add 3) = some (.map (some j)) := fun hA =>
  ⟨by rw [cell_of hA]; rfl, by rw [add_at, cell_of hA]; rfl, by rw [add_at, cell_of hA]; rfl, by rw [add_at, cell_of hA]; rfl⟩
 have k2 := cells h12
 have hm := h.most2
 have hfw := h.few
 refine ⟨_, rfl, _, k2.1, _, _, _, k2.2.1, _, k2.2.2.1, _, k2.2.2.2, ?_⟩
 refine (clone111 (h2.chg c2 (by simp)) (by omega)).mono ?_
 rintro _ w3 ⟨q, qn, qc, rfl, rfl, hq, c3, hqf⟩
 have c03 := c2.trans0 c3
 have k3 := cells (c03.obj (by simp) h1)
 refine ⟨_, _, _, rfl, ⟨k3.1, k3.2.1, k3.2.2.1, k3.2.2.2⟩, ?_⟩
 obtain ⟨es, ck, m1, m2⟩ := h3.chg c03 (by simp)
 refine (clone112 m1).mono ?_
 rintro _ w4 ⟨_, rfl, rfl, hw⟩
 have c4 : Chg [] w3 w4 := by rw [hw]; exact Chg.alloc _ _
 have m14 : w4.heap[w3.heap.size]? = some (.map es ck) := by rw [hw]; exact heap_new _ _
 have k4 := cells ((c03.trans0 c4).obj (by simp) h1)
 refine ⟨_, rfl, ⟨k4.1, k4.2.1, k4.2.2.1, k4.2.2.2⟩, ?_⟩
 refine (clone113 ((c03.trans0 c4).obj (by simp) h4)).mono ?_
 rintro _ w5 ⟨_, rfl, rfl, hw5⟩
 have c5 : Chg [] w4 w5 := by rw [hw5]; exact Chg.alloc _ _
 have m15 : w5.heap[w4.heap.size]? = some (.map #[] clk) := by rw [hw5]; exact heap_new _ _
 have c05 := (c03.trans0 c4).trans0 c5
 have k5 := cells (c05.obj (by simp) h1)
 refine ⟨_, rfl, ⟨k5.1, k5.2.1, k5.2.2.1, k5.2.2.2⟩, ?_⟩
 refine v_alloc fun b1 w6 e1 hb1 c6 => ?_
 have s2 := c2.size
 have s3 := c3.size
 have s4 : w4.heap.size = w3.heap.size + 1 := by rw [hw]; simp
 have s5 : w5.heap.size = w4.heap.size + 1 := by rw [hw5]; simp
 have hqlt := hq.lt
 refine ⟨b1, b1 :: w3.heap.size :: w4.heap.size :: rowB q, rfl, ⟨⟨q, qc, w3.heap.size, w4.heap.size, clk, hb1, ((hq.chg c4 (by simp)).chg c5 (by simp)).chg c6 (by simp), ⟨es, ck, c6.obj (by simp) (c5.obj (by simp) m14), m2⟩, c6.obj (by simp) m15, rfl⟩, ?_, h.some, h.few, h.most1, h.most2, h.each, h.distinct⟩, c05.trans0 c6, fun i hi => ?_⟩
 ·simp only [List.nodup_cons, List.mem_cons, not_or]
  exact ⟨⟨by omega, by omega, fun hm => by have := hqlt _ hm; omega⟩, ⟨by omega, fun hm => by have := hqlt _ hm; omega⟩, fun hm => by have := hqlt _ hm; omega, rowB_nodup _⟩
 ·simp only [List.mem_cons] at hi
  rcases hi with rfl | rfl | rfl | hi
  ·omega
  ·omega
  ·omega
  ·have := hqf i hi; omega
theorem flow_copy {w : World} {b : Nat} {F : Fl} {fp : List Nat} (h : FlowAt w b F fp) :
  Calls Tryz.prog 27 #[.pointer (some ⟨b, 0, none⟩)] w fun e w' => ∃ r1 : Option Addr, e = .returned (.pointer r1) ∧ (∃ b' fp', r1 = some ⟨b', 0, none⟩ ∧ FlowAt w' b' F fp' ∧ Chg [] w w' ∧ ∀ i ∈ fp', w.heap.size ≤ i) := by
 obtain ⟨T, m, d, r, l, fpT, fpm, fpd, gm, gd, h1, h2, h3, h4, h5, h6, h7, h8, h9, rfl⟩ := h.there
 refine go_flow_Flow_Copy _ _ _ ?_
 unfold W_flow_Flow_Copy
 refine (flow_none h).mono ?_
 rintro _ w1 ⟨_, rfl, rfl, hw⟩
 subst w1
 refine ⟨_, rfl, fun h => by simp at h, fun _ w2 c2 => ?_⟩
 have cells : ∀ {A : World}, A.heap[b]? = some (.cells #[.int .i64 F.fr, .int .i64 F.se, .pointer (some ⟨T, 0, none⟩), .pointer (some ⟨m, 0, none⟩), .pointer (some ⟨d, 0, none⟩), .map (some r)] 101 (0, 0)) →
   CellsAt A (⟨b, 0, none⟩ : Addr) 0 [.int .i64 F.fr, .int .i64 F.se] ∧ A.cell? ((⟨b, 0, none⟩ : Addr).add 2) = some (.pointer (some ⟨T, 0, none⟩)) ∧ A.cell? ((⟨b, 0, none⟩ : Addr).add 3) = some (.pointer (some ⟨m, 0, none⟩)) ∧ A.cell? ((⟨b, 0, none⟩ : Addr).add 4) = some (.pointer (some ⟨d, 0, none⟩)) ∧ A.cell? ((⟨b, 0, none⟩ : Addr).add 5) = some (.map (some r)) := fun hA =>
  ⟨⟨by rw [add_at, cell_of hA]; rfl, by rw [add_at, cell_of hA]; rfl, trivial⟩, by rw [add_at, cell_of hA]; rfl, by rw [add_at, cell_of hA]; rfl, by rw [add_at, cell_of hA]; rfl, by rw [add_at, cell_of hA]; rfl⟩
 have k2 := cells (c2.obj (by simp) h1)
 refine ⟨_, rfl, _, _, k2.1, _, k2.2.1, _, k2.2.2.1, _, k2.2.2.2.1, _, k2.2.2.2.2, ?_⟩
 refine (table_copy (h2.chg c2 (by simp))).mono ?_
 rintro _ w3 ⟨_, rfl, T', fpT', rfl, hT', c3, hfT⟩
 have c03 := c2.trans0 c3
 refine ⟨_, rfl, cells (c03.obj (by simp) h1), ?_⟩
 refine (shadow_copy (h3.chg c03 (by simp))).mono ?_
 rintro _ w4 ⟨_, rfl, m', fpm', rfl, hm', c4, hfm⟩
 have c04 := c03.trans0 c4
 refine ⟨_, rfl, cells (c04.obj (by simp) h1), ?_⟩
 refine (shadow_copy (h4.chg c04 (by simp))).mono ?_
 rintro _ w5 ⟨_, rfl, d', fpd', rfl, hd', c5, hfd⟩
 have c05 := c04.trans0 c5
 refine ⟨_, rfl, cells (c05.obj (by simp) h1), ?_⟩
 obtain ⟨es, ck, m1, m2⟩ := h5.chg c05 (by simp)
 refine (clone80 m1).mono ?_
 rintro _ w6 ⟨_, rfl, rfl, hw6⟩
 have c6 : Chg [] w5 w6 := by rw [hw6]; exact Chg.alloc _ _
 have m16 : w6.heap[w5.heap.size]? = some (.map es ck) := by rw [hw6]; exact heap_new _ _
 refine ⟨_, rfl, cells ((c05.trans0 c6).obj (by simp) h1), ?_⟩
 refine v_alloc fun b1 w7 e1 hb1 c7 => ?_
 have s2 := c2.size
 have s3 := c3.size
 have s4 := c4.size
 have s5 := c5.size
 have s6 : w6.heap.size = w5.heap.size + 1 := by rw [hw6]; simp
 have t1 := hT'.lt
 have t2 := hm'.lt
 have t3 := hd'.lt
 have c37 := ((c4.trans0 c5).trans0 c6).trans0 c7
 refine ⟨b1, b1 :: w5.heap.size :: (fpT' ++ (fpm' ++ fpd')), rfl, ⟨⟨T', m', d', w5.heap.size, l, fpT', fpm', fpd', gm, gd, hb1, hT'.chg c37 (by simp), hm'.chg ((c5.trans0 c6).trans0 c7) (by simp), hd'.chg (c6.trans0 c7) (by simp), ⟨es, ck, c7.obj (by simp) m16, m2⟩, h6, h7, h8, h9, rfl⟩, ?_⟩, (c05.trans0 c6).trans0 c7, fun i hi => ?_⟩
 ·have u1 := hT'.nodup
  have u2 := hm'.nodup
  have u3 := hd'.nodup
  simp only [List.nodup_cons, List.mem_cons, List.mem_append, not_or, List.nodup_append]
  refine ⟨⟨by omega, fun hm => by have := t1 _ hm; omega, fun hm => by have := t2 _ hm; omega, fun hm => by have := t3 _ hm; omega⟩, ⟨fun hm => by have := t1 _ hm; omega, fun hm => by have := t2 _ hm; omega, fun hm => by have := t3 _ hm; omega⟩, u1, ⟨u2, u3, fun a ha c hc e => ?_⟩, fun a ha c hc e => ?_⟩
  ·have := t2 a ha; have := hfd c hc; omega
  ·have := t1 a ha
   rcases hc with hc | hc
   ·have := hfm c hc; omega
   ·have := hfd c hc; omega
 ·simp only [List.mem_cons, List.mem_append] at hi
  rcases hi with rfl | rfl | hi | hi | hi
  ·omega
  ·omega
  ·have := hfT i hi; omega
  ·have := hfm i hi; omega
  ·have := hfd i hi; omega
end Go.Proofs.YtfcfkhbkkfpehaaGreatDoor
end
