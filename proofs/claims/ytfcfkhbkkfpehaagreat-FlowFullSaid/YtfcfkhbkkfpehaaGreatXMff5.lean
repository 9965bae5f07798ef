/- Texts of the claim, merged: XPages XMisc XSame12 XGz4 XFfullW XOpen4 XStep. -/
import Derived.Test.YtfcfkhbkkfpehaaGreatXMff4
import Derived.Test.YtfcfkhbkkfpehaaGreatProg
import Derived.Test.YtfcfkhbkkfpehaaGreatRows
set_option linter.unusedSimpArgs false
set_option linter.unusedVariables false
set_option maxRecDepth 100000
section
/- Pages of sets, the sets that are kept: the flow's, the document's. -/
namespace Go.Proofs.YtfcfkhbkkfpehaaGreat
open Go Go.RowKit Go.X Go.XR
theorem table_all {w : World} {b : Nat} {most : Int} {sets : List Int} {fp : List Nat} (h : TableAt w b most sets fp) :
  Calls Tryz.prog 68 #[.pointer (some ⟨b, 0, none⟩)] w fun e w' => ∃ (r : Option Addr) (rn rc : Nat), e = .returned (.slice r rn rc) ∧ (rn = sets.length ∧ RowAt w' 22 1 r rn rc (sets.map (.int .u32)) ∧ Chg [] w w' ∧ ∀ i ∈ rowB r, w.heap.size ≤ i) := by
 refine go_labels_Table_All _ _ _ ?_
 unfold W_labels_Table_All
 refine (table_none h).mono ?_
 rintro _ w1 ⟨_, rfl, rfl, hw⟩
 subst w1
 obtain ⟨p, c, r, j, clk, a1, a2, _⟩ := h.there
 refine ⟨_, rfl, fun h => by simp at h, fun _ => ⟨_, rfl, p, _, c, by rw [add_at, cell_of a1]; rfl, ?_⟩⟩
 have hl := h.few
 have hm := h.most2
 have hp : 0 < sets.length := List.length_pos_iff.2 h.some
 obtain ⟨a, rfl, _⟩ : ∃ a, p = some a ∧ True := by
  obtain ⟨x, hx⟩ := get_of (l := sets) hp
  obtain ⟨a, e, _⟩ := a2.at (j := 0) (u := .int .u32 x) (by simp [hx])
  exact ⟨a, e, trivial⟩
 refine (clone111 a2 (by omega)).mono ?_
 rintro _ w2 ⟨r3, rn, rc, rfl, rfl, hr, c2, hf⟩
 exact ⟨_, _, _, rfl, rfl, hr, c2, hf⟩
theorem flow_sets {w : World} {b : Nat} {F : Fl} {fp : List Nat} (h : FlowAt w b F fp) :
  Calls Tryz.prog 33 #[.pointer (some ⟨b, 0, none⟩)] w fun e w' => ∃ (r : Option Addr) (rn rc : Nat), e = .returned (.slice r rn rc) ∧ (rn = F.sets.length ∧ RowAt w' 22 1 r rn rc (F.sets.map (.int .u32)) ∧ Chg [] w w' ∧ ∀ i ∈ rowB r, w.heap.size ≤ i) := by
 refine go_flow_Flow_Sets _ _ _ ?_
 unfold W_flow_Flow_Sets
 refine (flow_none h).mono ?_
 rintro _ w1 ⟨_, rfl, rfl, hw⟩
 subst w1
 obtain ⟨T, m, d, r, l, fpT, fpm, fpd, gm, gd, h1, h2, _⟩ := h.there
 refine ⟨_, rfl, fun h => by simp at h, fun _ => ⟨_, rfl, _, by rw [add_at, cell_of h1]; rfl, ?_⟩⟩
 refine (table_all h2).mono ?_
 rintro _ w2 ⟨r3, rn, rc, rfl, h3⟩
 exact ⟨_, _, _, rfl, h3⟩
def pagesF (F : Fl) (k bound : Int) : Nat := pagesL (fun n => F.g (k, n)) bound bound.toNat
theorem flow_pages {w : World} {b : Nat} {F : Fl} {fp : List Nat} (h : FlowAt w b F fp) :
  Calls Tryz.prog 36 #[.pointer (some ⟨b, 0, none⟩)] w fun e w' => ∃ (r1 r2 : Int), e = .returned (.tuple #[.int .i64 r1, .int .i64 r2]) ∧ (r1 = pagesF F 10 F.fr ∧ r2 = pagesF F 12 F.se ∧ Chg [] w w') := by
 refine go_flow_Flow_Pages _ _ _ ?_
 unfold W_flow_Flow_Pages
 refine (flow_none h).mono ?_
 rintro _ w1 ⟨_, rfl, rfl, hw⟩
 subst w1
 refine ⟨_, rfl, fun h => by simp at h, fun _ w2 c2 => ?_⟩
 obtain ⟨T, m, d, r, l, fpT, fpm, fpd, gm, gd, h1, h2, h3, h4, h5, h6, h7, _⟩ := (h.chg c2 (by simp)).there
 refine ⟨_, rfl, _, by rw [add_at, cell_of h1]; rfl, _, by rw [add_at, cell_of h1]; rfl, ?_⟩
 refine (shadow_pages h3).mono ?_
 rintro _ w3 ⟨_, rfl, rfl, hw⟩
 subst w3
 refine ⟨_, rfl, ⟨by rw [add_at, cell_of h1]; rfl, by rw [add_at, cell_of h1]; rfl⟩, ?_⟩
 refine (shadow_pages h4).mono ?_
 rintro _ w4 ⟨_, rfl, rfl, hw⟩
 subst w4
 have e1 : gm = fun n => F.g (10, n) := funext fun n => (h6 n).symm
 have e2 : gd = fun n => F.g (12, n) := funext fun n => (h7 n).symm
 exact ⟨_, rfl, by rw [e1]; rfl, by rw [e2]; rfl, c2⟩
/-! ### The document's pages -/
def pageStep (k : Int) (s : Int × Int) (x : Pr) : Int × Int := if x.1.1 = k ∧ x.1.2 / 64 ≠ s.2 then (s.1 + 1, x.1.2 / 64) else s
def pageFold (k : Int) (l : List Pr) : Int × Int := l.foldl (pageStep k) (0, -1)
theorem pageFold_snoc (k : Int) (l : List Pr) (x : Pr) : pageFold k (l ++ [x]) = pageStep k (pageFold k l) x := by simp [pageFold]
def onPage (k : Int) (l : List Pr) (i : Nat) : Bool := l.any fun x => decide (x.1.1 = k ∧ x.1.2 / 64 = i)
theorem countP_new {n : Nat} {p q : Nat → Bool} {i : Nat} (hi : i < n) (hp : p i = false) (hq : q i = true) (h : ∀ j, j ≠ i → q j = p j) : (List.range n).countP q = (List.range n).countP p + 1 := by
 have := countP_set (l := List.range n) List.nodup_range (List.mem_range.2 hi) p q fun j hj => (h j hj).symm
 simp [hp, hq] at this
 omega
theorem page_inv {fr se : Int} {k K : Int} (hK : ∀ q, mayP fr se q → q.1 = k → q.2 < 64 * K) : ∀ (n : Nat) (l : List Pr), l.length = n → Good fr se l →
  (pageFold k l).1 = ((List.range K.toNat).countP (onPage k l) : Nat) ∧ (∀ x ∈ l, x.1.1 = k → x.1.2 / 64 ≤ (pageFold k l).2) ∧ ((pageFold k l).2 = -1 ∨ ∃ x ∈ l, x.1.1 = k ∧ x.1.2 / 64 = (pageFold k l).2)
 | 0, l, hl, _ => by
  obtain rfl := List.eq_nil_of_length_eq_zero hl
  refine ⟨?_, by simp, .inl rfl⟩
  have : (List.range K.toNat).countP (onPage k []) = 0 := List.countP_eq_zero.2 (by simp [onPage])
  rw [this]; rfl
 | n + 1, l, hl, hg => by
  have hne : l ≠ [] := fun e => by subst e; simp at hl
  obtain ⟨l', x, rfl⟩ : ∃ l' x, l = l' ++ [x] := ⟨l.dropLast, l.getLast hne, (List.dropLast_concat_getLast hne).symm⟩
  have hr := hg.rise
  rw [List.map_append, List.pairwise_append] at hr
  have hg' : Good fr se l' := ⟨hr.1, fun y hy => hg.each y (by simp [hy])⟩
  obtain ⟨i1, i2, i3⟩ := page_inv hK n l' (by simpa using hl) hg'
  have hx := hg.each x (by simp)
  have hbe : ∀ y ∈ l', aheadP y.1 x.1 := fun y hy => hr.2.2 y.1 (List.mem_map.2 ⟨y, hy, rfl⟩) x.1 (by simp)
  rw [pageFold_snoc]
  unfold pageStep
  by_cases hk : x.1.1 = k
  ·have h0 := hx.2.2.2.1
   have hb := hK x.1 hx.2 hk
   have hle : (pageFold k l').2 ≤ x.1.2 / 64 := by
    rcases i3 with e | ⟨y, hy, hyk, e⟩
    ·omega
    ·have := hbe y hy
     unfold aheadP at this
     omega
   by_cases hp : x.1.2 / 64 = (pageFold k l').2
   ·rw [if_neg (fun h => h.2 hp)]
    refine ⟨?_, fun y hy hyk => ?_, .inr ⟨x, by simp, hk, hp⟩⟩
    ·rw [i1]
     congr 1
     refine List.countP_congr fun i _ => ?_
     rcases i3 with e | ⟨y, hy, hyk, e⟩
     ·omega
     ·simp only [onPage, List.any_append, List.any_cons, List.any_nil, Bool.or_false, Bool.or_eq_true, decide_eq_true_eq]
      constructor
      ·exact .inl
      ·rintro (h | h)
       ·exact h
       ·rw [List.any_eq_true]; exact ⟨y, hy, by rw [decide_eq_true_eq]; exact ⟨hyk, by omega⟩⟩
    ·rcases List.mem_append.1 hy with hy | hy
     ·exact i2 y hy hyk
     ·simp at hy; subst hy; omega
   ·rw [if_pos ⟨hk, hp⟩]
    refine ⟨?_, fun y hy hyk => ?_, .inr ⟨x, by simp, hk, rfl⟩⟩
    ·rw [i1, countP_new (p := onPage k l') (q := onPage k (l' ++ [x])) (i := (x.1.2 / 64).toNat) (by omega) ?_ ?_ ?_]
     ·simp only []; omega
     ·cases hq : onPage k l' (x.1.2 / 64).toNat with
      | false => rfl
      | true =>
       unfold onPage at hq
       rw [List.any_eq_true] at hq
       obtain ⟨y, hy, e⟩ := hq
       rw [decide_eq_true_eq] at e
       have := i2 y hy e.1
       omega
     ·simp only [onPage, List.any_append, List.any_cons, List.any_nil, Bool.or_false, Bool.or_eq_true, decide_eq_true_eq]
      exact .inr ⟨hk, by omega⟩
     ·intro j hj
      simp only [onPage, List.any_append, List.any_cons, List.any_nil, Bool.or_false]
      have : decide (x.1.1 = k ∧ x.1.2 / 64 = (j : Int)) = false := by rw [decide_eq_false_iff_not]; omega
      rw [this, Bool.or_false]
    ·rcases List.mem_append.1 hy with hy | hy
     ·have := i2 y hy hyk; simp only []; omega
     ·simp at hy; subst hy; exact Int.le_refl _
  ·rw [if_neg (fun h => hk h.1)]
   refine ⟨?_, fun y hy hyk => ?_, ?_⟩
   ·rw [i1]
    congr 1
    refine List.countP_congr fun i _ => ?_
    simp [onPage, hk]
   ·rcases List.mem_append.1 hy with hy | hy
    ·exact i2 y hy hyk
    ·simp at hy; subst hy; exact absurd hyk hk
   ·rcases i3 with e | ⟨y, hy, h⟩
    ·exact .inl e
    ·exact .inr ⟨y, by simp [hy], h⟩
theorem onPage_priv {fr se : Int} {l : List Pr} (hg : Good fr se l) {k K : Int} (hK : ∀ q, mayP fr se q → q.1 = k → q.2 < 64 * K) (i : Nat) (hi : i < K.toNat) :
  onPage k l i = privL (fun n => lookPr l (k, n)) K i := by
 rw [Bool.eq_iff_iff]
 unfold onPage privL
 rw [List.any_eq_true, decide_eq_true_eq]
 constructor
 ·rintro ⟨x, hx, e⟩
  rw [decide_eq_true_eq] at e
  obtain ⟨e1, e2⟩ := e
  have hm := hg.each x hx
  refine ⟨by omega, by omega, many_pos (i := (x.1.2 % 64).toNat) (by omega) ?_⟩
  unfold pg
  have : (64 * (i : Int) + ((x.1.2 % 64).toNat : Nat) : Int) = x.1.2 := by omega
  rw [this]
  have hkx : (k, x.1.2) = x.1 := Prod.ext e1.symm rfl
  show lookPr l (k, x.1.2) ≠ 0
  rw [hkx]
  exact (hg.look x.1).1 (List.mem_map.2 ⟨x, hx, rfl⟩)
 ·rintro ⟨_, _, h⟩
  unfold many at h
  obtain ⟨j, hj, hne⟩ := List.countP_pos_iff.1 h
  have hj' := List.mem_range.1 hj
  have hne' : lookPr l (k, 64 * (i : Int) + (j : Int)) ≠ 0 := by simpa [pg] using hne
  obtain ⟨x, hx, e⟩ := List.mem_map.1 ((hg.look _).2 hne')
  refine ⟨x, hx, ?_⟩
  rw [decide_eq_true_eq, e]
  exact ⟨rfl, by simp only []; omega⟩
theorem pageFold_eq {fr se : Int} {l : List Pr} (hg : Good fr se l) {k K : Int} (hK : ∀ q, mayP fr se q → q.1 = k → q.2 < 64 * K) : (pageFold k l).1 = (pagesL (fun n => lookPr l (k, n)) K K.toNat : Nat) := by
 rw [(page_inv hK _ l rfl hg).1]
 congr 1
 unfold pagesL
 exact List.countP_congr fun i hi => by rw [onPage_priv hg hK i (List.mem_range.1 hi)]
theorem mayP_10 {fr se : Int} (q : Int × Int) (h : mayP fr se q) (hk : q.1 = 10) : q.2 < 64 * fr := by
 have := h.2.2.2; rw [hk] at this; simpa [boundP] using this
theorem mayP_12 {fr se : Int} (q : Int × Int) (h : mayP fr se q) (hk : q.1 = 12) : q.2 < 64 * se := by
 have := h.2.2.2; rw [hk] at this; simpa [boundP] using this
end Go.Proofs.YtfcfkhbkkfpehaaGreat
end
section
/- Small lemmas of several laws. -/
namespace Go.Proofs.YtfcfkhbkkfpehaaGreat
open Go Go.RowKit Go.X
theorem func_ne_nil130 (f : Nat) (lb : Array Value) (x y : Operand) (w : World) : ((do eqGuard .eql 88 x y (.func (.func f) #[] lb) .nilFunc; binOp .eql 88 (.func (.func f) #[] lb) .nilFunc : Sem Value)).run Tryz.prog w = .ok (.bool false) w := by
 simp only [binOp]
 have e : (Op.equalIn Op.maxDepth 88 (.func (.func f) #[] lb) .nilFunc).run Tryz.prog w = .ok false w := by
  rw [show Op.maxDepth = 9999 + 1 from rfl]
  unfold Op.equalIn
  simp [run_underlying Tryz.underlying88, Result.andThen, go_sem]
 simp [eqGuard, Op.equal, e, run_underlying Tryz.underlying88, Result.andThen, go_sem]
theorem add_zero' (q : Addr) : q.add 0 = q := by
 unfold Addr.add
 split <;> simp_all
theorem add_add' (q : Addr) (a b : Nat) : (q.add a).add b = q.add (a + b) := by
 by_cases hb : b = 0
 ·subst hb; rw [add_zero', Nat.add_zero]
 ·by_cases ha : a = 0
  ·subst ha; rw [add_zero', Nat.zero_add]
  ·unfold Addr.add
   simp [ha, hb, Nat.add_assoc]
end Go.Proofs.YtfcfkhbkkfpehaaGreat
end
section
/- The law's helper same: a flow has just the document's sets. -/
namespace Go.Proofs.YtfcfkhbkkfpehaaGreat
open Go Go.RowKit Go.X Go.XR
end Go.Proofs.YtfcfkhbkkfpehaaGreat
end
section
namespace Go.Proofs.YtfcfkhbkkfpehaaGreat
open Go Go.X
/- pomander/pomanderlaw12.count -/
def W_pomanderlaw12_count (f1 : Option Addr) (k1 : Int) (w : World) (R : Int → World → Prop) : Prop :=
 ∀ (b3 b2 b1 : Nat) (w5 : World), (w.heap.size ≤ b3 ∧ b3 < w5.heap.size) → (w.heap.size ≤ b2 ∧ b2 < w5.heap.size) → (w.heap.size ≤ b1 ∧ b1 < w5.heap.size) → Chg [] w w5 → (Calls Tryz.prog 34 #[.pointer f1] w5 fun e w6 => ∃ (r2 : Value), e = .returned (r2) ∧ (Same w5 w6 [b3, b2, b1] ∧ (∃ (t1 : Bool), (∀ w : World, ((do eqGuard .eql 88 (.tmp 9) (.const (.nilFunc)) (r2) (.nilFunc); binOp .eql 88 (r2) (.nilFunc) : Sem Value)).run Tryz.prog w = .ok (.bool t1) w) ∧ ((t1 = true → R (-1) w6) ∧ (t1 = false → Calls Tryz.prog 34 #[.pointer f1] w6 fun e w7 => ∃ (r3 : Value), e = .returned (r3) ∧ (Same w6 w7 [b3, b2, b1] ∧ (∃ (S1 Sp1 : List (Int × Int × Int) → Prop) (keep1 : List Nat), XR.IsFn Tryz.prog r3 ∧ XR.Iterates Tryz.prog r3 (fun x : Int × Int × Int => #[.agg #[.int .i64 x.1, .int .i64 x.2.1], .int .u32 x.2.2]) S1 Sp1 keep1 w7 ∧ (∀ i_ ∈ keep1, i_ < w7.heap.size) ∧ ∃ (I1 : Int → Int → List Nat → List (Int × Int × Int) → World → Prop), (∀ (c1 : Int) (c2 : Int) (pre_ : List (Int × Int × Int)), XR.Stab w7 (fun O_ w_ => I1 c1 c2 O_ pre_ w_)) ∧ (∀ (O1 : List Nat) (w8 : World), Chg [] w7 w8 → XR.InO w7 O1 w8 → I1 0 (-1) O1 ([]) w8) ∧ (∀ (l1 : Nat) (O1 : List Nat) (pre1 : List (Int × Int × Int)) (x1 : Int) (x2 : Int) (x3 : Int) (c1 : Int) (c2 : Int) (w8 : World), XR.InO w7 O1 w8 → l1 ∈ O1 → Sp1 (pre1 ++ [(x1, x2, x3)]) → I1 c1 c2 O1 pre1 w8 → (∀ (b4 : Nat) (w11 : World), (w8.heap.size ≤ b4 ∧ b4 < w11.heap.size) → Chg [l1] w8 w11 → (∃ J1 : Bool → World → Prop, (∀ (b5 : Bool) (w12 : World), J1 b5 w12 → (b5 = true → ∀ (w14 : World), Chg [b3, b2] w12 w14 → ((w11.heap.size ≤ w14.heap.size ∧ I1 (IntKind.wrap .i64 (c1 + 1)) (IntKind.wrap .i64 (Int.tdiv x2 64)) O1 (pre1 ++ [(x1, x2, x3)]) w14 ∧ Same w11 w14 (keep1 ++ O1)))) ∧ (b5 = false → (w11.heap.size ≤ w12.heap.size ∧ I1 c1 c2 O1 (pre1 ++ [(x1, x2, x3)]) w12 ∧ Same w11 w12 (keep1 ++ O1)))) ∧ (((x1 == k1) = true → J1 (!((IntKind.wrap .i64 (Int.tdiv x2 64)) == c2)) w11) ∧ ((x1 == k1) = false → J1 false w11))))) ∧ (∀ (d1 : Nat) (O2 : List Nat) (xs1 : List (Int × Int × Int)) (c1 : Int) (c2 : Int) (w15 : World), XR.InO w7 O2 w15 → d1 ∈ O2 → S1 xs1 → I1 c1 c2 O2 xs1 w15 → (∀ w16 : World, Chg [d1] w15 w16 → (R c1 w16))))))))))
set_option maxRecDepth 100000 in
theorem go_pomanderlaw12_count (f1 : Option Addr) (k1 : Int) (w : World) (R : Int → World → Prop) (h : W_pomanderlaw12_count f1 k1 w R) : Calls Tryz.prog 37 #[.pointer f1, .int .i64 k1] w (fun e w' => ∃ (r1 : Int), e = .returned (.int .i64 r1) ∧ R r1 w') := by
 unfold W_pomanderlaw12_count at h
 refine XR.enterM (N := 32) Tryz.func37 rfl rfl ?_
 refine CW.seq ?_
 refine CW.region fun L hL => ?_
 obtain ⟨b1, hb_b1⟩ : ∃ b1, b1 = World.size w := ⟨_, rfl⟩
 obtain ⟨w1, hw_w1⟩ : ∃ w1, w1 = World.alloc w (.cells #[.int .i64 k1] 60) := ⟨_, rfl⟩
 refine LW.val hL rfl (Wants.free rfl) rfl (boxE hb_b1 hw_w1 (Vl.box (v := .int .i64 k1) rfl)) ?_
 have hB := Boxes.alloc (cs := [.int .i64 k1]) (T := 60) (Boxes.nil w) hb_b1 hw_w1
 have hlo_b1 := sil_lo (Chg.refl [] w) hb_b1
 have hc_w1 := sil_alloc (Chg.refl [] w) hw_w1
 refine LW.rd hL rfl (Wants.free rfl) rfl (Rd.assign (v := .int .i64 0) rfl) ?_
 refine LW.nil hL rfl ?_
 refine NW.then ?_
 refine CW.seq ?_
 refine CW.region fun L hL => ?_
 obtain ⟨b2, hb_b2⟩ : ∃ b2, b2 = World.size w1 := ⟨_, rfl⟩
 obtain ⟨w2, hw_w2⟩ : ∃ w2, w2 = World.alloc w1 (.cells #[.int .i64 0] 3) := ⟨_, rfl⟩
 refine LW.val hL rfl (Wants.free rfl) rfl (boxE hb_b2 hw_w2 (Vl.alloc (z := .int .i64 0) (by kernel_rfl))) ?_
 replace hB := Boxes.alloc (cs := [.int .i64 0]) (T := 3) hB hb_b2 hw_w2
 have hlo_b2 := sil_lo hc_w1 hb_b2
 have hc_w2 := sil_alloc hc_w1 hw_w2
 obtain ⟨b3, hb_b3⟩ : ∃ b3, b3 = World.size w2 := ⟨_, rfl⟩
 obtain ⟨w3, hw_w3⟩ : ∃ w3, w3 = World.alloc w2 (.cells #[.int .i64 0] 3) := ⟨_, rfl⟩
 refine LW.val hL rfl (Wants.free rfl) rfl (boxE hb_b3 hw_w3 (Vl.alloc (z := .int .i64 0) (by kernel_rfl))) ?_
 replace hB := Boxes.alloc (cs := [.int .i64 0]) (T := 3) hB hb_b3 hw_w3
 have hlo_b3 := sil_lo hc_w2 hb_b3
 have hc_w3 := sil_alloc hc_w2 hw_w3
 obtain ⟨w4, hw_w4⟩ : ∃ x, x = World.setCell w3 (⟨b2, 0, none⟩ : Addr) (.int .i64 0) := ⟨_, rfl⟩
 refine LW.eff hL rfl (Wants.free rfl) rfl (stE hw_w4 (Ef.st rfl rfl rfl (by kernel_rfl) (box_cell (v := .int .i64 0) (hB.at (i := 1) rfl) rfl) (free_of (hB.at (i := 1) rfl) 0))) ?_
 replace hB : Boxes w4 [(b3, [.int .i64 0], 3), (b2, [.int .i64 0], 3), (b1, [.int .i64 k1], 60)] := Boxes.store1  (i := 1) (o := 0) hB rfl rfl rfl rfl hw_w4
 have hc_w4 := sil_new hc_w3 (sil_c1 hw_w4) hlo_b2
 obtain ⟨w5, hw_w5⟩ : ∃ x, x = World.setCell w4 (⟨b3, 0, none⟩ : Addr) (.int .i64 (-1)) := ⟨_, rfl⟩
 refine LW.eff hL rfl (Wants.free rfl) rfl (stE hw_w5 (Ef.st rfl rfl rfl (by kernel_rfl) (box_cell (v := .int .i64 0) (hB.at (i := 0) rfl) rfl) (free_of (hB.at (i := 0) rfl) 0))) ?_
 replace hB : Boxes w5 [(b3, [.int .i64 (-1)], 3), (b2, [.int .i64 0], 3), (b1, [.int .i64 k1], 60)] := Boxes.store1  (i := 0) (o := 0) hB rfl rfl rfl rfl hw_w5
 have hc_w5 := sil_new hc_w4 (sil_c1 hw_w5) hlo_b3
 refine LW.nil hL rfl ?_
 refine NW.then ?_
 refine CW.seq ?_
 refine CW.seq ?_
 refine CW.region fun L hL => ?_
 refine LW.rd hL rfl (Wants.free rfl) rfl (Rd.move (v := .pointer f1) rfl) ?_
 replace h := h b3 b2 b1 w5 ⟨hlo_b3, lt_of_heap (hB.at (i := 0) rfl)⟩ ⟨hlo_b2, lt_of_heap (hB.at (i := 1) rfl)⟩ ⟨hlo_b1, lt_of_heap (hB.at (i := 2) rfl)⟩ hc_w5
 refine LW.call hL rfl (Wants.free rfl) rfl (Cl.fn (f := 34) rfl Tryz.func34 (by kernel_rfl) rfl) h (fun e w6 h_ => ?_)
 clear h
 obtain ⟨r2, rfl, h⟩ := h_
 obtain ⟨hsm1, h⟩ := h
 replace hB := Boxes.sameS hB hsm1 (by simp)
 refine ⟨_, rfl, ?_⟩
 obtain ⟨t1, hx1, h⟩ := h
 refine LW.rd hL rfl (Wants.free rfl) rfl (Rd.bin (v := .bool t1) rfl rfl hx1) ?_
 refine LW.nil hL rfl ?_
 refine NW.then ?_
 refine CW.cond rfl (fun hb1 => ?_) (fun hb1 => ?_)
 ·replace h := h.1 hb1
  refine CW.seq ?_
  refine CW.region fun L hL => ?_
  refine LW.rd hL rfl (Wants.free rfl) rfl (Rd.assign (v := .int .i64 (-1)) rfl) ?_
  refine LW.nil hL rfl ?_
  refine NW.then ?_
  refine CW.ret ?_
  refine RW.then ?_
  exact XR.res0M (vs := [.int .i64 (-1)]) (by exact (ResOK.t rfl ResOK.nil)) rfl ⟨(-1), rfl, h⟩
 ·replace h := h.2 hb1
  refine CW.skip ?_
  refine NW.then ?_
  refine CW.seq ?_
  refine CW.seq ?_
  refine CW.region fun L hL => ?_
  refine LW.rd hL rfl (Wants.free rfl) rfl (Rd.move (v := .pointer f1) rfl) ?_
  refine LW.call hL rfl (Wants.free rfl) rfl (Cl.fn (f := 34) rfl Tryz.func34 (by kernel_rfl) rfl) h (fun e w7 h_ => ?_)
  clear h
  obtain ⟨r3, rfl, h⟩ := h_
  obtain ⟨hsm2, h⟩ := h
  replace hB := Boxes.sameS hB hsm2 (by simp)
  refine ⟨_, rfl, ?_⟩
  refine LW.nil hL rfl ?_
  refine NW.then ?_
  refine CW.block ?_
  obtain ⟨S1, Sp1, keep1, hfn_, hit_, hkp_, I1, hst_I1, h0_, hrd_, hdn_⟩ := h
  refine XR.CW.rangeV (α := Int × Int × Int) (enc := (fun x : Int × Int × Int => #[.agg #[.int .i64 x.1, .int .i64 x.2.1], .int .u32 x.2.2])) (S := S1) (Sp := Sp1) (keep := keep1) rfl hfn_ (fun _ => rfl) (by decide) hit_ (fun (O_ : List Nat) (pre_ : List (Int × Int × Int)) (w_ : World) => ∃ (c1 : Int) (c2 : Int), I1 c1 c2 O_ pre_ w_ ∧ Boxes w_ [(b1, [.int .i64 k1], 60), (b2, [.int .i64 c1], 3), (b3, [.int .i64 c2], 3)]) (fun (c_ : Code) (O_ : List Nat) (pre_ : List (Int × Int × Int)) (w_ : World) => False) ?_ ?_ ?_ hkp_ ?_ ?_ ?_
  ·intro pre_ O_ O2_ A_ B_ hi_ hO_ hc_ hO2_ hg_
   have hB0_ := (hB.sel [2, 1, 0] (by decide) rfl)
   obtain ⟨c1, c2, hi_, hB⟩ := hi_
   exact ⟨c1, c2, hst_I1 c1 c2 pre_ O_ O2_ A_ B_ hi_ hO_ hc_ hO2_ hg_, hB.stab hB0_ rfl hO_ hc_⟩
  ·intro c_ pre_ O_ O2_ A_ B_ hi_ hO_ hc_ hO2_ hg_
   exact hi_.elim
  ·intro O_ A_ hc_ hO_
   exact ⟨0, (-1), h0_ O_ A_ hc_ hO_, Boxes.chg (hB.sel [2, 1, 0] (by decide) rfl) hc_ (by simp)⟩
  ·intro l1 O1 pre1 x_ w8 hO_ hl_ hSp_ hi_
   obtain ⟨x1, x2, x3⟩ := x_
   obtain ⟨c1, c2, hi_, hB⟩ := hi_
   have h := hrd_ l1 O1 pre1 x1 x2 x3 c1 c2 w8 hO_ hl_ hSp_ hi_
   refine XR.CW.region fun L hL => ?_
   obtain ⟨b4, hb_b4⟩ : ∃ b4, b4 = World.size w8 := ⟨_, rfl⟩
   obtain ⟨w9, hw_w9⟩ : ∃ w9, w9 = World.alloc w8 (.cells #[.int .i64 0, .int .i64 0] 62) := ⟨_, rfl⟩
   refine XR.LW.val hL rfl (Wants.free rfl) rfl (boxE hb_b4 hw_w9 (Vl.alloc (z := .agg #[.int .i64 0, .int .i64 0]) (by kernel_rfl))) ?_
   replace hB := Boxes.alloc (cs := [.int .i64 0, .int .i64 0]) (T := 62) hB hb_b4 hw_w9
   have hlo_b4 := sil_lo (Chg.refl [] w8) hb_b4
   have hc_w9 := sil_alloc (Chg.refl [] w8) hw_w9
   obtain ⟨w10, hw_w10⟩ : ∃ x, x = setCells w9 (⟨b4, 0, none⟩ : Addr) 0 [.int .i64 x1, .int .i64 x2] := ⟨_, rfl⟩
   refine XR.LW.eff hL rfl (Wants.free rfl) rfl (stNE hw_w10 (Ef.stN (cs := [.int .i64 x1, .int .i64 x2]) rfl rfl (by kernel_rfl) (List.forall_mem_cons.2 ⟨rfl, (List.forall_mem_cons.2 ⟨rfl, (List.forall_mem_nil _)⟩)⟩) (has_of (hB.at (i := 0) rfl) (by simp)) (free_of' (hB.at (i := 0) rfl)))) ?_
   replace hB : Boxes w10 [(b4, [.int .i64 x1, .int .i64 x2], 62), (b1, [.int .i64 k1], 60), (b2, [.int .i64 c1], 3), (b3, [.int .i64 c2], 3)] := Boxes.store (vs := [.int .i64 x1, .int .i64 x2]) (i := 0) (o := 0) hB rfl rfl rfl rfl hw_w10
   have hc_w10 := sil_new hc_w9 (sil_cN hw_w10) hlo_b4
   refine XR.LW.nil hL rfl ?_
   refine XR.NW.begin hc_w10 (fun w11 hcb_w11 hlp_ hib_ => ?_)
   have hc_w11 : Chg [l1] w8 w11 := sil_more hc_w10 hcb_w11
   replace hB := hB.notloop hlp_ hcb_w11
   replace h := h b4 w11 ⟨hlo_b4, lt_of_heap (hB.at (i := 0) rfl)⟩ hc_w11
   refine XR.CW.block ?_
   refine XR.CW.seq ?_
   refine XR.CW.region fun L hL => ?_
   refine XR.LW.rd hL rfl (Wants.free rfl) rfl (Rd.fa (v := .pointer (some (⟨b4, 0, none⟩ : Addr))) rfl (fun _ => by kernel_rfl)) ?_
   refine XR.LW.rd hL rfl (Wants.free rfl) rfl (Rd.ld (v := .int .i64 x1) rfl (by kernel_rfl) (eqs (box_cell (hB.at (i := 0) rfl) rfl))) ?_
   refine XR.LW.rd hL rfl (Wants.free rfl) rfl (Rd.ld (v := .int .i64 k1) rfl (by kernel_rfl) (eqs (box_cell (hB.at (i := 1) rfl) rfl))) ?_
   refine XR.LW.rd hL rfl (Wants.free rfl) rfl (Rd.bin (v := .bool (x1 == k1)) rfl rfl (fun w => by kernel_rfl)) ?_
   refine XR.LW.rd hL rfl (Wants.free rfl) rfl (Rd.move (v := .bool (x1 == k1)) rfl) ?_
   obtain ⟨J1, hJ1, h1_J1, h0_J1⟩ := h
   suffices K1 : ∀ (b5 : Bool) (w12 : World), Boxes w12 [(b4, [.int .i64 x1, .int .i64 x2], 62), (b1, [.int .i64 k1], 60), (b2, [.int .i64 c1], 3), (b3, [.int .i64 c2], 3)] → J1 b5 w12 → L 11 [(3, .pointer (some (⟨b1, 0, none⟩ : Addr))), (4, .int .i64 0), (5, .pointer (some (⟨b2, 0, none⟩ : Addr))), (6, .pointer (some (⟨b3, 0, none⟩ : Addr))), (7, .pointer (some (⟨b4, 0, none⟩ : Addr))), (13, .agg #[.int .i64 x1, .int .i64 x2]), (25, .bool b5)] w12 by
    rcases Bool.eq_false_or_eq_true (x1 == k1) with hb2 | hb2
    ·have h := h1_J1 hb2
     refine XR.LW.rd hL rfl (Wants.on rfl rfl rfl rfl rfl hb2) rfl (Rd.fa (v := .pointer (some (⟨b4, 1, none⟩ : Addr))) rfl (fun _ => by kernel_rfl)) ?_
     refine XR.LW.rd hL rfl (Wants.on rfl rfl rfl rfl rfl hb2) rfl (Rd.ld (v := .int .i64 x2) rfl (by kernel_rfl) (eqs (box_cell (hB.at (i := 0) rfl) rfl))) ?_
     refine XR.LW.rd hL rfl (Wants.on rfl rfl rfl rfl rfl hb2) rfl (Rd.bin (v := .int .i64 (IntKind.wrap .i64 (Int.tdiv x2 64))) rfl rfl (fun w => by kernel_rfl)) ?_
     refine XR.LW.rd hL rfl (Wants.on rfl rfl rfl rfl rfl hb2) rfl (Rd.ld (v := .int .i64 c2) rfl (by kernel_rfl) (eqs (box_cell (hB.at (i := 3) rfl) rfl))) ?_
     refine XR.LW.rd hL rfl (Wants.on rfl rfl rfl rfl rfl hb2) rfl (Rd.bin (v := .bool (!((IntKind.wrap .i64 (Int.tdiv x2 64)) == c2))) rfl rfl (fun w => by kernel_rfl)) ?_
     refine XR.LW.rd hL rfl (Wants.free rfl) rfl (Rd.pickT rfl hb2 rfl) ?_
     exact XR.LW.sub hL (by exact ⟨rfl, rfl, rfl, rfl, rfl, rfl, rfl, trivial⟩) (K1 (!((IntKind.wrap .i64 (Int.tdiv x2 64)) == c2)) w11 (by exact hB) h)
    ·have h := h0_J1 hb2
     refine XR.LW.skip hL rfl (Skips.on rfl rfl rfl rfl rfl hb2) rfl ?_
     refine XR.LW.skip hL rfl (Skips.on rfl rfl rfl rfl rfl hb2) rfl ?_
     refine XR.LW.skip hL rfl (Skips.on rfl rfl rfl rfl rfl hb2) rfl ?_
     refine XR.LW.skip hL rfl (Skips.on rfl rfl rfl rfl rfl hb2) rfl ?_
     refine XR.LW.skip hL rfl (Skips.on rfl rfl rfl rfl rfl hb2) rfl ?_
     refine XR.LW.rd hL rfl (Wants.free rfl) rfl (Rd.pickF rfl hb2 rfl) ?_
     exact XR.LW.sub hL (by exact ⟨rfl, rfl, rfl, rfl, rfl, rfl, rfl, trivial⟩) (K1 false w11 (by exact hB) h)
   intro b5 w12 hB h_
   have h := hJ1 b5 w12 h_; clear h_
   refine XR.LW.nil hL rfl ?_
   refine XR.NW.then ?_
   refine XR.CW.cond rfl (fun hb3 => ?_) (fun hb3 => ?_)
   ·replace h := h.1 hb3
    refine XR.CW.seq ?_
    refine XR.CW.region fun L hL => ?_
    refine XR.LW.rd hL rfl (Wants.free rfl) rfl (Rd.fa (v := .pointer (some (⟨b4, 1, none⟩ : Addr))) rfl (fun _ => by kernel_rfl)) ?_
    refine XR.LW.rd hL rfl (Wants.free rfl) rfl (Rd.ld (v := .int .i64 x2) rfl (by kernel_rfl) (eqs (box_cell (hB.at (i := 0) rfl) rfl))) ?_
    refine XR.LW.rd hL rfl (Wants.free rfl) rfl (Rd.bin (v := .int .i64 (IntKind.wrap .i64 (Int.tdiv x2 64))) rfl rfl (fun w => by kernel_rfl)) ?_
    obtain ⟨w13, hw_w13⟩ : ∃ x, x = World.setCell w12 (⟨b3, 0, none⟩ : Addr) (.int .i64 (IntKind.wrap .i64 (Int.tdiv x2 64))) := ⟨_, rfl⟩
    refine XR.LW.eff hL rfl (Wants.free rfl) rfl (stE hw_w13 (Ef.st rfl rfl rfl (by kernel_rfl) (box_cell (v := .int .i64 c2) (hB.at (i := 3) rfl) rfl) (free_of (hB.at (i := 3) rfl) 0))) ?_
    replace hB : Boxes w13 [(b4, [.int .i64 x1, .int .i64 x2], 62), (b1, [.int .i64 k1], 60), (b2, [.int .i64 c1], 3), (b3, [.int .i64 (IntKind.wrap .i64 (Int.tdiv x2 64))], 3)] := Boxes.store1  (i := 3) (o := 0) hB rfl rfl rfl rfl hw_w13
    have hc_w13 : Chg [b3] w12 w13 := sil_more (Chg.refl [] w12) (sil_c1 hw_w13)
    refine XR.LW.nil hL rfl ?_
    refine XR.NW.then ?_
    refine XR.CW.region fun L hL => ?_
    refine XR.LW.rd hL rfl (Wants.free rfl) rfl (Rd.ld (v := .int .i64 c1) rfl (by kernel_rfl) (eqs (box_cell (hB.at (i := 2) rfl) rfl))) ?_
    refine XR.LW.rd hL rfl (Wants.free rfl) rfl (Rd.bin (v := .int .i64 (IntKind.wrap .i64 (c1 + 1))) rfl rfl (fun w => by kernel_rfl)) ?_
    obtain ⟨w14, hw_w14⟩ : ∃ x, x = World.setCell w13 (⟨b2, 0, none⟩ : Addr) (.int .i64 (IntKind.wrap .i64 (c1 + 1))) := ⟨_, rfl⟩
    refine XR.LW.eff hL rfl (Wants.free rfl) rfl (stE hw_w14 (Ef.st rfl rfl rfl (by kernel_rfl) (box_cell (v := .int .i64 c1) (hB.at (i := 2) rfl) rfl) (free_of (hB.at (i := 2) rfl) 0))) ?_
    replace hB : Boxes w14 [(b4, [.int .i64 x1, .int .i64 x2], 62), (b1, [.int .i64 k1], 60), (b2, [.int .i64 (IntKind.wrap .i64 (c1 + 1))], 3), (b3, [.int .i64 (IntKind.wrap .i64 (Int.tdiv x2 64))], 3)] := Boxes.store1  (i := 2) (o := 0) hB rfl rfl rfl rfl hw_w14
    have hc_w14 : Chg [b3, b2] w12 w14 := sil_more hc_w13 (sil_c1 hw_w14)
    refine XR.LW.nil hL rfl ?_
    refine NW.block ?_
    replace h := h  w14  hc_w14
    exact fun a_ ha_ => ⟨h.1, ⟨IntKind.wrap .i64 (c1 + 1), IntKind.wrap .i64 (Int.tdiv x2 64), h.2.1, (hB.sel [1, 2, 3] (by decide) rfl)⟩, h.2.2⟩
   ·replace h := h.2 hb3
    refine XR.CW.skip ?_
    refine NW.block ?_
    exact fun a_ ha_ => ⟨h.1, ⟨c1, c2, h.2.1, (hB.sel [1, 2, 3] (by decide) rfl)⟩, h.2.2⟩
  ·intro d1 O2 xs1 w15 hO_ hd_ hdh_ hS_ hi_
   obtain ⟨c1, c2, hi_, hB⟩ := hi_
   have h := hdn_ d1 O2 xs1 c1 c2 w15 hO_ hd_ hS_ hi_
   have hK := XR.Marks.cons (XR.Marks.nil _) hdh_ (by simp)
   refine NW.block ?_
   refine NW.then ?_
   refine CW.seq ?_
   refine CW.region fun L hL => ?_
   refine LW.rd hL rfl (Wants.free rfl) rfl (Rd.ld (v := .int .i64 c1) rfl (by kernel_rfl) (eqs (box_cell (hB.at (i := 1) rfl) rfl))) ?_
   refine LW.rd hL rfl (Wants.free rfl) rfl (Rd.assign (v := .int .i64 c1) rfl) ?_
   refine LW.nil hL rfl ?_
   refine NW.then ?_
   refine CW.ret ?_
   exact XR.resM (ms := [d1]) (vs := [.int .i64 c1]) hK rfl (fun w_ hc_ => ⟨(ResOK.t rfl ResOK.nil), c1, rfl, h w_ hc_⟩)
  ·intro d2 c_ O3 xs2 w17 hO_ hd_ hdh_ hS_ hi_
   exact hi_.elim
end Go.Proofs.YtfcfkhbkkfpehaaGreat
end
section
/- FlowFull's walk: sets are full just where they are; pages are told as All tells bytes. -/
namespace Go.Proofs.YtfcfkhbkkfpehaaGreat
open Go Go.RowKit Go.X Go.XR
/-! ### The plain law -/
def stepE (F : Fl) (a : ActV) : Int := if a.kind = 1 then markE F a.p a.n a.set else applyE F a.ts
theorem keepE_full {most : Int} {sets : List Int} {set : Int} (h : keepE most sets set = 120) : most ≤ sets.length := by
 unfold keepE at h
 split at h
 ·cases h
 split at h
 ·cases h
 split at h
 ·assumption
 ·cases h
theorem keepE_either {most : Int} {sets : List Int} {set : Int} (h : set < 65536) : keepE most sets set = 0 ∨ keepE most sets set = 120 := by
 unfold keepE
 rw [if_neg (by omega)]
 split
 ·exact .inl rfl
 split
 ·exact .inr rfl
 ·exact .inl rfl
theorem keepAll_full {most : Int} {g : Int × Int → Int} (hg : ∀ p, u16 (g p)) {sets : List Int} (ts : List Tch) : ((keepAll most g ts sets).2.2 = 0 ∨ (keepAll most g ts sets).2.2 = 120) ∧ ((keepAll most g ts sets).2.2 = 120 → most ≤ (keepAll most g ts sets).1.length) := by
 have : ∀ (n : Nat) (ts : List Tch), ts.length = n → ((keepAll most g ts sets).2.2 = 0 ∨ (keepAll most g ts sets).2.2 = 120) ∧ ((keepAll most g ts sets).2.2 = 120 → most ≤ (keepAll most g ts sets).1.length) := by
  intro n
  induction n with
  | zero => intro ts hl; obtain rfl := List.eq_nil_of_length_eq_zero hl; exact ⟨.inl rfl, fun h => by cases h⟩
  | succ n ih =>
   intro ts hl
   have hne : ts ≠ [] := fun e => by subst e; simp at hl
   obtain ⟨ts', t, rfl⟩ : ∃ ts' t, ts = ts' ++ [t] := ⟨ts.dropLast, ts.getLast hne, (List.dropLast_concat_getLast hne).symm⟩
   obtain ⟨i1, i2⟩ := ih ts' (by simpa using hl)
   rw [keepAll_snoc]
   unfold keepStep
   split
   ·exact ⟨i1, i2⟩
   ·have hj := joinP_u16 hg t.2
    unfold u16 at hj
    split
    ·rename_i hk
     simp only []
     exact ⟨keepE_either (by omega), keepE_full⟩
    ·exact ⟨.inl rfl, fun h => by cases h⟩
 exact this _ ts rfl
theorem step_full {F : Fl} (hg : ∀ p, u16 (F.g p)) (a : ActV) : (stepE F a ≠ 0 → (stepF F a).g = F.g) ∧ (stepE F a = 120 → F.most ≤ (stepF F a).sets.length) ∧ (stepE F a ≠ 0 → stepE F a ≠ 120 → stepF F a = F) := by
 unfold stepE stepF
 split
 ·refine ⟨fun h => by unfold markF; rw [if_neg h], fun h => ?_, fun h _ => by unfold markF; rw [if_neg h]⟩
  have h0 : markE F a.p a.n a.set ≠ 0 := by rw [h]; decide
  unfold markF
  rw [if_neg h0]
  unfold markE at h
  split at h
  ·cases h
  split at h
  ·cases h
  ·exact keepE_full h
 ·obtain ⟨k1, k2⟩ := keepAll_full (most := F.most) hg (sets := F.sets) a.ts
  unfold applyE applyF
  split
  ·rename_i hr
   refine ⟨fun h => by simp [h], fun h => k2 h, fun h h' => ?_⟩
   rcases k1 with k | k
   ·exact absurd k h
   ·exact absurd k h'
  ·exact ⟨fun _ => rfl, fun h => (by cases h), fun _ _ => rfl⟩
/-! ### count -/
def decT (x : Int × Int × Int) : Pr := ((x.1, x.2.1), x.2.2)
theorem full_good {F : Fl} {ys : List (Int × Int)} (hf : fullF F ys) : Good F.fr F.se (ys.map fun p => (p, F.g p)) := by
 refine ⟨?_, fun x hx => ?_⟩
 ·rw [List.map_map]
  have : ((Prod.fst : Pr → Int × Int) ∘ fun p => (p, F.g p)) = id := rfl
  rw [this, List.map_id]
  exact hf.1.imp fun h => h
 ·obtain ⟨p, hp, rfl⟩ := List.mem_map.1 hx
  exact (hf.2 p).1 hp
theorem full_look {F : Fl} {ys : List (Int × Int)} (hf : fullF F ys) (hm : ∀ p, F.g p ≠ 0 → mayP F.fr F.se p) (q : Int × Int) : lookPr (ys.map fun p => (p, F.g p)) q = F.g q := by
 have hg := full_good hf
 have hk : (ys.map fun p => (p, F.g p)).map Prod.fst = ys := by
  rw [List.map_map]
  have : ((Prod.fst : Pr → Int × Int) ∘ fun p => (p, F.g p)) = id := rfl
  rw [this, List.map_id]
 by_cases h : q ∈ ys
 ·unfold lookPr
  rw [(lookK_iff hg.nodup).2 (List.mem_map.2 ⟨q, h, rfl⟩)]
  rfl
 ·have h0 : F.g q = 0 := by
   apply Classical.byContradiction
   intro h0
   exact h ((hf.2 q).2 ⟨h0, hm q h0⟩)
  rw [h0]
  apply Classical.byContradiction
  intro h1
  exact h (by rw [← hk]; exact (hg.look q).2 h1)
theorem map_decT (F : Fl) (ys : List (Int × Int)) : (ys.map (tell F)).map decT = ys.map fun p => (p, F.g p) := by
 rw [List.map_map]; rfl
theorem pageFold_bound (k : Int) (l : List Pr) : 0 ≤ (pageFold k l).1 ∧ (pageFold k l).1 ≤ l.length := by
 have : ∀ (n : Nat) (l : List Pr), l.length = n → 0 ≤ (pageFold k l).1 ∧ (pageFold k l).1 ≤ l.length := by
  intro n
  induction n with
  | zero => intro l hl; obtain rfl := List.eq_nil_of_length_eq_zero hl; simp [pageFold]
  | succ n ih =>
   intro l hl
   have hne : l ≠ [] := fun e => by subst e; simp at hl
   obtain ⟨l', x, rfl⟩ : ∃ l' x, l = l' ++ [x] := ⟨l.dropLast, l.getLast hne, (List.dropLast_concat_getLast hne).symm⟩
   have := ih l' (by simpa using hl)
   rw [pageFold_snoc]
   unfold pageStep
   simp only [List.length_append, List.length_cons, List.length_nil]
   split
   ·simp only []; omega
   ·omega
 exact this _ l rfl
theorem FlowAt.may0 {w : World} {b : Nat} {F : Fl} {fp : List Nat} (h : FlowAt w b F fp) (p : Int × Int) (h0 : F.g p ≠ 0) : mayP F.fr F.se p := by
 apply Classical.byContradiction
 intro hm
 exact h0 (h.out p hm)
theorem law_count {w : World} {b : Nat} {F : Fl} {fp : List Nat} (hF : FlowAt w b F fp) (k : Int) :
  Calls Tryz.prog 37 #[.pointer (some ⟨b, 0, none⟩), .int .i64 k] w fun e w' => ∃ r : Int, e = .returned (.int .i64 r) ∧ ((∀ K, (∀ q, mayP F.fr F.se q → q.1 = k → q.2 < 64 * K) → r = pagesF F k K) ∧ Chg [] w w') := by
 have hwide := hF.wide
 refine go_pomanderlaw12_count _ _ _ _ ?_
 unfold W_pomanderlaw12_count
 rintro b3 b2 b1 w5 ⟨i3, j3⟩ ⟨i2, j2⟩ ⟨i1, j1⟩ c5
 have s5 := c5.size
 have hF5 := hF.chg c5 (by simp)
 refine (flow_all hF5).mono ?_
 rintro _ w6 ⟨_, rfl, cb0, _, _, rfl, _, _, c6, _⟩
 have s6 := c6.size
 refine ⟨_, rfl, Same.chg c6 (by simp; omega), false, fun w => func_ne_nil130 _ _ _ _ w, fun h => by simp at h, fun _ => ?_⟩
 refine (flow_all (hF5.chg c6 (by simp))).mono ?_
 rintro _ w7 ⟨_, rfl, cb, m, L, rfl, hcb, hAll, c7, hcbn, hmn⟩
 have s7 := c7.size
 have l1' := lt_of_heap hcb
 have l2' := hAll.map.lt
 have c07 := (c5.trans0 c6).trans0 c7
 refine ⟨_, rfl, Same.chg c7 (by simp; omega), _, _, _, isFn100 cb, iterates_flow hcb hAll (by omega) (by omega), by simp; exact ⟨l1', l2'⟩, ?_⟩
 refine ⟨fun c1 c2 O pre w' => (c1, c2) = pageFold k (pre.map decT) ∧ Chg [] w w' ∧ w7.heap.size ≤ w'.heap.size, ?_, ?_, ?_, ?_⟩
 ·rintro c1 c2 pre O O' A B ⟨k1, k2, k3⟩ hO hc hO' hg
  exact ⟨k1, k2.trans hc (fun i hi hlt => by have := (hO i hi).1; omega), Nat.le_trans k3 hc.size⟩
 ·intro O w8 c8 hO; exact ⟨rfl, c07.trans0 c8, c8.size⟩
 ·rintro l1 O pre x1 x2 x3 c1 c2 w8 hO hl1 ⟨ys, suf, hfull, hsuf⟩ ⟨k1, k2, k3⟩ b4 w11 ⟨q1, q2⟩ c11
  have hl1' := hO l1 hl1
  have s11 := c11.size
  have hlen : pre.length < ys.length := by
   have := congrArg List.length hsuf
   simp at this; omega
  have hyl : ys.length ≤ 1000000000000 := keys_len (by omega) (by omega) (hfull.1.imp fun {a b} h e => by subst e; unfold ltPl at h; omega) (fun p hp => ((hfull.2 p).1 hp).2)
  obtain ⟨y, hy, hye⟩ : ∃ y ∈ ys, tell F y = (x1, x2, x3) := by
   have : (x1, x2, x3) ∈ ys.map (tell F) := by rw [← hsuf]; simp
   exact List.mem_map.1 this
  obtain ⟨e1, e2, e3⟩ : y.1 = x1 ∧ y.2 = x2 ∧ F.g y = x3 := by simp [tell] at hye; exact hye
  have hym := ((hfull.2 y).1 hy).2
  obtain ⟨a1, a2, a3, a4⟩ := hym
  have hb : boundP F.fr F.se y.1 ≤ 2147483648 := by
   unfold boundP
   repeat' split
   all_goals omega
  have hd : IntKind.wrap .i64 (Int.tdiv x2 64) = x2 / 64 := by rw [Int.tdiv_eq_ediv_of_nonneg (by omega), wr (by omega) (by omega)]
  rw [hd]
  have hbd := pageFold_bound k (pre.map decT)
  rw [← k1] at hbd
  simp at hbd
  have hs : pageFold k ((pre ++ [(x1, x2, x3)]).map decT) = pageStep k (c1, c2) ((x1, x2), x3) := by
   rw [List.map_append, List.map_cons, List.map_nil, pageFold_snoc, ← k1]; rfl
  have c811 : Chg [] w w11 := k2.trans c11 (fun i hi hlt => by simp at hi; omega)
  refine ⟨fun bb w' => bb = decide (x1 = k ∧ x2 / 64 ≠ c2) ∧ w' = w11, ?_, fun he => ⟨?_, rfl⟩, fun he => ⟨?_, rfl⟩⟩
  ·rintro _ w12 ⟨rfl, hw⟩
   subst w12
   refine ⟨fun ht w14 c14 => ?_, fun hf' => ?_⟩
   ·have ht' := of_decide_eq_true ht
    have s14 := c14.size
    rw [wr (by omega) (by omega)]
    refine ⟨s14, ⟨?_, c811.trans c14 (fun i hi hlt => by simp at hi; omega), by omega⟩, Same.of c14 fun i hi => ?_⟩
    ·rw [hs]; unfold pageStep; rw [if_pos ht']
    ·rcases List.mem_append.1 hi with h | h
     ·simp at h
      exact ⟨by rcases h with e | e <;> subst e <;> omega, by simp; rcases h with e | e <;> subst e <;> omega⟩
     ·have := hO i h
      exact ⟨by omega, by simp; omega⟩
   ·have hf'' := of_decide_eq_false hf'
    refine ⟨Nat.le_refl _, ⟨?_, c811, by omega⟩, Same.refl _ _⟩
    rw [hs]; unfold pageStep; rw [if_neg hf'']
  ·have he' : x1 = k := by simpa using he
   by_cases hl : x2 / 64 = c2 <;> simp [he', hl]
  ·have he' : x1 ≠ k := by simpa using he
   simp [he']
 ·rintro d1 O xs c1 c2 w15 hO hd ⟨ys, hfull, rfl⟩ ⟨k1, k2, k3⟩ w16 c16
  have hd' := hO d1 hd
  refine ⟨fun K hK => ?_, k2.trans c16 (fun i hi hlt => by simp at hi; omega)⟩
  rw [map_decT] at k1
  have e := pageFold_eq (full_good hfull) hK
  rw [← k1] at e
  simp only [] at e
  rw [e]
  unfold pagesF
  congr 2
  funext n
  exact full_look hfull (fun p h0 => hF.may0 p h0) _
/-! ### The walk -/
structure FullAt (w0 w : World) (B : List Nat) (bf : Nat) (F : Fl) (fp : List Nat) : Prop where
 flow : FlowAt w bf F fp
 chg : Chg [] w0 w
 fresh : ∀ i ∈ fp, w0.heap.size ≤ i
 own : ∀ b ∈ B, w0.heap.size ≤ b ∧ b < w.heap.size ∧ b ∉ fp
section
variable {w0 w w' : World} {B : List Nat} {bf : Nat} {F : Fl} {fp : List Nat}
theorem FullAt.later (h : FullAt w0 w B bf F fp) (hc : Chg [] w w') : FullAt w0 w' B bf F fp :=
 ⟨h.flow.chg hc (by simp), h.chg.trans0 hc, h.fresh, fun b hb => let ⟨a, b, c⟩ := h.own b hb; ⟨a, Nat.lt_of_lt_of_le b hc.size, c⟩⟩
theorem FullAt.drop {C : List Nat} (h : FullAt w0 w B bf F fp) (hs : ∀ b ∈ C, b ∈ B) : FullAt w0 w C bf F fp := { h with own := fun b hb => h.own b (hs b hb) }
theorem FullAt.add (h : FullAt w0 w B bf F fp) {b : Nat} (hb : w.heap.size ≤ b) (hlt : b < w'.heap.size) (hc : Chg [] w w') : FullAt w0 w' (b :: B) bf F fp := by
 have hl := h.flow.lt
 have s := h.chg.size
 refine { h.later hc with own := fun x hx => ?_ }
 rcases List.mem_cons.1 hx with rfl | hx
 ·exact ⟨by omega, hlt, fun hm => by have := hl _ hm; omega⟩
 ·exact (h.later hc).own x hx
theorem FullAt.same (h : FullAt w0 w B bf F fp) {l : List Nat} (hl : ∀ b ∈ l, b ∈ B) (hc : Chg [] w w') : Same w w' l := Same.chg hc fun b hb => (h.own b (hl b hb)).2.1
theorem FullAt.step {F' : Fl} {fp' : List Nat} (h : FullAt w0 w B bf F fp) (hF : FlowAt w' bf F' fp') (hc : Chg fp w w') (hg : ∀ i ∈ fp', i ∈ fp ∨ w.heap.size ≤ i) : FullAt w0 w' B bf F' fp' ∧ Same w w' B := by
 have s := h.chg.size
 refine ⟨⟨hF, h.chg.trans hc (fun i hi hlt => by have := h.fresh i hi; omega), fun i hi => ?_, fun b hb => ?_⟩, Same.of hc fun b hb => ⟨(h.own b hb).2.1, (h.own b hb).2.2⟩⟩
 ·rcases hg i hi with k | k
  ·exact h.fresh i k
  ·omega
 ·obtain ⟨k1, k2, k3⟩ := h.own b hb
  refine ⟨k1, Nat.lt_of_lt_of_le k2 hc.size, fun hm => ?_⟩
  rcases hg b hm with k | k
  ·exact k3 k
  ·omega
end
theorem ffull_walk {w : World} {most : Int} {l1 : Option Addr} {ln lc : Nat} {acts : List ActV} (hA : ActsAt w (oldS w) l1 ln acts) (hln : ln ≤ maxLen) :
  Calls Tryz.prog 7 #[.int .i64 most, .slice l1 ln lc] w fun e w' => ∃ r : Bool, e = .returned (.bool r) ∧ (r = true ∧ Chg [] w w') := by
 have hal := hA.length
 have hln' := hln
 simp only [maxLen] at hln'
 refine go_pomanderlaw12_FlowFull _ _ _ _ _ _ ?_
 unfold W_pomanderlaw12_FlowFull
 rintro b1 w1 ⟨i1, j1⟩ c1
 have s1 := c1.size
 have N : ∀ {A B : World}, w1.heap.size ≤ A.heap.size → Chg [] A B → Same A B [b1] := fun h hc => Same.chg hc (by simp; omega)
 refine (vast_ok (c := lc) (hA.chg c1 (by simp)) hln).mono ?_
 rintro _ w2 ⟨_, rfl, rfl, hw⟩
 subst w2
 refine ⟨_, rfl, N (Nat.le_refl _) (Chg.refl _ _), fun _ => ?_, fun hb => ?_⟩
 ·refine (known12 w1).mono ?_
  rintro _ w3 ⟨_, rfl, rfl, c3⟩
  exact ⟨_, rfl, N (Nat.le_refl _) c3, fun w4 c4 => ⟨rfl, (c1.trans0 c3).trans c4 (fun i hi hlt => by simp at hi; omega)⟩⟩
 have hmost : 1 ≤ most ∧ most ≤ 40 := by
  simp only [Bool.or_eq_false_iff] at hb
  have a := of_decide_eq_false hb.1.2
  have b := of_decide_eq_false hb.2
  omega
 rintro b2 w6 ⟨i2, j2⟩ c6
 have s6 := c6.size
 refine (flow_new w6 2 2 most).mono ?_
 rintro _ w7 ⟨r4, r5, rfl, c7, hF⟩
 rw [if_pos (by unfold rightP; omega)] at hF
 obtain ⟨rfl, bf, fp, rfl, hF, hf⟩ := hF
 have s7 := c7.size
 refine ⟨_, _, rfl, N (by omega) c7, ?_⟩
 have h7 : FullAt w w7 [b1] bf (flowNew 2 2 most) fp := ⟨hF, (c1.trans0 c6).trans0 c7, fun i hi => by have := hf i hi; omega, fun b hb => by
  simp at hb; subst hb
  exact ⟨i1, by omega, fun hm => by have := hf _ hm; omega⟩⟩
 refine ⟨fun i ms w' => ∃ j : Nat, i = j ∧ j ≤ ln ∧ ∃ F fp, F.fr = 2 ∧ F.se = 2 ∧ F.most = most ∧ FullAt w w' ([b1] ++ ms) bf F fp, fun i _ _ => ln - i.toNat, ⟨0, rfl, Nat.zero_le _, _, fp, rfl, rfl, rfl, h7⟩, ?_⟩
 rintro _ ms w8 ⟨j, rfl, hj, F, fp8, hfr, hse, hmo, h8⟩
 have ej : Int.toNat (j : Int) = j := by omega
 refine ⟨fun hlt => ?_, fun hge => ?_⟩
 rotate_left
 ·refine (known12 w8).mono ?_
  rintro _ w42 ⟨_, rfl, rfl, c42⟩
  refine ⟨_, rfl, h8.same (fun b hb => hb) c42, fun w43 c43 w44 c44 => ⟨rfl, ?_⟩⟩
  refine (((h8.chg).trans0 c42).trans c43 (fun i hi hlt => ?_)).trans c44 (fun i hi hlt => ?_)
  ·have := (h8.own i (List.mem_append_left _ hi)).1; omega
  ·have := (h8.own i (List.mem_append_right _ hi)).1; omega
 have hjl : j < ln := by have := of_decide_eq_true hlt; omega
 obtain ⟨a, hx⟩ := get_of (l := acts) (j := j) (by omega)
 refine (flow_copy h8.flow).mono ?_
 rintro _ w9 ⟨_, rfl, bc, fq, rfl, hC, c9, hfq⟩
 have h9 := h8.later c9
 have s9 := c9.size
 refine ⟨_, rfl, h8.same (fun b hb => hb) c9, ?_⟩
 rintro b3 w11 ⟨i3, j3⟩ c11
 have h11 := h9.add i3 j3 c11
 have s11 := c11.size
 have hC11 := hC.chg c11 (by simp)
 have hl8 := h8.flow.lt
 have hq : ∀ i ∈ fq, i ∉ fp8 := fun i hi hm => by have := hfq i hi; have := hl8 i hm; omega
 have hg : ∀ p, u16 (F.g p) := fun p => h8.flow.each p
 obtain ⟨law1, law2, law3⟩ := step_full hg a
 have hsh := stepF_shape F a
 rw [ej]
 obtain ⟨b, q, qn, qc, rfl, hbS, hc, hAct⟩ := (hA.chg h11.chg (by simp)).each j _ hx
 have hap := hAct.p
 have hset := hAct.set
 refine ⟨fun ev w' => ev = stepE F a ∧ ∃ fp', FullAt w w' ([b3, b1] ++ ms) bf (stepF F a) fp' ∧ FlowAt w' bc F fq, ?_, b, rfl, by omega, by omega, a.kind, by have := hc.1; rwa [add_zero'] at this, fun hk => ?_, fun hk => ?_⟩
 rotate_left
 ·have hk' : a.kind = 1 := by simpa using hk
  intro w39 c39
  have h39 := h11.later c39
  have hc39 := c39.cells (by simp) hc
  obtain ⟨t0, t1, t2, t3, t4, _⟩ := hc39
  refine ⟨_, _, ⟨by rw [add_zero']; exact t2, by rw [add_add']; exact t3, trivial⟩, _, t1, _, t4, ?_⟩
  refine (flow_mark h39.flow (p1 := a.p.1) (n := a.n) hap.2 hset.1).mono ?_
  rintro _ w40 ⟨_, rfl, rfl, fp40, hF40, c40, hn40⟩
  obtain ⟨k1, k2⟩ := h39.step hF40 c40 hn40
  refine ⟨_, rfl, k2, by unfold stepE; rw [if_pos hk'], fp40, by unfold stepF; rw [if_pos hk']; exact k1, (hC11.chg c39 (by simp)).chg c40 hq⟩
 ·have hk' : ¬ a.kind = 1 := by simpa using hk
  refine ⟨_, _, _, hc.2.2.2.2.2.1, ?_⟩
  have hqn := hAct.qn
  have hin : ∀ t ∈ a.ts, t.2.length ≤ 9223372036854775807 := fun t ht => by have := hAct.inner t ht; simp only [maxLen] at this; omega
  simp only [maxLen] at hqn
  refine (flow_apply (c := qc) h11.flow hAct.ts (fun i hi hs => by have := h11.fresh i hi; unfold oldS at hs; omega) (by omega) hin).mono ?_
  rintro _ w41 ⟨_, rfl, rfl, fp41, hF41, c41, hn41⟩
  obtain ⟨k1, k2⟩ := h11.step hF41 c41 hn41
  exact ⟨_, rfl, k2, by unfold stepE; rw [if_neg hk'], fp41, by unfold stepF; rw [if_neg hk']; exact k1, hC11.chg c41 hq⟩
 rintro _ w12 ⟨rfl, fp12, h12, hC12⟩
 have few : ∀ {W : World} {fpW : List Nat}, FlowAt W bf (stepF F a) fpW → ((stepF F a).sets.length : Int) ≤ most := fun hW => by
  obtain ⟨T, m, d, r, l, fpT, fpm, fpd, gm, gd, _, h2, _⟩ := hW.there
  have := h2.few
  rw [hsh.2.2, hmo] at this
  exact this
 have hfew := few h12.flow
 have hs2 : ∀ b ∈ [b1, b3] ++ ms, b ∈ [b3, b1] ++ ms := fun b hb => by simp at hb ⊢; rcases hb with h | h | h <;> simp [h]
 refine (flow_sets h12.flow).mono ?_
 rintro _ w13 ⟨r7, r7n, r7c, rfl, rfl, _, c13, _⟩
 have h13 := h12.later c13
 have hC13 := hC12.chg c13 (by simp)
 refine ⟨_, _, _, rfl, h12.same hs2 c13, fun b w' => b = false ∧ FullAt w w' ([b3, b1] ++ ms) bf (stepF F a) fp12 ∧ FlowAt w' bc F fq, ?_, fun _ => ?_, fun h => ?_⟩
 rotate_left
 ·refine ⟨fun b w' => b = false ∧ FullAt w w' ([b3, b1] ++ ms) bf (stepF F a) fp12 ∧ FlowAt w' bc F fq, fun _ _ h => h, fun he => ?_, fun _ => ⟨rfl, h13, hC13⟩⟩
  have he' : stepE F a = 120 := by simpa using he
  have := law2 he'
  refine (flow_sets h13.flow).mono ?_
  rintro _ w16 ⟨r8, r8n, r8c, rfl, rfl, _, c16, _⟩
  refine ⟨_, _, _, rfl, h13.same hs2 c16, ?_, h13.later c16, hC13.chg c16 (by simp)⟩
  have : ((stepF F a).sets.length : Int) = most := by omega
  simp [this]
 ·have := of_decide_eq_true h; omega
 rintro _ w14 ⟨rfl, h14, hC14⟩
 refine ⟨fun b w' => b = false ∧ FullAt w w' ([b3, b1] ++ ms) bf (stepF F a) fp12 ∧ FlowAt w' bc F fq, ?_, fun _ => ?_, fun h => by simp at h⟩
 rotate_left
 ·refine ⟨fun b w' => b = false ∧ FullAt w w' ([b3, b1] ++ ms) bf (stepF F a) fp12 ∧ FlowAt w' bc F fq, fun _ _ h => h, fun he => ?_, fun _ => ⟨rfl, h14, hC14⟩⟩
  have he' : stepE F a ≠ 0 ∧ stepE F a ≠ 120 := by simpa using he
  have heq := law3 he'.1 he'.2
  refine (flow_same h14.flow hC14).mono ?_
  rintro _ w19 ⟨r9, rfl, hr, c19⟩
  obtain rfl : r9 = true := hr.2 (by rw [heq]; exact ⟨rfl, rfl, rfl, rfl, fun _ => rfl⟩)
  exact ⟨_, rfl, h14.same hs2 c19, rfl, h14.later c19, hC14.chg c19 (by simp)⟩
 rintro _ w17 ⟨rfl, h17, hC17⟩
 have s17 := h17.chg.size
 have hw17 := h17.flow.wide
 refine ⟨fun h => by simp at h, fun _ => ?_⟩
 refine ⟨fun ms' w' => FullAt w w' ([b1] ++ ms') bf (stepF F a) fp12, ?_, fun he => ?_, fun _ => h17.drop (by simp +contextual)⟩
 ·intro ms2 w22 h22
  refine (flow_pages h22.flow).mono ?_
  rintro _ w23 ⟨r10, r11, rfl, e10, e11, c23⟩
  have h23 := h22.later c23
  refine ⟨_, _, rfl, h22.same (fun b hb => hb) c23, ?_⟩
  refine (law_count h23.flow 10).mono ?_
  rintro _ w24 ⟨r12, rfl, hr12, c24⟩
  have h24 := h23.later c24
  refine ⟨_, rfl, h23.same (fun b hb => hb) c24, fun b w' => b = false ∧ FullAt w w' ([b1] ++ ms2) bf (stepF F a) fp12, ?_, fun _ => ?_, fun h => ?_⟩
  ·rintro _ w25 ⟨rfl, h25⟩
   refine ⟨fun h => by simp at h, fun _ => ?_⟩
   rw [wr (by omega) (by omega)]
   exact ⟨⟨j + 1, by omega, by omega, _, fp12, by rw [hsh.1, hfr], by rw [hsh.2.1, hse], by rw [hsh.2.2, hmo], h25⟩, by simp only []; omega⟩
  ·refine (law_count h24.flow 12).mono ?_
   rintro _ w26 ⟨r13, rfl, hr13, c26⟩
   refine ⟨_, rfl, h24.same (fun b hb => hb) c26, ?_, h24.later c26⟩
   rw [e11, hr13 _ mayP_12]; simp
  ·rw [e10, hr12 _ mayP_10] at h; simp at h
 ·have he' : stepE F a = 120 := by simpa using he
  have hgg : (stepF F a).g = F.g := law1 (by rw [he']; decide)
  refine (flow_all h17.flow).mono ?_
  rintro _ w29 ⟨_, rfl, cb, m, L, rfl, hcb, hAll, c29, hcbn, hmn⟩
  have s29 := c29.size
  have h29 := h17.later c29
  have hC29 := hC17.chg c29 (by simp)
  have l1' := lt_of_heap hcb
  have l2' := hAll.map.lt
  refine ⟨_, rfl, h17.same hs2 c29, _, _, _, isFn100 cb, iterates_flow hcb hAll (by omega) (by omega), by simp; exact ⟨l1', l2'⟩, ?_⟩
  refine ⟨fun O pre w' => Chg [] w29 w', fun _ _ _ _ => False, ?_, ?_, ?_, ?_, ?_, ?_⟩
  ·rintro pre O O' A B k1 hO hc hO' hgr
   exact k1.trans hc (fun i hi hlt => by have := (hO i hi).1; omega)
  ·rintro _ _ _ _ _ _ hff; exact hff.elim
  ·intro O w30 c30 hO; exact c30
  ·rintro l2 O pre x1 x2 x3 w30 hO hl2 ⟨ys, suf, hfull, hsuf⟩ k1 b9 w33 ⟨q1, q2⟩ c33
   have hl2' := hO l2 hl2
   have s30 := k1.size
   have s33 := c33.size
   have c2933 : Chg [] w29 w33 := k1.trans c33 (fun i hi hlt => by simp at hi; omega)
   obtain ⟨y, hy, hye⟩ : ∃ y ∈ ys, tell (stepF F a) y = (x1, x2, x3) := by
    have : (x1, x2, x3) ∈ ys.map (tell (stepF F a)) := by rw [← hsuf]; simp
    exact List.mem_map.1 this
   obtain ⟨e1, e2, e3⟩ : y.1 = x1 ∧ y.2 = x2 ∧ (stepF F a).g y = x3 := by simp [tell] at hye; exact hye
   have hym := ((hfull.2 y).1 hy).2
   rw [hsh.1, hsh.2.1] at hym
   have hyp : y = (x1, x2) := Prod.ext e1 e2
   subst hyp
   have hi2 : i64s x2 := by
    obtain ⟨a1, a2, a3, a4⟩ := hym
    have hb : boundP F.fr F.se x1 ≤ 2147483648 := by
     unfold boundP
     rw [hfr, hse]
     repeat' split
     all_goals omega
    simp only [] at a3 a4
    exact ⟨by omega, by omega⟩
   refine (flow_Get (hC29.chg c2933 (by simp)) (p1 := x1) hi2).mono ?_
   rintro _ w34 ⟨r15, r16, rfl, c34, hr⟩
   rw [if_pos hym] at hr
   obtain ⟨rfl, rfl⟩ := hr
   have s34 := c34.size
   have hsm : Same w33 w34 ([cb, m] ++ O) := Same.chg c34 (fun i hi => by
    rcases List.mem_append.1 hi with h | h
    ·simp at h; rcases h with e | e <;> subst e <;> omega
    ·have := hO i h; omega)
   refine ⟨_, _, rfl, Same.chg c34 (fun i hi => ?_), fun h => ?_, fun _ => ⟨s34, c2933.trans0 c34, hsm⟩⟩
   ·simp only [List.cons_append, List.nil_append, List.mem_cons] at hi
    rcases hi with rfl | rfl | rfl | hi
    ·exact q2
    ·have := (h29.own i (by simp)).2.1; omega
    ·have := (h29.own i (by simp)).2.1; omega
    ·have := (h29.own i (by simp [hi])).2.1; omega
   ·exfalso
    rw [← e3, hgg] at h
    simp at h
  ·rintro d1 O xs w36 hO hd _ k1
   have hd' := hO d1 hd
   have h36 := h29.later k1
   have hl := h29.flow.lt
   refine { h36 with own := fun b hb => ?_ }
   simp only [List.cons_append, List.nil_append, List.mem_cons] at hb
   rcases hb with rfl | rfl | hb
   ·exact h36.own b (by simp)
   ·exact ⟨by omega, hd'.2, fun hm => by have := hl b hm; omega⟩
   ·exact h36.own b (by simp [hb])
  ·rintro _ _ _ _ _ _ _ _ hff; exact hff.elim
end Go.Proofs.YtfcfkhbkkfpehaaGreat
end
section
/- Arguments that came in, opened: acts on flows. -/
namespace Go.Proofs.YtfcfkhbkkfpehaaGreat
open Go Go.RowKit Go.X Go.ChangeShapes Go.WideShapes Go.ChangeAt
theorem len6 {α : Type} {l : List α} (h : l.length = 6) : ∃ a b c d e f, l = [a, b, c, d, e, f] := by
 match l, h with
 | [a, b, c, d, e, f], _ => exact ⟨a, b, c, d, e, f, rfl⟩
section
variable {H : Type} {enc : TypeId × Value → H} {w : World} {base : Nat} {spare : Nat → Bool} {held : Bool} {fuel : Nat} {cs : List Value} {x : DataW H × List MemPlace}
theorem cells25 : Tryz.prog.cellsOf 27 = 1 := by kernel_rfl
theorem open_act (h : DataW.trod enc Tryz.prog w base spare held fuel 79 cs = some x) : ∃ (a : ActV) (q : Option Addr) (qn qc : Nat), cs = [.int .i64 a.kind, .int .i64 a.n, .int .i64 a.p.1, .int .i64 a.p.2, .int .u32 a.set, .slice q qn qc] ∧ ActAt w (oldS w) q qn qc a := by
 obtain ⟨xs, n, _, _, hl, hlen, hf⟩ := DataW.trod_struct Tryz.underlying79 h
 have h0 : DataW.trod enc Tryz.prog w base spare held n 3 ((cs.drop 0).take (Tryz.prog.cellsOf 3)) = xs[0]? := hf 0 _ rfl
 have h1 : DataW.trod enc Tryz.prog w base spare held n 3 ((cs.drop 1).take (Tryz.prog.cellsOf 3)) = xs[1]? := hf 1 _ rfl
 have h2 : DataW.trod enc Tryz.prog w base spare held n 62 ((cs.drop 2).take (Tryz.prog.cellsOf 62)) = xs[2]? := hf 2 _ rfl
 have h3 : DataW.trod enc Tryz.prog w base spare held n 22 ((cs.drop 4).take (Tryz.prog.cellsOf 22)) = xs[3]? := hf 3 _ rfl
 have h4 : DataW.trod enc Tryz.prog w base spare held n 27 ((cs.drop 5).take (Tryz.prog.cellsOf 27)) = xs[4]? := hf 4 _ rfl
 simp only [cells3, cells56, cells22, cells25] at h0 h1 h2 h3 h4
 rw [show Tryz.prog.cellsOf 79 = 6 by kernel_rfl] at hl
 rw [List.getElem?_eq_getElem (by rw [hlen]; decide)] at h0 h1 h2 h3 h4
 obtain ⟨k, e0, _, w0⟩ := DataW.trod_int un3 h0
 obtain ⟨m, e1, _, w1⟩ := DataW.trod_int un3 h1
 obtain ⟨p, e2, k1, k2⟩ := open_place h2
 obtain ⟨st, e3, _, w3⟩ := DataW.trod_int un22 h3
 obtain ⟨q, qn, qc, ts, e4, hq, hT, hTin⟩ := open_touches h4
 obtain ⟨c0, c1, c2, c3, c4, c5, rfl⟩ := len6 hl
 simp at e0 e1 e2 e3 e4
 obtain ⟨rfl, rfl⟩ := e2
 subst e0 e1 e3 e4
 exact ⟨⟨k, m, p, st, ts⟩, q, qn, qc, rfl, ⟨k1, k2⟩, wf_u32 w3, wf_i64 w1, hT, hq, hTin⟩
theorem open_acts (h : DataW.trod enc Tryz.prog w base spare held fuel 69 cs = some x) : ∃ p n c acts, cs = [.slice p n c] ∧ n ≤ maxLen ∧ ActsAt w (oldS w) p n acts := by
 obtain ⟨p, n, c, rfl, hn, hel⟩ := open_slice Tryz.underlying69 h
 obtain ⟨l, hl, hq⟩ := list_of (Q := fun j (a : ActV) => ∃ b q qn qc, p = some b ∧ oldS w b.block ∧ CellsAt w (b.add (j * 6)) 0 [.int .i64 a.kind, .int .i64 a.n, .int .i64 a.p.1, .int .i64 a.p.2, .int .u32 a.set, .slice q qn qc] ∧ ActAt w (oldS w) q qn qc a) (n := n) (fun i hi => by
  obtain ⟨a, cs', m, y, ha, hc, _, hy⟩ := hel i hi
  obtain ⟨v, q, qn, qc, rfl, hv⟩ := open_act hy
  rw [show Tryz.prog.cellsOf 79 = 6 by kernel_rfl] at hc
  exact ⟨v, a, q, qn, qc, ha, by have := cellsAt_lt hc; rwa [add_block] at this, hc, hv⟩)
 exact ⟨p, n, c, l, rfl, hn, hl, hq⟩
end
end Go.Proofs.YtfcfkhbkkfpehaaGreat
end
section
/- What every row's step needs. -/
namespace Go.Proofs.YtfcfkhbkkfpehaaGreat
open Go Go.RowKit Go.X
theorem ownX : ownKnob Tryz.prog.godebug = none := by kernel_rfl
theorem laidOutX : laidOutB Tryz.prog = true := by kernel_rfl
end Go.Proofs.YtfcfkhbkkfpehaaGreat
end
