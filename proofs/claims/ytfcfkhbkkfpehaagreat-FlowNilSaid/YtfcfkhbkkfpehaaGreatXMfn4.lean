/- Texts of the claim, merged: XFnilW XOpen4 XStep. -/
import Derived.Test.YtfcfkhbkkfpehaaGreatXMfn3
import Derived.Test.YtfcfkhbkkfpehaaGreatRows

/- XFnilW -/
section
/- FlowNil's walk: no flow there. -/
set_option linter.unusedVariables false
set_option linter.unusedSimpArgs false
set_option maxRecDepth 100000
namespace Go.Proofs.YtfcfkhbkkfpehaaGreat
open Go Go.RowKit Go.X Go.XR

theorem PlacesAt.mono {w : World} {S T : Nat → Prop} {p : Option Addr} {n : Nat} {ps : List (Int × Int)} (h : PlacesAt w S p n ps) (hs : ∀ i, S i → T i) : PlacesAt w T p n ps :=
  ⟨h.length, fun j x hx => let ⟨h1, h2, a, h3, h4, h5⟩ := h.each j x hx; ⟨h1, h2, a, h3, hs _ h4, h5⟩⟩
theorem TouchesAt.mono {w : World} {S T : Nat → Prop} {p : Option Addr} {n : Nat} {ts : List Tch} (h : TouchesAt w S p n ts) (hs : ∀ i, S i → T i) : TouchesAt w T p n ts :=
  ⟨h.length, fun j x hx => let ⟨h1, h2, a, q, qn, qc, h3, h4, h5, h6⟩ := h.each j x hx; ⟨h1, h2, a, q, qn, qc, h3, hs _ h4, h5, h6.mono hs⟩⟩
theorem ActAt.mono {w : World} {S T : Nat → Prop} {q : Option Addr} {qn qc : Nat} {a : ActV} (h : ActAt w S q qn qc a) (hs : ∀ i, S i → T i) : ActAt w T q qn qc a := { h with ts := h.ts.mono hs }

def IsNone (w : World) (p : Option Addr) (b : Bool) : Prop := Calls Tryz.prog 43 #[.pointer p] w fun e w' => ∃ r : Bool, e = .returned (.bool r) ∧ (r = b ∧ w' = w)
theorem isNone_nil (w : World) : IsNone w none true := by
  refine ok_flow_Flow_none _ _ _ ?_
  unfold V_flow_Flow_none
  exact ⟨_, fun b w h => h, fun h => by simp at h, fun _ => ⟨rfl, rfl⟩⟩
theorem isNone_empty {w : World} {b : Nat} (h : w.cell? ⟨b, 2, none⟩ = some (.pointer none)) : IsNone w (some ⟨b, 0, none⟩) true := by
  refine ok_flow_Flow_none _ _ _ ?_
  unfold V_flow_Flow_none
  exact ⟨_, fun b w h => h, fun _ => ⟨_, rfl, none, by rw [add_at]; exact h, rfl, rfl⟩, fun h => by simp at h⟩
section
variable {w : World} {p : Option Addr}
theorem nofl_get (h : ∀ w', Chg [] w w' → IsNone w' p true) (p1 p2 : Int) : Calls Tryz.prog 35 #[.pointer p, .agg #[.int .i64 p1, .int .i64 p2]] w fun e w' => ∃ (r1 : Int) (r2 : Int), e = .returned (.tuple #[.int .u32 r1, .int .i64 r2]) ∧ (r1 = 0 ∧ r2 = 1 ∧ Chg [] w w') := by
  refine ok_flow_Flow_Get _ _ _ _ _ ?_
  unfold V_flow_Flow_Get
  refine v_alloc fun b1 w1 e1 h1 c1 => ⟨fun s w' => s = (0, 1) ∧ Chg [] w w', ?_, ?_⟩
  · rintro _ w2 ⟨rfl, c2⟩; exact ⟨rfl, rfl, c2⟩
  refine (h w1 c1).mono ?_
  rintro _ w2 ⟨_, rfl, rfl, hw⟩
  subst w2
  exact ⟨_, rfl, fun _ => ⟨rfl, c1⟩, fun h => by simp at h⟩
theorem nofl_mark (h : ∀ w', Chg [] w w' → IsNone w' p true) (p1 p2 n set : Int) : Calls Tryz.prog 31 #[.pointer p, .agg #[.int .i64 p1, .int .i64 p2], .int .i64 n, .int .u32 set] w fun e w' => ∃ r1 : Int, e = .returned (.int .i64 r1) ∧ (r1 = 1 ∧ Chg [] w w') := by
  refine ok_flow_Flow_Mark _ _ _ _ _ _ _ ?_
  unfold V_flow_Flow_Mark
  refine v_alloc fun b1 w1 e1 h1 c1 => ?_
  refine (h w1 c1).mono ?_
  rintro _ w2 ⟨_, rfl, rfl, hw⟩
  subst w2
  exact ⟨_, rfl, fun _ => ⟨rfl, c1⟩, fun h => by simp at h⟩
theorem nofl_apply (h : IsNone w p true) (l : Option Addr) (n c : Nat) : Calls Tryz.prog 32 #[.pointer p, .slice l n c] w fun e w' => ∃ r1 : Int, e = .returned (.int .i64 r1) ∧ (r1 = 1 ∧ Chg [] w w') := by
  refine go_flow_Flow_Apply _ _ _ _ _ _ ?_
  unfold W_flow_Flow_Apply
  refine h.mono ?_
  rintro _ w2 ⟨_, rfl, rfl, hw⟩
  subst w2
  exact ⟨_, rfl, fun _ => ⟨rfl, Chg.refl _ _⟩, fun h => by simp at h⟩
theorem nofl_decides (h : IsNone w p true) (l : Option Addr) (n c : Nat) : Calls Tryz.prog 38 #[.pointer p, .slice l n c] w fun e w' => ∃ (r1 : Int) (r2 : Int), e = .returned (.tuple #[.int .u32 r1, .int .i64 r2]) ∧ (r1 = 0 ∧ r2 = 1 ∧ Chg [] w w') := by
  refine ok_flow_Flow_Decides _ _ _ _ _ _ ?_
  unfold V_flow_Flow_Decides
  refine h.mono ?_
  rintro _ w2 ⟨_, rfl, rfl, hw⟩
  subst w2
  exact ⟨_, rfl, fun _ => ⟨rfl, rfl, Chg.refl _ _⟩, fun h => by simp at h⟩
theorem nofl_pages (h : IsNone w p true) : Calls Tryz.prog 36 #[.pointer p] w fun e w' => ∃ (r1 : Int) (r2 : Int), e = .returned (.tuple #[.int .i64 r1, .int .i64 r2]) ∧ (r1 = 0 ∧ r2 = 0 ∧ Chg [] w w') := by
  refine go_flow_Flow_Pages _ _ _ ?_
  unfold W_flow_Flow_Pages
  refine h.mono ?_
  rintro _ w2 ⟨_, rfl, rfl, hw⟩
  subst w2
  exact ⟨_, rfl, fun _ => ⟨rfl, rfl, Chg.refl _ _⟩, fun h => by simp at h⟩
theorem nofl_sets (h : IsNone w p true) : Calls Tryz.prog 33 #[.pointer p] w fun e w' => ∃ (r : Option Addr) (rn rc : Nat), e = .returned (.slice r rn rc) ∧ (rn = 0 ∧ Chg [] w w') := by
  refine go_flow_Flow_Sets _ _ _ ?_
  unfold W_flow_Flow_Sets
  refine h.mono ?_
  rintro _ w2 ⟨_, rfl, rfl, hw⟩
  subst w2
  exact ⟨_, rfl, fun _ => ⟨rfl, Chg.refl _ _⟩, fun h => by simp at h⟩
theorem nofl_copy (h : IsNone w p true) : Calls Tryz.prog 15 #[.pointer p] w fun e w' => ∃ r : Option Addr, e = .returned (.pointer r) ∧ (r = none ∧ Chg [] w w') := by
  refine go_flow_Flow_Copy _ _ _ ?_
  unfold W_flow_Flow_Copy
  refine h.mono ?_
  rintro _ w2 ⟨_, rfl, rfl, hw⟩
  subst w2
  exact ⟨_, rfl, fun _ => ⟨rfl, Chg.refl _ _⟩, fun h => by simp at h⟩
theorem nofl_same {q : Option Addr} {a b : Bool} (ha : IsNone w p a) (hb : IsNone w q b) (h : (a || b) = true) : Calls Tryz.prog 23 #[.pointer p, .pointer q] w fun e w' => ∃ r : Bool, e = .returned (.bool r) ∧ (r = (a && b) ∧ Chg [] w w') := by
  refine go_flow_Same _ _ _ _ ?_
  unfold W_flow_Same
  refine ha.mono ?_
  rintro _ w1 ⟨_, rfl, rfl, hw⟩
  subst w1
  refine ⟨_, rfl, fun b2 w' => b2 = true ∧ w' = w, ?_, fun hf => ?_, fun ht => ⟨rfl, rfl⟩⟩
  · rintro _ w2 ⟨rfl, hw⟩
    subst w2
    refine ⟨fun _ => ?_, fun h => by simp at h⟩
    refine ha.mono ?_
    rintro _ w3 ⟨_, rfl, rfl, hw⟩
    subst w3
    refine ⟨_, rfl, fun r w' => r = (_ && b) ∧ Chg [] w w', fun _ _ h => h, fun h1 => ?_, fun h1 => ⟨by rw [h1]; rfl, Chg.refl _ _⟩⟩
    refine hb.mono ?_
    rintro _ w3 ⟨_, rfl, rfl, hw⟩
    subst w3
    exact ⟨_, rfl, by rw [h1]; rfl, Chg.refl _ _⟩
  · refine hb.mono ?_
    rintro _ w3 ⟨_, rfl, rfl, hw⟩
    exact ⟨_, rfl, by rw [hf] at h; simpa using h, hw⟩
theorem nofl_all (h : ∀ w', Chg [] w w' → IsNone w' p true) :
    Calls Tryz.prog 34 #[.pointer p] w fun e w' => ∃ r : Value, e = .returned r ∧ ∃ cb m, r = .func (.func 69) #[] #[.pointer (some ⟨cb, 0, none⟩)] ∧ w'.heap[cb]? = some (.cells #[.map (some m)] 99 (0, 0)) ∧ AllIs w' m (flowNew 1 1 1) [] ∧ Chg [] w w' ∧ w.heap.size ≤ cb ∧ w.heap.size ≤ m := by
  refine go_flow_Flow_All _ _ _ ?_
  unfold W_flow_Flow_All
  refine v_alloc fun b1 w1 e1 hb1 c1 => ?_
  refine v_alloc fun b2 w2 e2 hb2 c2 => ?_
  have s1 := c1.size
  have s2 := c2.size
  have l2 := lt_of_heap hb2
  have l1 := lt_of_heap hb1
  refine v_set0 hb2 (by simp) fun w3 hb3 c3 s3 => ?_
  have c03 : Chg [] w w3 := (c1.trans0 c2).trans c3 (fun i hi hlt => by simp at hi; omega)
  have hm : MapIs w3 b1 encP (fun n : Int => .int .u32 n) [] := ⟨#[], 0, c3.obj (by simp; omega) (c2.obj (by simp) hb1), rfl, by simp, by simp, by simp⟩
  refine ⟨fun w' => w' = w3, ?_, ?_⟩
  · rintro w4 hw
    subst w4
    exact ⟨b2, b1, rfl, hb3, ⟨hm, fun p => by simp [lookK_nil, flowNew], by simp⟩, c03, by omega, by omega⟩
  refine (h w3 c03).mono ?_
  rintro _ w5 ⟨_, rfl, rfl, hw⟩
  subst w5
  exact ⟨_, rfl, fun h => by simp at h, fun _ => rfl⟩
end

theorem fnil_walk {w : World} {a : ActV} {q : Option Addr} {qn qc : Nat} (hA : ActAt w (oldS w) q qn qc a) :
    Calls Tryz.prog 9 #[.agg #[.int .i64 a.kind, .int .i64 a.n, .int .i64 a.p.1, .int .i64 a.p.2, .int .u32 a.set, .slice q qn qc]] w fun e w' => ∃ r : Bool, e = .returned (.bool r) ∧ (r = true ∧ Chg [] w w') := by
  refine go_pomanderlaw12_FlowNil _ _ _ _ _ _ _ _ _ _ ?_
  unfold W_pomanderlaw12_FlowNil
  rintro b1 w1 ⟨i1, j1⟩ c1
  have s1 := c1.size
  refine v_alloc fun b2 w2 e2 h2 c2 => ?_
  have s2 := c2.size
  have c02 := c1.trans0 c2
  have l2 := lt_of_heap h2
  have N1 : ∀ {A B : World}, w1.heap.size ≤ A.heap.size → Chg [] A B → Same A B [b1] := fun h hc => Same.chg hc (by simp; omega)
  have hActs : ActsAt w2 (oldS w2) (some ⟨b2, 0, none⟩) 1 [a] := by
    refine ⟨rfl, fun j x hx => ?_⟩
    cases j with
    | succ j => simp at hx
    | zero =>
      simp at hx
      subst hx
      refine ⟨_, q, qn, qc, rfl, l2, by simpa [add_at] using cellsAt_of h2, ?_⟩
      exact (hA.chg c02 (by simp)).mono fun i hi => by unfold oldS at *; omega
  refine (vast_ok (c := 1) hActs (by simp [maxLen])).mono ?_
  rintro _ w3 ⟨_, rfl, rfl, hw⟩
  subst w3
  refine ⟨_, rfl, N1 (by omega) (Chg.refl _ _), fun _ => ?_, fun _ => ?_⟩
  · refine (known12 w2).mono ?_
    rintro _ w4 ⟨_, rfl, rfl, c4⟩
    exact ⟨_, rfl, N1 (by omega) c4, rfl, c02.trans0 c4⟩
  refine v_alloc fun b3 w5 e5 h5 c5 => ?_
  have s5 := c5.size
  have c05 := c02.trans0 c5
  have hz : ∀ {W : World}, Chg [] w5 W → IsNone W (some ⟨b3, 0, none⟩) true := fun hc => isNone_empty (by rw [cell_of (hc.obj (by simp) h5)]; rfl)
  have hn : ∀ (W : World), IsNone W none true := isNone_nil
  refine (nofl_get (fun W _ => hn W) a.p.1 a.p.2).mono ?_
  rintro _ w6 ⟨_, _, rfl, rfl, rfl, c6⟩
  have s6 := c6.size
  refine ⟨_, _, rfl, N1 (by omega) c6, ?_⟩
  refine (nofl_mark (fun W hc => hz (c6.trans0 hc)) a.p.1 a.p.2 a.n a.set).mono ?_
  rintro _ w7 ⟨_, rfl, rfl, c7⟩
  have s7 := c7.size
  have c57 := c6.trans0 c7
  refine ⟨_, rfl, N1 (by omega) c7, ?_⟩
  refine (nofl_apply (hn w7) q qn qc).mono ?_
  rintro _ w8 ⟨_, rfl, rfl, c8⟩
  have s8 := c8.size
  have c58 := c57.trans0 c8
  refine ⟨_, rfl, N1 (by omega) c8, ?_⟩
  refine (nofl_decides (hz c58) q qn qc).mono ?_
  rintro _ w9 ⟨_, _, rfl, rfl, rfl, c9⟩
  have s9 := c9.size
  have c59 := c58.trans0 c9
  refine ⟨_, _, rfl, ?_⟩
  refine (nofl_pages (hn w9)).mono ?_
  rintro _ w10 ⟨_, _, rfl, rfl, rfl, c10⟩
  have s10 := c10.size
  refine ⟨_, _, rfl, ?_⟩
  rintro b4 w12 ⟨i4, j4⟩ c12
  have s12 := c12.size
  have c512 := (c59.trans0 c10).trans0 c12
  refine (nofl_all (fun W hc => hz (c512.trans0 hc))).mono ?_
  rintro _ w13 ⟨_, rfl, cb0, _, rfl, _, _, c13, _⟩
  have s13 := c13.size
  have c513 := c512.trans0 c13
  refine ⟨_, rfl, Same.chg c13 (by simp; omega), false, fun w => func_ne_nil130 _ _ _ _ w, fun h => by simp at h, fun _ => ?_⟩
  refine (nofl_all (fun W hc => hz (c513.trans0 hc))).mono ?_
  rintro _ w14 ⟨_, rfl, cb, m, rfl, hcb, hAll, c14, hcbn, hmn⟩
  have s14 := c14.size
  have c514 := c513.trans0 c14
  have l1' := lt_of_heap hcb
  have l2' := hAll.map.lt
  have none_in : ∀ ys, fullF (flowNew 1 1 1) ys → ys = [] := fun ys hf => by
    cases ys with
    | nil => rfl
    | cons y ys => have := ((hf.2 y).1 (by simp)).1; simp [flowNew] at this
  refine ⟨_, rfl, Same.chg c14 (by simp; omega), _, _, _, isFn100 cb, iterates_flow hcb hAll (by simp [flowNew]) (by simp [flowNew]), by simp; exact ⟨l1', l2'⟩, ?_⟩
  refine ⟨fun c O pre w' => c = 0 ∧ Chg [] w14 w', ?_, ?_, ?_, ?_⟩
  · rintro c pre O O' A B ⟨k1, k2⟩ hO hc hO' hg
    exact ⟨k1, k2.trans hc (fun i hi hlt => by have := (hO i hi).1; omega)⟩
  · intro O w15 c15 hO; exact ⟨rfl, c15⟩
  · rintro l1 O pre x1 x2 x3 c w15 hO hl1 ⟨ys, suf, hfull, hsuf⟩ _
    rw [none_in ys hfull] at hsuf
    simp at hsuf
  · rintro d1 O xs c w18 hO hd _ ⟨rfl, k2⟩
    have hd' := hO d1 hd
    have s18 := k2.size
    have c518 := c514.trans0 k2
    refine (flow_new w18 1 1 1).mono ?_
    rintro _ w19 ⟨r14, r15, rfl, c19, hF⟩
    have s19 := c19.size
    rw [if_pos (by unfold rightP; decide)] at hF
    obtain ⟨rfl, bo, fpo, rfl, hF, hfo⟩ := hF
    have c519 := c518.trans0 c19
    have N2 : ∀ {A B : World}, w18.heap.size ≤ A.heap.size → Chg [] A B → Same A B [d1] := fun h hc => Same.chg hc (by simp; omega)
    refine ⟨_, _, rfl, Same.chg c19 (by simp; omega), ?_⟩
    have hreal : ∀ {W : World}, Chg [] w19 W → IsNone W (some ⟨bo, 0, none⟩) false := fun hc => flow_none (hF.chg hc (by simp))
    refine ⟨fun b w' => b = true ∧ Chg [] w19 w', ?_, fun _ => ⟨by rfl, Chg.refl _ _⟩, fun h => by simp at h⟩
    rintro _ w20 ⟨rfl, c20⟩
    have s20 := c20.size
    refine ⟨fun b w' => b = true ∧ Chg [] w19 w', ?_, fun _ => ?_, fun h => by simp at h⟩
    rotate_left
    · refine (nofl_sets (hn w20)).mono ?_
      rintro _ w22 ⟨_, _, _, rfl, rfl, c22⟩
      exact ⟨_, _, _, rfl, N2 (by omega) c22, rfl, c20.trans0 c22⟩
    rintro _ w21 ⟨rfl, c21⟩
    have s21 := c21.size
    refine ⟨fun b w' => b = true ∧ Chg [] w19 w', ?_, fun _ => ?_, fun h => by simp at h⟩
    rotate_left
    · refine (nofl_copy (hz (c519.trans0 c21))).mono ?_
      rintro _ w24 ⟨_, rfl, rfl, c24⟩
      exact ⟨_, rfl, N2 (by omega) c24, rfl, c21.trans0 c24⟩
    rintro _ w23 ⟨rfl, c23⟩
    have s23 := c23.size
    refine ⟨fun b w' => b = true ∧ Chg [] w19 w', ?_, fun _ => ?_, fun h => by simp at h⟩
    rotate_left
    · refine (nofl_same (hn w23) (hz (c519.trans0 c23)) rfl).mono ?_
      rintro _ w24 ⟨_, rfl, rfl, c24⟩
      exact ⟨_, rfl, N2 (by omega) c24, rfl, c23.trans0 c24⟩
    rintro _ w25 ⟨rfl, c25⟩
    have s25 := c25.size
    refine ⟨fun b w' => b = true ∧ Chg [] w19 w', ?_, fun _ => ?_, fun h => by simp at h⟩
    rotate_left
    · refine (nofl_same (hn w25) (hreal c25) rfl).mono ?_
      rintro _ w24 ⟨_, rfl, rfl, c24⟩
      exact ⟨_, rfl, N2 (by omega) c24, rfl, c25.trans0 c24⟩
    rintro _ w27 ⟨rfl, c27⟩
    have s27 := c27.size
    refine ⟨fun b w' => b = true ∧ Chg [] w19 w', ?_, fun _ => ?_, fun h => by simp at h⟩
    rotate_left
    · refine (nofl_same (hreal c27) (hz (c519.trans0 c27)) rfl).mono ?_
      rintro _ w24 ⟨_, rfl, rfl, c24⟩
      exact ⟨_, rfl, N2 (by omega) c24, rfl, c27.trans0 c24⟩
    rintro _ w29 ⟨rfl, c29⟩
    have s29 := c29.size
    refine ⟨fun b w' => b = true ∧ Chg [] w19 w', ?_, fun _ => ?_, fun h => by simp at h⟩
    rotate_left
    · refine (known12 w29).mono ?_
      rintro _ w24 ⟨_, rfl, rfl, c24⟩
      exact ⟨_, rfl, N2 (by omega) c24, rfl, c29.trans0 c24⟩
    rintro _ w31 ⟨rfl, c31⟩ w33 c33
    exact ⟨rfl, ((c05.trans0 c519).trans0 c31).trans c33 (fun i hi hlt => by simp at hi; omega)⟩
end Go.Proofs.YtfcfkhbkkfpehaaGreat
end

/- XOpen4 -/
section
/- Arguments that came in, opened: acts on flows. -/
set_option linter.unusedVariables false
set_option linter.unusedSimpArgs false
namespace Go.Proofs.YtfcfkhbkkfpehaaGreat
open Go Go.RowKit Go.X Go.ChangeShapes Go.WideShapes Go.ChangeAt
theorem len6 {α : Type} {l : List α} (h : l.length = 6) : ∃ a b c d e f, l = [a, b, c, d, e, f] := by
  match l, h with
  | [a, b, c, d, e, f], _ => exact ⟨a, b, c, d, e, f, rfl⟩
section
variable {H : Type} {enc : TypeId × Value → H} {w : World} {base : Nat} {spare : Nat → Bool} {held : Bool} {fuel : Nat} {cs : List Value} {x : DataW H × List MemPlace}
theorem cells25 : Tryz.prog.cellsOf 27 = 1 := by kernel_rfl
theorem open_act (h : DataW.trod enc Tryz.prog w base spare held fuel 79 cs = some x) : ∃ (a : ActV) (q : Option Addr) (qn qc : Nat), cs = [.int .i64 a.kind, .int .i64 a.n, .int .i64 a.p.1, .int .i64 a.p.2, .int .u32 a.set, .slice q qn qc] ∧ ActAt w (oldS w) q qn qc a := by
  obtain ⟨xs, n, _, _, hl, hlen, hf⟩ := DataW.trod_struct Tryz.underlying79 h
  have h0 : DataW.trod enc Tryz.prog w base spare held n 3 ((cs.drop 0).take (Tryz.prog.cellsOf 3)) = xs[0]? := hf 0 _ rfl
  have h1 : DataW.trod enc Tryz.prog w base spare held n 3 ((cs.drop 1).take (Tryz.prog.cellsOf 3)) = xs[1]? := hf 1 _ rfl
  have h2 : DataW.trod enc Tryz.prog w base spare held n 62 ((cs.drop 2).take (Tryz.prog.cellsOf 62)) = xs[2]? := hf 2 _ rfl
  have h3 : DataW.trod enc Tryz.prog w base spare held n 22 ((cs.drop 4).take (Tryz.prog.cellsOf 22)) = xs[3]? := hf 3 _ rfl
  have h4 : DataW.trod enc Tryz.prog w base spare held n 27 ((cs.drop 5).take (Tryz.prog.cellsOf 27)) = xs[4]? := hf 4 _ rfl
  simp only [cells3, cells56, cells22, cells25] at h0 h1 h2 h3 h4
  rw [show Tryz.prog.cellsOf 79 = 6 by kernel_rfl] at hl
  rw [List.getElem?_eq_getElem (by rw [hlen]; decide)] at h0 h1 h2 h3 h4
  obtain ⟨k, e0, _, w0⟩ := DataW.trod_int un3 h0
  obtain ⟨m, e1, _, w1⟩ := DataW.trod_int un3 h1
  obtain ⟨p, e2, k1, k2⟩ := open_place h2
  obtain ⟨st, e3, _, w3⟩ := DataW.trod_int un22 h3
  obtain ⟨q, qn, qc, ts, e4, hq, hT, hTin⟩ := open_touches h4
  obtain ⟨c0, c1, c2, c3, c4, c5, rfl⟩ := len6 hl
  simp at e0 e1 e2 e3 e4
  obtain ⟨rfl, rfl⟩ := e2
  subst e0 e1 e3 e4
  exact ⟨⟨k, m, p, st, ts⟩, q, qn, qc, rfl, ⟨k1, k2⟩, wf_u32 w3, wf_i64 w1, hT, hq, hTin⟩
end
end Go.Proofs.YtfcfkhbkkfpehaaGreat
end

/- XStep -/
section
/- What every row's step needs. -/
set_option linter.unusedVariables false
namespace Go.Proofs.YtfcfkhbkkfpehaaGreat
open Go Go.RowKit Go.X
theorem ownX : ownKnob Tryz.prog.godebug = none := by kernel_rfl
theorem laidOutX : laidOutB Tryz.prog = true := by kernel_rfl
end Go.Proofs.YtfcfkhbkkfpehaaGreat
end
