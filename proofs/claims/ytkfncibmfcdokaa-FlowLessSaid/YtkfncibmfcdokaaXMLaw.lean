/- FlowLess: with a label left out of all that is marked touches do the same with the others. -/
import Derived.Test.YtkfncibmfcdokaaXM6
set_option linter.unusedVariables false
set_option linter.unusedSimpArgs false
set_option maxRecDepth 100000
namespace Go.Proofs.Ytkfncibmfcdokaa
open Go Go.RowKit Go.X Go.XR Go.ChangeShapes Go.WideShapes Go.ChangeAt

theorem shl_ok {label : Int} (h0 : 0 ≤ label) (h1 : label < 16) (x y : Operand) : ∃ t : Int, (0 ≤ t ∧ t < 65536) ∧ ∀ w : World, ((do eqGuard .shl 22 x y (.int .u32 1) (.int .u64 (IntKind.wrap .u64 label)); binOp .shl 22 (.int .u32 1) (.int .u64 (IntKind.wrap .u64 label)) : Sem Value)).run Try.prog w = .ok (.int .u32 t) w := by
  have : label = 0 ∨ label = 1 ∨ label = 2 ∨ label = 3 ∨ label = 4 ∨ label = 5 ∨ label = 6 ∨ label = 7 ∨ label = 8 ∨ label = 9 ∨ label = 10 ∨ label = 11 ∨ label = 12 ∨ label = 13 ∨ label = 14 ∨ label = 15 := by omega
  rcases this with rfl | rfl | rfl | rfl | rfl | rfl | rfl | rfl | rfl | rfl | rfl | rfl | rfl | rfl | rfl | rfl
  · exact ⟨1, by omega, fun w => by kernel_rfl⟩
  · exact ⟨2, by omega, fun w => by kernel_rfl⟩
  · exact ⟨4, by omega, fun w => by kernel_rfl⟩
  · exact ⟨8, by omega, fun w => by kernel_rfl⟩
  · exact ⟨16, by omega, fun w => by kernel_rfl⟩
  · exact ⟨32, by omega, fun w => by kernel_rfl⟩
  · exact ⟨64, by omega, fun w => by kernel_rfl⟩
  · exact ⟨128, by omega, fun w => by kernel_rfl⟩
  · exact ⟨256, by omega, fun w => by kernel_rfl⟩
  · exact ⟨512, by omega, fun w => by kernel_rfl⟩
  · exact ⟨1024, by omega, fun w => by kernel_rfl⟩
  · exact ⟨2048, by omega, fun w => by kernel_rfl⟩
  · exact ⟨4096, by omega, fun w => by kernel_rfl⟩
  · exact ⟨8192, by omega, fun w => by kernel_rfl⟩
  · exact ⟨16384, by omega, fun w => by kernel_rfl⟩
  · exact ⟨32768, by omega, fun w => by kernel_rfl⟩
theorem func_ne_nil130 (f : Nat) (lb : Array Value) (x y : Operand) (w : World) : ((do eqGuard .eql 130 x y (.func (.func f) #[] lb) .nilFunc; binOp .eql 130 (.func (.func f) #[] lb) .nilFunc : Sem Value)).run Try.prog w = .ok (.bool false) w := by
  simp only [binOp]
  have e : (Op.equalIn Op.maxDepth 130 (.func (.func f) #[] lb) .nilFunc).run Try.prog w = .ok false w := by
    rw [show Op.maxDepth = 9999 + 1 from rfl]
    unfold Op.equalIn
    simp [run_underlying Try.underlying130, Result.andThen, go_sem]
  simp [eqGuard, Op.equal, e, run_underlying Try.underlying130, Result.andThen, go_sem]
theorem add_zero' (q : Addr) : q.add 0 = q := by
  unfold Addr.add
  split <;> simp_all
theorem add_add' (q : Addr) (a b : Nat) : (q.add a).add b = q.add (a + b) := by
  by_cases hb : b = 0
  · subst hb; rw [add_zero', Nat.add_zero]
  · by_cases ha : a = 0
    · subst ha; rw [add_zero', Nat.zero_add]
    · unfold Addr.add
      simp [ha, hb, Nat.add_assoc]
theorem less_new (out : Int) (h0 : 0 ≤ out) (h1 : out < 65536) : Less out (flowNew 2 2 65536) (flowNew 2 2 65536) :=
  ⟨rfl, rfl, rfl, rfl, ⟨by simp [flowNew], by simp [flowNew]⟩, ⟨by simp [flowNew], by simp [flowNew]⟩, fun p => by simp [flowNew], fun p => (less_zero h0 h1).symm⟩

/-- Both flows, and their blocks. -/
structure Two (w0 w : World) (out : Int) (bf bg : Nat) (F G : Fl) (fpF fpG : List Nat) (lo hi lo' hi' top : Nat) : Prop where
  chg : Chg [] w0 w
  f : FlowAt w bf F fpF
  g : FlowAt w bg G fpG
  less : Less out F G
  apart : ∀ i ∈ fpF, i ∉ fpG
  inF : ∀ i ∈ fpF, (lo ≤ i ∧ i < hi) ∨ top ≤ i
  inG : ∀ i ∈ fpG, (lo' ≤ i ∧ i < hi') ∨ top ≤ i
  top : top ≤ w.heap.size
theorem Two.later {w0 w w' : World} {out : Int} {bf bg : Nat} {F G : Fl} {fpF fpG : List Nat} {lo hi lo' hi' top : Nat} (h : Two w0 w out bf bg F G fpF fpG lo hi lo' hi' top) (hc : Chg [] w w') : Two w0 w' out bf bg F G fpF fpG lo hi lo' hi' top :=
  ⟨h.chg.trans0 hc, h.f.chg hc (by simp), h.g.chg hc (by simp), h.less, h.apart, h.inF, h.inG, Nat.le_trans h.top hc.size⟩

theorem less_walk {w : World} {l1 : Option Addr} {ln lc : Nat} {acts : List ActV} {label : Int} (hA : ActsAt w (oldS w) l1 ln acts) (hln : ln ≤ maxLen) :
    Calls Try.prog 16 #[.slice l1 ln lc, .int .i64 label] w fun e w' => ∃ r : Bool, e = .returned (.bool r) ∧ (r = true ∧ Chg [] w w') := by
  have hal := hA.length
  have hln' := hln
  simp only [maxLen] at hln'
  refine go_pomanderlaw12_FlowLess _ _ _ _ _ _ ?_
  unfold W_pomanderlaw12_FlowLess
  rintro b1 w1 ⟨i1, j1⟩ c1
  have s1 := c1.size
  refine (vast_ok (c := lc) (hA.chg c1 (by simp)) hln).mono ?_
  rintro _ w2 ⟨_, rfl, rfl, hw⟩
  subst w2
  refine ⟨_, rfl, Same.refl _ _, fun _ => ?_, fun hb => ?_⟩
  · refine (known12 w1).mono ?_
    rintro _ w3 ⟨_, rfl, rfl, c3⟩
    exact ⟨_, rfl, Same.chg c3 (by simp; omega), fun w4 c4 => ⟨rfl, (c1.trans0 c3).trans c4 (fun i hi hlt => by simp at hi; omega)⟩⟩
  have hlab : 0 ≤ label ∧ label < 16 := by
    simp only [Bool.or_eq_false_iff] at hb
    have a := of_decide_eq_false hb.1.2
    have b := of_decide_eq_false hb.2
    omega
  rintro b2 w6 ⟨i2, j2⟩ c6
  have s6 := c6.size
  refine (flow_new w6 2 2 65536).mono ?_
  rintro _ w7 ⟨r4, r5, rfl, c7, hF⟩
  rw [if_pos (by unfold rightP; decide)] at hF
  obtain ⟨rfl, bf, fpF, rfl, hF, hfF⟩ := hF
  have s7 := c7.size
  refine ⟨_, _, rfl, Same.chg c7 (by simp; omega), ?_⟩
  rintro b3 w9 ⟨i3, j3⟩ c9
  have s9 := c9.size
  refine (flow_new w9 2 2 65536).mono ?_
  rintro _ w10 ⟨r6, r7, rfl, c10, hG⟩
  rw [if_pos (by unfold rightP; decide)] at hG
  obtain ⟨rfl, bg, fpG, rfl, hG, hfG⟩ := hG
  have s10 := c10.size
  refine ⟨_, _, rfl, Same.chg c10 (by simp; omega), ?_⟩
  obtain ⟨out, hout, hshl⟩ := shl_ok hlab.1 hlab.2 (.const (.int .u32 1)) (.tmp 46)
  refine ⟨out, hshl, ?_⟩
  rintro b5 b4 w14 ⟨i5, j5⟩ ⟨i4, j4⟩ c14
  have s14 := c14.size
  have hlF := hF.lt
  have hlG := hG.lt
  have c014 : Chg [] w w14 := (((c1.trans0 c6).trans0 c7).trans0 c9).trans0 (c10.trans0 c14)
  have h14 : Two w w14 out bf bg (flowNew 2 2 65536) (flowNew 2 2 65536) fpF fpG w6.heap.size w7.heap.size w9.heap.size w10.heap.size w14.heap.size :=
    ⟨c014, ((hF.chg c9 (by simp)).chg c10 (by simp)).chg c14 (by simp), hG.chg c14 (by simp), less_new out hout.1 hout.2, fun i hi hm => by have := hlF i hi; have := hfG i hm; omega, fun i hi => .inl ⟨hfF i hi, hlF i hi⟩, fun i hi => .inl ⟨hfG i hi, hlG i hi⟩, Nat.le_refl _⟩
  refine ⟨fun i w' => ∃ j : Nat, i = j ∧ j ≤ ln ∧ ∃ F G fpF fpG, Two w w' out bf bg F G fpF fpG w6.heap.size w7.heap.size w9.heap.size w10.heap.size w14.heap.size, fun i _ => ln - i.toNat, ⟨0, rfl, Nat.zero_le _, _, _, _, _, h14⟩, ?_⟩
  rintro _ w15 ⟨j, rfl, hj, F, G, fF, fG, hT⟩
  have t15 := hT.top
  have sF : ∀ {w18 w19 : World}, w14.heap.size ≤ w18.heap.size → Chg fF w18 w19 → Same w18 w19 [b1, b3, b4, b5] := fun hs hc => Same.of hc (fun i hi => by
    simp at hi
    refine ⟨by omega, fun hm => ?_⟩
    have := hT.inF i hm; omega)
  have sG : ∀ {w18 w19 : World}, w14.heap.size ≤ w18.heap.size → Chg fG w18 w19 → Same w18 w19 [b1, b3, b4, b5] := fun hs hc => Same.of hc (fun i hi => by
    simp at hi
    refine ⟨by omega, fun hm => ?_⟩
    have := hT.inG i hm; omega)
  have sz014 := c014.size
  have oldF : ∀ i ∈ fF, ¬ oldS w i := fun i hi ho => by have := hT.inF i hi; unfold oldS at ho; omega
  have oldG : ∀ i ∈ fG, ¬ oldS w i := fun i hi ho => by have := hT.inG i hi; unfold oldS at ho; omega
  refine ⟨fun hlt => ?_, fun hge => ?_⟩
  · have hlt' : j < ln := by have := of_decide_eq_true hlt; omega
    refine ⟨fun ev hv w' => ev = hv ∧ ∃ F G fpF fpG, Two w w' out bf bg F G fpF fpG w6.heap.size w7.heap.size w9.heap.size w10.heap.size w14.heap.size, ?_, ?_⟩
    · rintro ev _ w16 ⟨rfl, h16⟩
      refine ⟨fun h => by simp at h, fun _ => ?_⟩
      rw [wr (by omega) (by omega)]
      exact ⟨⟨j + 1, by omega, by omega, h16⟩, by simp only []; omega⟩
    obtain ⟨a, hx⟩ : ∃ a, acts[j]? = some a := ⟨_, List.getElem?_eq_getElem (by omega)⟩
    obtain ⟨b, q, qn, qc, rfl, hbS, hc, hAct⟩ := (hA.chg hT.chg (by simp)).each j _ hx
    have ej : Int.toNat (j : Int) = j := by omega
    rw [ej]
    have cells : ∀ {W : World}, Chg [] w15 W → CellsAt W (b.add (j * 6)) 0 [.int .i64 a.kind, .int .i64 a.n, .int .i64 a.p.1, .int .i64 a.p.2, .int .u32 a.set, .slice q qn qc] := fun hcc => hcc.cells (by simp) hc
    have cellsF : ∀ {W W' : World} {f : List Nat}, (∀ i ∈ f, ¬ oldS w i) → Chg f W W' → CellsAt W (b.add (j * 6)) 0 [.int .i64 a.kind, .int .i64 a.n, .int .i64 a.p.1, .int .i64 a.p.2, .int .u32 a.set, .slice q qn qc] → CellsAt W' (b.add (j * 6)) 0 [.int .i64 a.kind, .int .i64 a.n, .int .i64 a.p.1, .int .i64 a.p.2, .int .u32 a.set, .slice q qn qc] := fun hf hcc h => hcc.cells (fun hm => hf _ hm (by rw [add_block]; exact hbS)) h
    have place : ∀ {W : World}, CellsAt W (b.add (j * 6)) 0 [.int .i64 a.kind, .int .i64 a.n, .int .i64 a.p.1, .int .i64 a.p.2, .int .u32 a.set, .slice q qn qc] → CellsAt W ((b.add (j * 6)).add 2) 0 [.int .i64 a.p.1, .int .i64 a.p.2] := fun h => by
      obtain ⟨_, _, k2, k3, _⟩ := h
      exact ⟨by rw [add_zero']; exact k2, by rw [add_add']; exact k3, trivial⟩
    have hap := hAct.p
    have hset := hAct.set
    have hlG := hT.g.lt
    have hlF := hT.f.lt
    refine ⟨b, rfl, by omega, by omega, a.kind, by have := hc.1; rwa [add_zero'] at this, fun hk => ?_, fun hk => ?_⟩
    · refine ⟨a.set, hc.2.2.2.2.1, fun w18 c18 => ?_⟩
      have s18 := c18.size
      have hc18 := cells c18
      refine ⟨_, _, place hc18, _, hc18.2.1, ?_⟩
      refine (flow_mark (hT.f.chg c18 (by simp)) (p1 := a.p.1) (n := a.n) hap.2 hset.1).mono ?_
      rintro _ w19 ⟨_, rfl, rfl, fF', hF', c19, hn19⟩
      have s19 := c19.size
      refine ⟨_, rfl, sF (by omega) c19, fun w20 c20 => ?_⟩
      have s20 := c20.size
      have hc20 := cellsF (f := []) (by simp) c20 (cellsF oldF c19 hc18)
      refine ⟨_, _, place hc20, _, hc20.2.1, ?_⟩
      have hg20 : FlowAt w20 bg G fG := ((hT.g.chg c18 (by simp)).chg c19 (fun i hi hm => hT.apart i hm hi)).chg c20 (by simp)
      have hl := less_lt hout.1 hout.2 hset.1 hset.2
      refine (flow_mark hg20 (p1 := a.p.1) (n := a.n) (set := less out a.set) hap.2 hl.1).mono ?_
      rintro _ w21 ⟨_, rfl, rfl, fG', hG', c21, hn21⟩
      have s21 := c21.size
      obtain ⟨hE, hL⟩ := hT.less.mark hout.1 hout.2 (a.p.1, a.p.2) a.n hset.1 hset.2
      have hlF' := hF'.lt
      have apF : ∀ i ∈ fF', i ∉ fG := fun i hi hm => by
        rcases hn19 i hi with k | k
        · exact hT.apart i k hm
        · have := hlG i hm; omega
      refine ⟨_, rfl, sG (by omega) c21, hE.symm, _, _, fF', fG', ⟨?_, (hF'.chg c20 (by simp)).chg c21 apF, hG', hL, fun i hi hm => ?_, fun i hi => ?_, fun i hi => ?_, by omega⟩⟩
      · exact (((hT.chg.trans0 c18).trans c19 (fun i hi hlt => by have := oldF i hi; unfold oldS at this; omega)).trans0 c20).trans c21 (fun i hi hlt => by have := oldG i hi; unfold oldS at this; omega)
      · rcases hn21 i hm with k | k
        · exact apF i hi k
        · have := hlF' i hi; omega
      · rcases hn19 i hi with k | k
        · exact hT.inF i k
        · exact .inr (by omega)
      · rcases hn21 i hi with k | k
        · exact hT.inG i k
        · exact .inr (by omega)
    · intro w22 c22
      have s22 := c22.size
      have hc22 := cells c22
      refine ⟨_, _, _, hc22.2.2.2.2.2.1, ?_⟩
      have hqn := hAct.qn
      have hin : ∀ t ∈ a.ts, t.2.length ≤ 9223372036854775807 := fun t ht => by have := hAct.inner t ht; simp only [maxLen] at this; omega
      simp only [maxLen] at hqn
      refine (flow_apply (c := qc) (hT.f.chg c22 (by simp)) (hAct.ts.chg c22 (by simp)) oldF (by omega) hin).mono ?_
      rintro _ w23 ⟨_, rfl, rfl, fF', hF', c23, hn23⟩
      have s23 := c23.size
      refine ⟨_, rfl, sF (by omega) c23, fun w24 c24 => ?_⟩
      have s24 := c24.size
      have hc24 := cellsF (f := []) (by simp) c24 (cellsF oldF c23 hc22)
      refine ⟨_, _, _, hc24.2.2.2.2.2.1, ?_⟩
      have hg24 : FlowAt w24 bg G fG := ((hT.g.chg c22 (by simp)).chg c23 (fun i hi hm => hT.apart i hm hi)).chg c24 (by simp)
      refine (flow_apply (c := qc) hg24 (((hAct.ts.chg c22 (by simp)).chg c23 oldF).chg c24 (by simp)) oldG (by omega) hin).mono ?_
      rintro _ w25 ⟨_, rfl, rfl, fG', hG', c25, hn25⟩
      have s25 := c25.size
      obtain ⟨hE, hL⟩ := hT.less.apply hout.1 hout.2 a.ts
      have hlF' := hF'.lt
      have apF : ∀ i ∈ fF', i ∉ fG := fun i hi hm => by
        rcases hn23 i hi with k | k
        · exact hT.apart i k hm
        · have := hlG i hm; omega
      refine ⟨_, rfl, sG (by omega) c25, hE.symm, _, _, fF', fG', ⟨?_, (hF'.chg c24 (by simp)).chg c25 apF, hG', hL, fun i hi hm => ?_, fun i hi => ?_, fun i hi => ?_, by omega⟩⟩
      · exact (((hT.chg.trans0 c22).trans c23 (fun i hi hlt => by have := oldF i hi; unfold oldS at this; omega)).trans0 c24).trans c25 (fun i hi hlt => by have := oldG i hi; unfold oldS at this; omega)
      · rcases hn25 i hm with k | k
        · exact apF i hi k
        · have := hlF' i hi; omega
      · rcases hn23 i hi with k | k
        · exact hT.inF i k
        · exact .inr (by omega)
      · rcases hn25 i hi with k | k
        · exact hT.inG i k
        · exact .inr (by omega)
  · have N : ∀ {A B : World}, w14.heap.size ≤ A.heap.size → Chg [] A B → Same A B [b1, b3, b4, b5] := fun h hc => Same.chg hc (by simp; omega)
    have hwF := hT.f.wide
    have hwG := hT.g.wide
    refine (flow_all hT.f).mono ?_
    rintro _ w26 ⟨_, rfl, cb0, _, _, rfl, _, _, c26, _⟩
    have s26 := c26.size
    refine ⟨_, rfl, N (by omega) c26, false, fun w => func_ne_nil130 _ _ _ _ w, fun h => by simp at h, fun _ => ?_⟩
    have hT26 := hT.later c26
    refine (flow_all hT26.f).mono ?_
    rintro _ w28 ⟨_, rfl, cb, m, L, rfl, hcb, hAll, c28, hcbn, hmn⟩
    have s28 := c28.size
    have hT28 := hT26.later c28
    have l1' := lt_of_heap hcb
    have l2' := hAll.map.lt
    refine ⟨_, rfl, N (by omega) c28, _, _, _, isFn100 cb, iterates_flow hcb hAll (by omega) (by omega), by simp; exact ⟨l1', l2'⟩, ?_⟩
    refine ⟨fun O pre w' => Chg [] w28 w', fun _ _ _ _ => False, ?_, ?_, ?_, ?_, ?_, ?_⟩
    · rintro pre O O' A B k1 hO hc hO' hg
      exact k1.trans hc (fun i hi hlt => by have := (hO i hi).1; omega)
    · rintro _ _ _ _ _ _ hf; exact hf.elim
    · intro O w29 c29 hO; exact c29
    · rintro l2 O pre x1 x2 x3 w29 hO hl2 ⟨ys, suf, hfull, hsuf⟩ k1 b6 w32 ⟨q1, q2⟩ c32
      have hl2' := hO l2 hl2
      have s29 := k1.size
      have s32 := c32.size
      have c2832 : Chg [] w28 w32 := k1.trans c32 (fun i hi hlt => by simp at hi; omega)
      obtain ⟨y, hy, hye⟩ : ∃ y ∈ ys, tell F y = (x1, x2, x3) := by
        have : (x1, x2, x3) ∈ ys.map (tell F) := by rw [← hsuf]; simp
        exact List.mem_map.1 this
      obtain ⟨e1, e2, e3⟩ : y.1 = x1 ∧ y.2 = x2 ∧ F.g y = x3 := by
        simp [tell] at hye; exact hye
      have hym := (hfull.2 y).1 hy
      have hyp : y = (x1, x2) := Prod.ext e1 e2
      subst hyp
      have hi2 : i64s x2 := by
        obtain ⟨a1, a2, a3, a4⟩ := hym.2
        have hb : boundP F.fr F.se x1 ≤ 2147483648 := by
          unfold boundP
          repeat' split
          all_goals omega
        simp only [] at a3 a4
        exact ⟨by omega, by omega⟩
      refine (flow_Get ((hT28.g).chg c2832 (by simp)) (p1 := x1) hi2).mono ?_
      rintro _ w33 ⟨r14, r15, rfl, c33, hr⟩
      have s33 := c33.size
      rw [if_pos (by rw [hT.less.fr, hT.less.se]; exact hym.2)] at hr
      obtain ⟨rfl, rfl⟩ := hr
      have hsm : Same w32 w33 ([cb, m] ++ O) := Same.chg c33 (fun i hi => by
        rcases List.mem_append.1 hi with h | h
        · simp at h; rcases h with e | e <;> subst e <;> omega
        · have := hO i h; omega)
      refine ⟨_, _, rfl, N (by omega) c33, fun b w' => b = false ∧ w' = w33, ?_, fun _ => ⟨?_, rfl⟩, fun h => by simp at h⟩
      · rintro _ w34 ⟨rfl, hw⟩
        subst w34
        exact ⟨fun h => by simp at h, fun _ => ⟨s33, c2832.trans0 c33, hsm⟩⟩
      · rw [hT.less.look, e3]
        show (!(less out x3 == less out x3)) = false
        simp
    · rintro d1 O xs w36 hO hd hxs k1
      have hd' := hO d1 hd
      have s36 := k1.size
      have hT36 := hT28.later k1
      have N2 : ∀ {A B : World}, w36.heap.size ≤ A.heap.size → Chg [] A B → Same A B [b1, b3, b5, d1] := fun h hc => Same.chg hc (by simp; omega)
      refine (flow_all hT36.g).mono ?_
      rintro _ w37 ⟨_, rfl, cb', m', L', rfl, hcb', hAll', c37, hcbn', hmn'⟩
      have s37 := c37.size
      have hT37 := hT36.later c37
      have l3' := lt_of_heap hcb'
      have l4' := hAll'.map.lt
      refine ⟨_, rfl, N2 (Nat.le_refl _) c37, _, _, _, isFn100 cb', iterates_flow hcb' hAll' (by omega) (by omega), by simp; exact ⟨l3', l4'⟩, ?_⟩
      refine ⟨fun O pre w' => Chg [] w37 w', fun _ _ _ _ => False, ?_, ?_, ?_, ?_, ?_, ?_⟩
      · rintro pre O O' A B k1 hO hc hO' hg
        exact k1.trans hc (fun i hi hlt => by have := (hO i hi).1; omega)
      · rintro _ _ _ _ _ _ hf; exact hf.elim
      · intro O w29 c29 hO; exact c29
      · rintro l3 O3 pre x4 x5 x6 w38 hO3 hl3 ⟨ys, suf, hfull, hsuf⟩ k2 b8 w41 ⟨q1, q2⟩ c41
        have hl3' := hO3 l3 hl3
        have s38 := k2.size
        have s41 := c41.size
        have c3741 : Chg [] w37 w41 := k2.trans c41 (fun i hi hlt => by simp at hi; omega)
        obtain ⟨y, hy, hye⟩ : ∃ y ∈ ys, tell G y = (x4, x5, x6) := by
          have : (x4, x5, x6) ∈ ys.map (tell G) := by rw [← hsuf]; simp
          exact List.mem_map.1 this
        obtain ⟨e1, e2, e3⟩ : y.1 = x4 ∧ y.2 = x5 ∧ G.g y = x6 := by
          simp [tell] at hye; exact hye
        have hym := (hfull.2 y).1 hy
        have hyp : y = (x4, x5) := Prod.ext e1 e2
        subst hyp
        have hi2 : i64s x5 := by
          obtain ⟨a1, a2, a3, a4⟩ := hym.2
          have hb : boundP G.fr G.se x4 ≤ 2147483648 := by
            unfold boundP
            repeat' split
            all_goals omega
          simp only [] at a3 a4
          exact ⟨by omega, by omega⟩
        refine (flow_Get ((hT37.f).chg c3741 (by simp)) (p1 := x4) hi2).mono ?_
        rintro _ w42 ⟨r17, r18, rfl, c42, hr⟩
        have s42 := c42.size
        rw [if_pos (by rw [← hT.less.fr, ← hT.less.se]; exact hym.2)] at hr
        obtain ⟨rfl, rfl⟩ := hr
        have hsm : Same w41 w42 ([cb', m'] ++ O3) := Same.chg c42 (fun i hi => by
          rcases List.mem_append.1 hi with h | h
          · simp at h; rcases h with e | e <;> subst e <;> omega
          · have := hO3 i h; omega)
        refine ⟨_, _, rfl, N2 (by omega) c42, fun b w' => b = false ∧ w' = w42, ?_, fun _ => ⟨?_, rfl⟩, fun h => by simp at h⟩
        · rintro _ w43 ⟨rfl, hw⟩
          subst w43
          exact ⟨fun h => by simp at h, fun _ => ⟨s42, c3741.trans0 c42, hsm⟩⟩
        · rw [← e3, hT.less.look]
          show (!(less out (F.g (x4, x5)) == less out (F.g (x4, x5)))) = false
          simp
      · rintro d2 O4 xs2 w45 hO4 hd2 hxs2 k2
        have hd2' := hO4 d2 hd2
        have s45 := k2.size
        refine (known12 w45).mono ?_
        rintro _ w46 ⟨_, rfl, rfl, c46⟩
        refine ⟨_, rfl, Same.chg c46 (by simp; omega), fun w47 c47 w48 c48 => ⟨rfl, ?_⟩⟩
        exact ((((hT37.chg).trans0 k2).trans0 c46).trans c47 (fun i hi hlt => by simp at hi; omega)).trans c48 (fun i hi hlt => by simp at hi; omega)
      · rintro _ _ _ _ _ _ _ _ hf; exact hf.elim
    · rintro _ _ _ _ _ _ _ _ hf; exact hf.elim

theorem lessw_lifted (os : Os) (started : os.Started) (H : Type) (enc : TypeId × Value → H) :
    ReturnsInHanded {} Try.checked os 16 .any (Rows.flowLessSpec.pre6 enc Try.prog Try.f16 Rows.flowLessRow.domain false) (Rows.flowLessSpec.post enc Try.prog Try.f16 false true false false) := by
  refine returnsInHanded_of_change (C := Try.checked) ownX started (by kernel_rfl) Try.func16
    (ChangeSpec.witness6 (enc := enc) (C := Try.checked) false ⟨#[], #[.slice none 0 0, .int .i64 0], []⟩ 8 (by kernel_rfl) (by kernel_rfl) (by kernel_rfl) (by kernel_rfl)) ?_
  intro W base args ds gs before hval0 hW hcnd _
  have hval : ∀ (j : Nat) t v, Try.f16.params[j]? = some t → args[j]? = some v → Value.okWide Try.prog W .any base t v := hval0
  have hW' := hW
  obtain ⟨p, q, hA0, hV, rfl, hfz, hnd⟩ := hW
  have hA : DataW.TrodAll enc Try.prog W 0 (fun _ => true) true Try.f16.params.toList args.toList ds p := hA0
  rw [Try.params16] at hA hval
  have hAll := hA
  obtain ⟨v0, vs0, d0, ds0, p0, q0, hargs, rfl, rfl, h0, r0⟩ := trodAll_cons hA
  obtain ⟨v1, vs1, d1, ds1, p1, q1, rfl, rfl, rfl, h1, r1⟩ := trodAll_cons r0
  obtain ⟨rfl, rfl, rfl⟩ := trodAll_nil r1
  obtain rfl : args = #[v0, v1] := by cases args; simp_all
  obtain ⟨rfl, rfl⟩ := trodVars_none hV
  have hblt : ∀ x ∈ p0 ++ (p1 ++ []), x.block < W.heap.size := fun x hx => hW'.lt x (by simpa using hx)
  obtain ⟨a1, rfl, rfl, rfl, w1⟩ := open_int un3 (hval 1 3 v1 rfl rfl) h1
  obtain ⟨b0, n0, k0, rfl⟩ := okWide_slice Try.underlying46 (hval 0 46 v0 rfl rfl)
  obtain ⟨f0, g0⟩ := h0
  obtain ⟨q0', m0, c0, acts, hms, hm0, hM⟩ := open_acts g0
  simp [Value.cells] at hms
  obtain ⟨rfl, rfl, rfl⟩ := hms
  clear hA0 hval0
  refine (less_walk hM hm0).mono fun e W' ⟨r, he, hr, hc⟩ => ?_
  subst he hr
  have bel := hc.below
  exact ⟨_, rfl, _, _, _, [], _, [], hW', trodAll_mk1 (shut_bool (by kernel_rfl) _), all_below laidOutX bel _ _ _ _ (fun t ht => by
    simp at ht
    rcases ht with rfl | rfl <;> exact ⟨by kernel_rfl, of_decide_eq_true (by kernel_rfl)⟩) hAll (fun x hx => hblt x (by simpa using hx)), rfl, bel.frame _, fun h => by cases h⟩

theorem lessw_over : Rows.flowLessRow.holds Try.pinned (OpenSpec.ofChange Rows.flowLessSpec) :=
  OpenClaim.holds_of_wide 16 Try.f16 rfl rfl rfl rfl rfl rfl rfl ⟨rfl, rfl, rfl, rfl, rfl⟩ rfl rfl rfl rfl rfl (by kernel_rfl) Try.func16 (by kernel_rfl)
    (of_decide_eq_true (by kernel_rfl)) (by unfold Func.isWrapper; first | (rw [if_pos (by decide +kernel)]; kernel_rfl) | (rw [if_neg (by decide +kernel)]; exact ⟨rfl, rfl⟩))
    (fun os started H enc _ => lessw_lifted os started H enc)

theorem flowLess_proved : Rows.FlowLessSaid := lessw_over
#print axioms flowLess_proved
end Go.Proofs.Ytkfncibmfcdokaa
