/- Flows: what stands there; bounds, may, get, put. -/
import Derived.Test.YtkfncibmfcdokaaXTable
import Derived.Test.YtkfncibmfcdokaaXShadow2
set_option linter.unusedVariables false
set_option linter.unusedSimpArgs false
namespace Go.Proofs.Ytkfncibmfcdokaa
open Go Go.RowKit Go.X

structure Fl where
  fr : Int
  se : Int
  most : Int
  sets : List Int
  g : Int × Int → Int

def boundP (fr se k : Int) : Int := if k = 1 then 8 else if k = 10 then 64 * fr else if k = 11 then 4 else if k = 12 then 64 * se else if k = 17 then 2 else if 13 ≤ k ∧ k ≤ 16 then 2147483648 else 1
def mayP (fr se : Int) (p : Int × Int) : Prop := 1 ≤ p.1 ∧ p.1 ≤ 17 ∧ 0 ≤ p.2 ∧ p.2 < boundP fr se p.1
instance (fr se : Int) (p : Int × Int) : Decidable (mayP fr se p) := by unfold mayP; exact inferInstance

/-- What a flow is. -/
structure FlowAt (w : World) (b : Nat) (F : Fl) (fp : List Nat) : Prop where
  there : ∃ (T m d r : Nat) (l : List ((Int × Int) × Int)) (fpT fpm fpd : List Nat) (gm gd : Int → Int),
    w.heap[b]? = some (.cells #[.int .i64 F.fr, .int .i64 F.se, .pointer (some ⟨T, 0, none⟩), .pointer (some ⟨m, 0, none⟩), .pointer (some ⟨d, 0, none⟩), .map (some r)] 145 (0, 0)) ∧
    TableAt w T F.most F.sets fpT ∧ ShadowAt w m F.fr gm fpm ∧ ShadowAt w d F.se gd fpd ∧ MapIs w r encP (fun n : Int => .int .u32 n) l ∧ (∀ n, F.g (10, n) = gm n) ∧ (∀ n, F.g (12, n) = gd n) ∧
    (∀ p : Int × Int, p.1 ≠ 10 → p.1 ≠ 12 → F.g p = (lookK p l).getD 0) ∧ (∀ x ∈ l, x.1.1 ≠ 10 ∧ x.1.1 ≠ 12 ∧ mayP F.fr F.se x.1 ∧ 0 < x.2 ∧ x.2 < 65536) ∧ fp = b :: r :: (fpT ++ (fpm ++ fpd))
  nodup : fp.Nodup

theorem FlowAt.lt {w : World} {b : Nat} {F : Fl} {fp : List Nat} (h : FlowAt w b F fp) : ∀ i ∈ fp, i < w.heap.size := by
  obtain ⟨T, m, d, r, l, fpT, fpm, fpd, gm, gd, h1, h2, h3, h4, h5, h6, h7, h8, h9, rfl⟩ := h.there
  intro i hi
  simp only [List.mem_cons, List.mem_append] at hi
  rcases hi with rfl | rfl | hi | hi | hi
  · exact lt_of_heap h1
  · exact h5.lt
  · exact h2.lt i hi
  · exact h3.lt i hi
  · exact h4.lt i hi
theorem FlowAt.chg {w w' : World} {b : Nat} {F : Fl} {fp f : List Nat} (h : FlowAt w b F fp) (hc : Chg f w w') (hf : ∀ i ∈ fp, i ∉ f) : FlowAt w' b F fp := by
  obtain ⟨T, m, d, r, l, fpT, fpm, fpd, gm, gd, h1, h2, h3, h4, h5, h6, h7, h8, h9, rfl⟩ := h.there
  simp only [List.mem_cons, List.mem_append, forall_eq_or_imp] at hf
  obtain ⟨f1, f2, f3⟩ := hf
  exact { h with there := ⟨T, m, d, r, l, fpT, fpm, fpd, gm, gd, hc.obj f1 h1, h2.chg hc (fun i hi => f3 i (.inl hi)), h3.chg hc (fun i hi => f3 i (.inr (.inl hi))), h4.chg hc (fun i hi => f3 i (.inr (.inr hi))), h5.chg hc f2, h6, h7, h8, h9, rfl⟩ }
theorem FlowAt.head {w : World} {b : Nat} {F : Fl} {fp : List Nat} (h : FlowAt w b F fp) : ∃ T m d r : Nat,
    w.heap[b]? = some (.cells #[.int .i64 F.fr, .int .i64 F.se, .pointer (some ⟨T, 0, none⟩), .pointer (some ⟨m, 0, none⟩), .pointer (some ⟨d, 0, none⟩), .map (some r)] 145 (0, 0)) := by
  obtain ⟨T, m, d, r, l, fpT, fpm, fpd, gm, gd, h1, _⟩ := h.there
  exact ⟨T, m, d, r, h1⟩
theorem FlowAt.wide {w : World} {b : Nat} {F : Fl} {fp : List Nat} (h : FlowAt w b F fp) : 1 ≤ F.fr ∧ F.fr ≤ 32 ∧ 1 ≤ F.se ∧ F.se ≤ 32 := by
  obtain ⟨T, m, d, r, l, fpT, fpm, fpd, gm, gd, h1, h2, h3, h4, _⟩ := h.there
  exact ⟨h3.pages1, h3.pages2, h4.pages1, h4.pages2⟩
theorem FlowAt.each {w : World} {b : Nat} {F : Fl} {fp : List Nat} (h : FlowAt w b F fp) (p : Int × Int) : 0 ≤ F.g p ∧ F.g p < 65536 := by
  obtain ⟨T, m, d, r, l, fpT, fpm, fpd, gm, gd, h1, h2, h3, h4, h5, h6, h7, h8, h9, _⟩ := h.there
  obtain ⟨k, n⟩ := p
  by_cases e1 : k = 10
  · subst e1; rw [h6]; exact h3.each n
  by_cases e2 : k = 12
  · subst e2; rw [h7]; exact h4.each n
  rw [h8 _ e1 e2]
  cases hk : lookK (k, n) l with
  | none => simp
  | some v => have := h9 _ (lookK_mem hk); simp only [Option.getD_some]; simp only [] at this; omega

theorem flow_none {w : World} {b : Nat} {F : Fl} {fp : List Nat} (h : FlowAt w b F fp) :
    Calls Try.prog 73 #[.pointer (some ⟨b, 0, none⟩)] w fun e w' => ∃ r : Bool, e = .returned (.bool r) ∧ (r = false ∧ w' = w) := by
  obtain ⟨T, m, d, r, h1⟩ := h.head
  refine ok_flow_Flow_none _ _ _ ?_
  unfold V_flow_Flow_none
  exact ⟨_, fun s w h => h, fun _ => ⟨_, rfl, _, by rw [add_at, cell_of h1]; rfl, rfl, rfl⟩, fun h => by simp at h⟩

def F127 : Value := .func (.func 127) #[] #[]
def baseB (b1 : Nat) : List Value := [.nilFunc, .func (.func 129) #[] #[], .nilFunc, .nilFunc, .nilFunc, .nilFunc, .nilFunc, .nilFunc, .nilFunc, .nilFunc, .func (.func 132) #[] #[.pointer (some (⟨b1, 0, none⟩ : Addr))], .func (.func 130) #[] #[], .func (.func 133) #[] #[.pointer (some (⟨b1, 0, none⟩ : Addr))], .func (.func 128) #[] #[], .func (.func 128) #[] #[], .func (.func 128) #[] #[], .func (.func 128) #[] #[], .func (.func 131) #[] #[]]
def allB (b1 : Nat) : List Value := [.nilFunc, .func (.func 129) #[] #[], F127, F127, F127, F127, F127, F127, F127, F127, .func (.func 132) #[] #[.pointer (some (⟨b1, 0, none⟩ : Addr))], .func (.func 130) #[] #[], .func (.func 133) #[] #[.pointer (some (⟨b1, 0, none⟩ : Addr))], .func (.func 128) #[] #[], .func (.func 128) #[] #[], .func (.func 128) #[] #[], .func (.func 128) #[] #[], .func (.func 131) #[] #[]]
def stepB (b1 : Nat) : Nat → Array Value
  | 0 => (baseB b1).toArray
  | j + 1 => (stepB b1 j).setIfInBounds (2 + j) F127
theorem stepB_size (b1 j : Nat) : (stepB b1 j).size = 18 := by
  induction j with
  | zero => rfl
  | succ j ih => simp [stepB, ih]
theorem stepB_8 (b1 : Nat) : stepB b1 8 = (allB b1).toArray := by simp [stepB, baseB, allB]

theorem flow_bounds (f : Option Addr) (w : World) :
    Calls Try.prog 108 #[.pointer f] w fun e w' => ∃ (r2 : Value) (r3 : Value) (r4 : Value) (r5 : Value) (r6 : Value) (r7 : Value) (r8 : Value) (r9 : Value) (r10 : Value) (r11 : Value) (r12 : Value) (r13 : Value) (r14 : Value) (r15 : Value) (r16 : Value) (r17 : Value) (r18 : Value) (r19 : Value),
      e = .returned (.agg #[r2, r3, r4, r5, r6, r7, r8, r9, r10, r11, r12, r13, r14, r15, r16, r17, r18, r19]) ∧ (∃ b1, w'.heap[b1]? = some (.cells #[.pointer f] 28 (0, 0)) ∧ Chg [] w w' ∧ [r2, r3, r4, r5, r6, r7, r8, r9, r10, r11, r12, r13, r14, r15, r16, r17, r18, r19] = allB b1) := by
  refine ok_flow_Flow_bounds _ _ _ ?_
  unfold V_flow_Flow_bounds
  refine v_alloc fun b1 w1 e1 h1 c1 => ?_
  refine v_alloc fun b2 w2 e2 h2 c2 => ?_
  refine v_box (by rfl) (by rfl) fun b3 w3 e3 h3 c3 => ?_
  have l1 : b1 < w1.heap.size := lt_of_heap h1
  have l2 : b2 < w2.heap.size := lt_of_heap h2
  have s1 := c1.size
  have s2 := c2.size
  refine ⟨fun s w => ∃ j : Nat, s = 2 + (j : Int) ∧ j ≤ 8 ∧ w.heap[b3]? = some (.cells (stepB b1 j) 202 (0, 0)) ∧ Chg [b3] w3 w, fun s _ => (10 - s).toNat, ⟨0, rfl, by omega, h3, Chg.refl _ _⟩, ?_⟩
  rintro _ w5 ⟨j, rfl, hj, h5, c5⟩
  refine ⟨fun hlt => ?_, fun hge => ?_⟩
  · simp only [decide_eq_true_eq] at hlt
    refine ⟨by omega, by omega, ?_⟩
    have e : (2 + (j : Int)).toNat * 1 = 2 + j := by omega
    rw [e]
    refine v_set h5 (by rw [stepB_size]; omega) fun w6 h6 c6 _ => ?_
    rw [wr (by omega) (by omega)]
    refine ⟨⟨j + 1, by omega, by omega, ?_, c5.trans c6 (fun _ h _ => h)⟩, by simp only []; omega⟩
    simpa [stepB, F127] using h6
  · simp only [decide_eq_false_iff_not] at hge
    have : j = 8 := by omega
    subst this
    rw [stepB_8] at h5
    refine ⟨_, _, _, _, _, _, _, _, _, _, _, _, _, _, _, _, _, _, cellsAt_of h5, rfl, rfl, rfl, rfl, rfl, rfl, rfl, rfl, rfl, rfl, rfl, rfl, rfl, rfl, rfl, rfl, rfl, rfl, ?_⟩
    have c25 : Chg [b3] w2 w5 := (c3.nil).trans c5 (fun _ h _ => h)
    have h25 := c25.obj (by simp; omega) h2
    refine ⟨has_of h25 (by simp), free_of' h25, ?_⟩
    rintro w7 rfl
    have h7 := setCells_all (vs := allB b1) (by rfl) h25
    refine ⟨_, _, _, _, _, _, _, _, _, _, _, _, _, _, _, _, _, _, cellsAt_of h7, b1, ?_, ?_, rfl⟩
    · have c7 := Chg.setCells ⟨b2, 0, none⟩ (allB b1) 0 w5
      exact c7.obj (by simp; omega) (c25.obj (by simp; omega) (c2.obj (by simp) h1))
    · have c7 := Chg.setCells ⟨b2, 0, none⟩ (allB b1) 0 w5
      have c05 : Chg [] w w5 := (c1.trans0 c2).trans c25 (fun i hi hlt => by simp at hi; omega)
      exact c05.trans c7 (fun i hi hlt => by simp at hi; omega)

theorem index_202 (vs : List Value) (hv : vs.length = 18) (k : Int) (h0 : 0 ≤ k) (h1 : k < 18) (x : Value) (hx : vs[k.toNat]? = some x) (w : World) :
    (Instr.index 202 (.agg vs.toArray) (.int .i64 k)).run Try.prog w = .ok x w := by
  unfold Instr.index
  simp [go_sem, h0, h1, part, hx]
theorem flow_may {w : World} {b : Nat} {F : Fl} {fp : List Nat} (h : FlowAt w b F fp) (p1 p2 : Int) :
    Calls Try.prog 74 #[.pointer (some ⟨b, 0, none⟩), .agg #[.int .i64 p1, .int .i64 p2]] w fun e w' => ∃ r : Bool, e = .returned (.bool r) ∧ (r = decide (mayP F.fr F.se (p1, p2)) ∧ Chg [] w w') := by
  obtain ⟨T, m, d, r, hh⟩ := h.head
  obtain ⟨g1, g2, g3, g4⟩ := h.wide
  refine ok_flow_Flow_may _ _ _ _ _ ?_
  unfold V_flow_Flow_may
  refine v_alloc fun b1 w1 e1 h1 c1 => ?_
  refine v_drew fun w2 c2 => ?_
  have c02 := c1.trans0 c2
  have h12 := c2.obj (by simp) h1
  refine ⟨p1, by rw [cell_of h12]; rfl, p2, by rw [cell_of h12]; rfl, ?_⟩
  refine ⟨fun b2 w3 => w3 = w2 ∧ b2 = decide (1 ≤ p1 ∧ p1 ≤ 17), ?_, fun h => ?_, fun h => ?_⟩
  rotate_left
  · simp only [decide_eq_true_eq] at h
    exact ⟨rfl, decide_eq_decide.2 (by omega)⟩
  · simp only [decide_eq_false_iff_not] at h
    exact ⟨rfl, by symm; rw [decide_eq_false_iff_not]; omega⟩
  rintro b2 w3 ⟨hw, rfl⟩
  subst w3
  refine ⟨fun b3 w4 => w4 = w2 ∧ b3 = decide (1 ≤ p1 ∧ p1 ≤ 17 ∧ 0 ≤ p2), ?_, fun h => ?_, fun h => ?_⟩
  rotate_left
  · simp only [decide_eq_true_eq] at h
    exact ⟨rfl, decide_eq_decide.2 (by omega)⟩
  · simp only [decide_eq_false_iff_not] at h
    exact ⟨rfl, by symm; rw [decide_eq_false_iff_not]; omega⟩
  rintro b3 w4 ⟨hw, rfl⟩
  subst w4
  refine ⟨fun b4 w5 => b4 = decide (mayP F.fr F.se (p1, p2)) ∧ Chg [] w w5, fun b4 w5 h => h, fun h => ?_, fun h => ?_⟩
  rotate_left
  · simp only [decide_eq_false_iff_not] at h
    refine ⟨?_, c02⟩
    symm; rw [decide_eq_false_iff_not]; unfold mayP; simp only []; omega
  simp only [decide_eq_true_eq] at h
  refine (flow_bounds _ w2).mono ?_
  rintro _ w6 ⟨r2, r3, r4, r5, r6, r7, r8, r9, r10, r11, r12, r13, r14, r15, r16, r17, r18, r19, rfl, bb, hbb, c6, hl⟩
  have h16 := c6.obj (by simp) h12
  have hh6 := (c02.trans0 c6).obj (by simp) hh
  refine ⟨r2, r3, r4, r5, r6, r7, r8, r9, r10, r11, r12, r13, r14, r15, r16, r17, r18, r19, rfl, ⟨by rw [cell_of h16]; rfl, by rw [cell_of h16]; rfl, trivial⟩, ?_⟩
  -- each kind's bound
  have hlast : ∀ (x : Value), (allB bb)[p1.toNat]? = some x →
      (CallsV Try.prog x #[] w6 fun e w7 => ∃ r20 : Int, e = .returned (.int .i64 r20) ∧ r20 = boundP F.fr F.se p1 ∧ w7 = w6) →
      (∃ (x1 : Value), (∀ w : World, (Instr.index 202 (.agg #[r2, r3, r4, r5, r6, r7, r8, r9, r10, r11, r12, r13, r14, r15, r16, r17, r18, r19]) (.int .i64 p1)).run Try.prog w = .ok (x1) w) ∧ (CallsV Try.prog x1 #[] w6 fun e w7 => ∃ (r20 : Int), e = .returned (.int .i64 r20) ∧ ((w7.cell? (⟨b1, 0, none⟩ : Addr) = some (.int .i64 p1) ∧ w7.cell? (⟨b1, 1, none⟩ : Addr) = some (.int .i64 p2) ∧ True) ∧ (decide (p2 < r20) = decide (mayP F.fr F.se (p1, p2)) ∧ Chg [] w w7)))) := by
    intro x hx ⟨f, cap, fn, k1, k2, k3, k4, k5⟩
    refine ⟨x, fun w => index_202 _ rfl p1 (by omega) (by omega) x (by rw [hl]; exact hx) w, f, cap, fn, k1, k2, k3, k4, k5.mono ?_⟩
    rintro e w7 ⟨r20, rfl, rfl, hw⟩
    subst w7
    refine ⟨_, rfl, ⟨by rw [cell_of h16]; rfl, by rw [cell_of h16]; rfl, trivial⟩, ?_, c02.trans0 c6⟩
    apply decide_eq_decide.2
    unfold mayP
    simp only []
    omega
  have hk : p1 = 1 ∨ p1 = 2 ∨ p1 = 3 ∨ p1 = 4 ∨ p1 = 5 ∨ p1 = 6 ∨ p1 = 7 ∨ p1 = 8 ∨ p1 = 9 ∨ p1 = 10 ∨ p1 = 11 ∨ p1 = 12 ∨ p1 = 13 ∨ p1 = 14 ∨ p1 = 15 ∨ p1 = 16 ∨ p1 = 17 := by omega
  have k127 : boundP F.fr F.se p1 = 1 → CallsV Try.prog F127 #[] w6 fun e w7 => ∃ r20 : Int, e = .returned (.int .i64 r20) ∧ r20 = boundP F.fr F.se p1 ∧ w7 = w6 := fun hb =>
    ⟨127, #[], Try.f127, rfl, Try.func127, by kernel_rfl, by kernel_rfl, ok_flow_Flow_bounds_1 w6 (fun r w => r = boundP F.fr F.se p1 ∧ w = w6) ⟨hb.symm, rfl⟩⟩
  have k128 : boundP F.fr F.se p1 = 2147483648 → CallsV Try.prog (.func (.func 128) #[] #[]) #[] w6 fun e w7 => ∃ r20 : Int, e = .returned (.int .i64 r20) ∧ r20 = boundP F.fr F.se p1 ∧ w7 = w6 := fun hb =>
    ⟨128, #[], Try.f128, rfl, Try.func128, by kernel_rfl, by kernel_rfl, ok_flow_Flow_bounds_2 w6 (fun r w => r = boundP F.fr F.se p1 ∧ w = w6) ⟨hb.symm, rfl⟩⟩
  rcases hk with rfl | rfl | rfl | rfl | rfl | rfl | rfl | rfl | rfl | rfl | rfl | rfl | rfl | rfl | rfl | rfl | rfl
  · exact hlast _ (by simp only [allB]; rfl) ⟨129, #[], Try.f129, rfl, Try.func129, by kernel_rfl, by kernel_rfl, ok_flow_Flow_bounds_3 w6 (fun r w => r = boundP F.fr F.se 1 ∧ w = w6) ⟨by simp [boundP], rfl⟩⟩
  · exact hlast _ (by simp only [allB]; rfl) (k127 (by simp [boundP]))
  · exact hlast _ (by simp only [allB]; rfl) (k127 (by simp [boundP]))
  · exact hlast _ (by simp only [allB]; rfl) (k127 (by simp [boundP]))
  · exact hlast _ (by simp only [allB]; rfl) (k127 (by simp [boundP]))
  · exact hlast _ (by simp only [allB]; rfl) (k127 (by simp [boundP]))
  · exact hlast _ (by simp only [allB]; rfl) (k127 (by simp [boundP]))
  · exact hlast _ (by simp only [allB]; rfl) (k127 (by simp [boundP]))
  · exact hlast _ (by simp only [allB]; rfl) (k127 (by simp [boundP]))
  · refine hlast (.func (.func 132) #[] #[.pointer (some (⟨bb, 0, none⟩ : Addr))]) (by simp only [allB]; rfl) ⟨132, _, Try.f132, rfl, Try.func132, by kernel_rfl, by kernel_rfl, ok_flow_Flow_bounds_6 _ w6 (fun r w => r = boundP F.fr F.se 10 ∧ w = w6) ?_⟩
    exact ⟨_, by rw [cell_of hbb]; rfl, _, rfl, _, by rw [cell_of hh6]; rfl, by rw [wr (by omega) (by omega)]; simp [boundP]; omega, rfl⟩
  · exact hlast _ (by simp only [allB]; rfl) ⟨130, #[], Try.f130, rfl, Try.func130, by kernel_rfl, by kernel_rfl, ok_flow_Flow_bounds_4 w6 (fun r w => r = boundP F.fr F.se 11 ∧ w = w6) ⟨by simp [boundP], rfl⟩⟩
  · refine hlast (.func (.func 133) #[] #[.pointer (some (⟨bb, 0, none⟩ : Addr))]) (by simp only [allB]; rfl) ⟨133, _, Try.f133, rfl, Try.func133, by kernel_rfl, by kernel_rfl, ok_flow_Flow_bounds_7 _ w6 (fun r w => r = boundP F.fr F.se 12 ∧ w = w6) ?_⟩
    exact ⟨_, by rw [cell_of hbb]; rfl, _, rfl, _, by rw [add_at, cell_of hh6]; rfl, by rw [wr (by omega) (by omega)]; simp [boundP]; omega, rfl⟩
  · exact hlast _ (by simp only [allB]; rfl) (k128 (by simp [boundP]))
  · exact hlast _ (by simp only [allB]; rfl) (k128 (by simp [boundP]))
  · exact hlast _ (by simp only [allB]; rfl) (k128 (by simp [boundP]))
  · exact hlast _ (by simp only [allB]; rfl) (k128 (by simp [boundP]))
  · exact hlast _ (by simp only [allB]; rfl) ⟨131, #[], Try.f131, rfl, Try.func131, by kernel_rfl, by kernel_rfl, ok_flow_Flow_bounds_5 w6 (fun r w => r = boundP F.fr F.se 17 ∧ w = w6) ⟨by simp [boundP], rfl⟩⟩
end Go.Proofs.Ytkfncibmfcdokaa
