/- Policies: Of, Source, Sink, Rules, Copy. -/
import Derived.Test.YtkfncibmfcdokaaXPol2
import Derived.Test.YtkfncibmfcdokaaXEq66
set_option linter.unusedVariables false
set_option linter.unusedSimpArgs false
namespace Go.Proofs.Ytkfncibmfcdokaa
open Go Go.RowKit Go.X

theorem len11 {α : Type} {l : List α} (h : l.length = 11) : ∃ a1 a2 a3 a4 a5 a6 a7 a8 a9 a10 a11, l = [a1, a2, a3, a4, a5, a6, a7, a8, a9, a10, a11] := by
  obtain ⟨a1, l, rfl⟩ := List.exists_cons_of_length_eq_add_one h
  obtain ⟨a2, l, rfl⟩ := List.exists_cons_of_length_eq_add_one (by simpa using h)
  obtain ⟨a3, l, rfl⟩ := List.exists_cons_of_length_eq_add_one (by simpa using h)
  obtain ⟨a4, l, rfl⟩ := List.exists_cons_of_length_eq_add_one (by simpa using h)
  obtain ⟨a5, l, rfl⟩ := List.exists_cons_of_length_eq_add_one (by simpa using h)
  obtain ⟨a6, l, rfl⟩ := List.exists_cons_of_length_eq_add_one (by simpa using h)
  obtain ⟨a7, l, rfl⟩ := List.exists_cons_of_length_eq_add_one (by simpa using h)
  obtain ⟨a8, l, rfl⟩ := List.exists_cons_of_length_eq_add_one (by simpa using h)
  obtain ⟨a9, a10, a11, rfl⟩ := len3 (l := l) (by simpa using h)
  exact ⟨a1, a2, a3, a4, a5, a6, a7, a8, a9, a10, a11, rfl⟩

/-- Rules as a value: eleven cells. -/
def rulesV (r : List Int) : Value := .agg (r.map (Value.int .u32)).toArray
def okR (r : List Int) : Prop := r[0]? = some 0 ∧ r[5]? = some 0 ∧ ∀ x ∈ r, x < 65536
instance (r : List Int) : Decidable (okR r) := by unfold okR; exact inferInstance

theorem index_64 (vs : List Int) (hv : vs.length = 5) (k : Nat) (x : Int) (hx : vs[k]? = some x) (w : World) :
    (Instr.index 64 (.agg (vs.map (Value.int .u32)).toArray) (.int .i64 (k : Int))).run Try.prog w = .ok (.int .u32 x) w := by
  have hk : k < 5 := by rw [← hv]; exact (List.getElem?_eq_some_iff.1 hx).1
  have hu : Try.prog.underlying 64 = some (.array 5 22) := by kernel_rfl
  unfold Instr.index
  simp [go_sem, run_underlying hu, Result.andThen, hk, part, hx]

theorem index_150 (vs : List Int) (hv : vs.length = 10) (k : Nat) (hk : k < 2) (w : World) :
    (Instr.index 150 (.agg (vs.map (Value.int .u32)).toArray) (.int .i64 (k : Int))).run Try.prog w = .ok (.agg (((vs.drop (5 * k)).take 5).map (Value.int .u32)).toArray) w := by
  have hu : Try.prog.underlying 150 = some (.array 2 64) := by kernel_rfl
  have hs : (Instr.index 150 (.agg (vs.map (Value.int .u32)).toArray) (.int .i64 (k : Int))).run Try.prog w = .ok (.agg ((vs.map (Value.int .u32)).toArray.extract (k * 5) (k * 5 + 5))) w := by
    unfold Instr.index
    simp [go_sem, run_underlying hu, Result.andThen, hk, part]
  have e : (vs.map (Value.int .u32)).toArray.extract (k * 5) (k * 5 + 5) = (((vs.drop (5 * k)).take 5).map (Value.int .u32)).toArray := by
    rw [List.extract_toArray, List.extract_eq_take_drop, ← List.map_drop, ← List.map_take, Nat.mul_comm k 5, Nat.add_sub_cancel_left]
  rw [hs, e]

theorem pol_of {w : World} (r : List Int) (hr : r.length = 11) : ∀ (a1 a2 a3 a4 a5 a6 a7 a8 a9 a10 a11 : Int), r = [a1, a2, a3, a4, a5, a6, a7, a8, a9, a10, a11] →
    Calls Try.prog 31 #[.agg #[.int .u32 a1, .int .u32 a2, .int .u32 a3, .int .u32 a4, .int .u32 a5, .int .u32 a6, .int .u32 a7, .int .u32 a8, .int .u32 a9, .int .u32 a10, .int .u32 a11]] w fun e w' => ∃ (r1 : Option Addr) (r2 : Int), e = .returned (.tuple #[.pointer r1, .int .i64 r2]) ∧
      (Chg [] w w' ∧ if okR r then r2 = 0 ∧ ∃ b, r1 = some ⟨b, 0, none⟩ ∧ PolAt w' b r ∧ w.heap.size ≤ b else r1 = none ∧ r2 = 2) := by
  rintro a1 a2 a3 a4 a5 a6 a7 a8 a9 a10 a11 rfl
  refine ok_policy_Of _ _ _ _ _ _ _ _ _ _ _ _ _ ?_
  unfold V_policy_Of
  refine v_alloc fun b1 w1 e1 h1 c1 => ?_
  generalize hR : ([a1, a2, a3, a4, a5, a6, a7, a8, a9, a10, a11] : List Int) = R at hr ⊢
  have hno : ∀ {w2 : World}, ¬ okR R → Chg [] w w2 → (Chg [] w w2 ∧ if okR R then (2 : Int) = 0 ∧ ∃ b, (none : Option Addr) = some ⟨b, 0, none⟩ ∧ PolAt w2 b R ∧ w.heap.size ≤ b else (none : Option Addr) = none ∧ (2 : Int) = 2) := fun h c => ⟨c, by rw [if_neg h]; exact ⟨rfl, rfl⟩⟩
  refine ⟨fun _ w2 => ¬ okR R ∧ Chg [] w w2, fun s w2 h => hno h.1 h.2, by omega, by omega, a1, by rw [add_at, cell_of h1]; rfl, ?_⟩
  refine ⟨fun b w2 => w2 = w1 ∧ (b = true → ¬ okR R) ∧ (b = false → a1 = 0 ∧ a6 = 0), ?_, fun hb => ?_, fun hb => ?_⟩
  rotate_left
  · have hb' : a1 = 0 := by simpa using hb
    refine ⟨by omega, by omega, a6, by rw [add_at, cell_of h1]; rfl, rfl, fun h => ?_, fun h => ?_⟩
    · have h' : a6 ≠ 0 := by simpa using h
      rintro ⟨_, k, _⟩
      rw [← hR] at k; simp at k; exact h' k
    · exact ⟨hb', by simpa using h⟩
  · have hb' : a1 ≠ 0 := by simpa using hb
    refine ⟨rfl, fun _ => ?_, fun h => by simp at h⟩
    rintro ⟨k, _⟩
    rw [← hR] at k; simp at k; exact hb' k
  rintro b2 w3 ⟨hw, hb1, hb2⟩
  subst w3
  have hlt : ∀ {i : Nat} {x : Int}, R[i]? = some x → ¬ x < 65536 → ¬ okR R := fun hi hx h => hx (h.2.2 _ (List.mem_of_getElem? hi))
  refine ⟨fun b w2 => w2 = w1 ∧ (b = true → ¬ okR R) ∧ (b = false → a1 = 0 ∧ a6 = 0 ∧ a11 < 65536), ?_, fun hb => ?_, fun hb => ?_⟩
  rotate_left
  · refine ⟨a11, by rw [cell_of h1]; rfl, ?_⟩
    refine (pol_set w1 a11).mono ?_
    rintro _ w5 ⟨_, rfl, rfl, hw⟩
    refine ⟨_, rfl, hw, fun h => ?_, fun h => ?_⟩
    · have h' : ¬ a11 < 65536 := by simpa using h
      exact hlt (i := 10) (by rw [← hR]; rfl) h'
    · exact ⟨(hb2 hb).1, (hb2 hb).2, by simpa using h⟩
  · exact ⟨rfl, fun _ => hb1 hb, fun h => by simp at h⟩
  rintro b3 w4 ⟨hw, hb3, hb4⟩
  subst w4
  refine ⟨fun hb => ⟨hb3 hb, c1⟩, fun hb => ?_⟩
  obtain ⟨k1, k6, k11⟩ := hb4 hb
  refine ⟨a1, a2, a3, a4, a5, ?_, a6, a7, a8, a9, a10, ?_, ?_⟩
  · refine cellsAt_iff.2 fun k v hk => ?_
    rw [add_at, cell_of h1]
    have hk5 : k < 5 := by have := (List.getElem?_eq_some_iff.1 hk).1; simpa using this
    rw [← hk]
    have : k = 0 ∨ k = 1 ∨ k = 2 ∨ k = 3 ∨ k = 4 := by omega
    rcases this with rfl | rfl | rfl | rfl | rfl <;> rfl
  · refine cellsAt_iff.2 fun k v hk => ?_
    rw [add_at, cell_of h1]
    have hk5 : k < 5 := by have := (List.getElem?_eq_some_iff.1 hk).1; simpa using this
    rw [← hk]
    have : k = 0 ∨ k = 1 ∨ k = 2 ∨ k = 3 ∨ k = 4 := by omega
    rcases this with rfl | rfl | rfl | rfl | rfl <;> rfl
  have hT : R.take 10 = [a1, a2, a3, a4, a5, a6, a7, a8, a9, a10] := by rw [← hR]; rfl
  refine ⟨fun s w' => ∃ j : Nat, s = (j : Int) ∧ j ≤ 2 ∧ Chg [] w1 w' ∧ ∀ x ∈ R.take (5 * j), x < 65536, fun s _ => (2 - s).toNat, ⟨0, rfl, by omega, Chg.refl _ _, by simp⟩, ?_⟩
  rintro _ w6 ⟨j, rfl, hj, c6, hall⟩
  refine ⟨fun hb => ?_, fun hb => ?_⟩
  · have hj' : j < 2 := by simp at hb; omega
    have hlen : ((R.take 10).drop (5 * j)).length = 10 - 5 * j := by rw [hT]; simp
    obtain ⟨x1, x2, x3, x4, x5, hx⟩ : ∃ x1 x2 x3 x4 x5, ((R.take 10).drop (5 * j)).take 5 = [x1, x2, x3, x4, x5] := by
      rw [hT]
      have : j = 0 ∨ j = 1 := by omega
      rcases this with rfl | rfl
      · exact ⟨a1, a2, a3, a4, a5, rfl⟩
      · exact ⟨a6, a7, a8, a9, a10, rfl⟩
    refine ⟨x1, x2, x3, x4, x5, fun w => ?_, ?_⟩
    · have := index_150 (R.take 10) (by rw [hT]; rfl) j hj' w
      rw [hx, hT] at this
      exact this
    refine v_box (by rfl) (by rfl) fun b4 w8 e8 h8 c8 => ?_
    have c18 := c6.trans0 c8
    refine ⟨x1, x2, x3, x4, x5, cellsAt_of h8, ?_⟩
    refine ⟨fun s w' => ∃ i : Nat, s = (i : Int) ∧ i ≤ 5 ∧ Chg [] w1 w' ∧ ∀ x ∈ ([x1, x2, x3, x4, x5] : List Int).take i, x < 65536, fun s _ => (5 - s).toNat, ⟨0, rfl, by omega, c18, by simp⟩, ?_⟩
    rintro _ w9 ⟨i, rfl, hi, c9, hall2⟩
    refine ⟨fun hb2 => ?_, fun hb2 => ?_⟩
    · have hi' : i < 5 := by simp at hb2; omega
      obtain ⟨x6, hx6⟩ := get_of (l := [x1, x2, x3, x4, x5]) (j := i) (by simpa using hi')
      refine ⟨x6, fun w => index_64 [x1, x2, x3, x4, x5] rfl i x6 hx6 w, ?_⟩
      refine (pol_set w9 x6).mono ?_
      rintro _ w10 ⟨_, rfl, rfl, hw⟩
      subst w10
      refine ⟨_, rfl, fun h => ⟨?_, c1.trans0 c9⟩, fun h => ?_⟩
      · have h' : ¬ x6 < 65536 := by simpa using h
        intro hok
        refine h' (hok.2.2 x6 ?_)
        have m1 : x6 ∈ ((R.take 10).drop (5 * j)).take 5 := by rw [hx]; exact List.mem_of_getElem? hx6
        exact List.mem_of_mem_take (List.mem_of_mem_drop (List.mem_of_mem_take m1))
      · have h' : x6 < 65536 := by simpa using h
        rw [wr (by omega) (by omega)]
        refine ⟨⟨i + 1, by omega, by omega, c9, ?_⟩, by simp only []; omega⟩
        rw [take_snoc hx6]
        intro y hy
        rcases List.mem_append.1 hy with hy | hy
        · exact hall2 y hy
        · simp at hy; rw [hy]; exact h'
    · have hi' : i = 5 := by simp at hb2; omega
      subst hi'
      rw [wr (by omega) (by omega)]
      refine ⟨⟨j + 1, by omega, by omega, c9, ?_⟩, by simp only []; omega⟩
      intro y hy
      have hsplit : R.take (5 * (j + 1)) = R.take (5 * j) ++ ((R.take 10).drop (5 * j)).take 5 := by
        have : j = 0 ∨ j = 1 := by omega
        rcases this with rfl | rfl <;> rw [← hR] <;> rfl
      rw [hsplit] at hy
      rcases List.mem_append.1 hy with hy | hy
      · exact hall y hy
      · rw [hx] at hy; exact hall2 y (by simpa using hy)
  · have hj' : j = 2 := by simp at hb; omega
    subst hj'
    have h16 := c6.obj (by simp) h1
    refine ⟨_, _, _, _, _, _, _, _, _, _, _, cellsAt_of h16, ?_⟩
    refine v_alloc fun b5 w11 e11 h11 c11 => ?_
    have hok : okR R := by
      refine ⟨by rw [← hR, k1]; rfl, by rw [← hR, k6]; rfl, fun x hx => ?_⟩
      have h2 : R = R.take 10 ++ [a11] := by rw [hT, ← hR]; rfl
      rw [h2] at hx
      rcases List.mem_append.1 hx with hx | hx
      · exact hall x hx
      · simp at hx; rw [hx]; exact k11
    refine ⟨(c1.trans0 c6).trans0 c11, ?_⟩
    rw [if_pos hok]
    refine ⟨rfl, b5, rfl, ⟨by rw [← hR]; exact h11, hr⟩, ?_⟩
    have := c1.size
    have := c6.size
    omega

def mayS (s n : Int) : Prop := 1 ≤ s ∧ s ≤ 4 ∧ n < 65536
instance (s n : Int) : Decidable (mayS s n) := by unfold mayS; exact inferInstance
theorem pol_change {w : World} {b : Nat} {r : List Int} (h : PolAt w b r) {o : Nat} (ho : o = 0 ∨ o = 5) (p : Option Addr) (s n : Int) :
    Calls Try.prog 76 #[.pointer p, .pointer (some ⟨b, o, none⟩), .int .i64 s, .int .u32 n] w fun e w' => ∃ r1 : Int, e = .returned (.int .i64 r1) ∧
      (if mayS s n then r1 = 0 ∧ PolAt w' b (r.set (o + s.toNat) n) ∧ Chg [b] w w' else r1 = 2 ∧ w' = w) := by
  refine ok_policy_Policy_change _ _ _ _ _ _ ?_
  unfold V_policy_Policy_change
  refine ⟨fun b1 w1 => w1 = w ∧ b1 = decide (¬ mayS s n), ?_, fun hb => ?_, fun hb => ?_⟩
  rotate_left
  · have hb' : 1 ≤ s ∧ s ≤ 4 := by
      simp at hb; omega
    refine (pol_set w n).mono ?_
    rintro _ w2 ⟨_, rfl, rfl, hw⟩
    refine ⟨_, rfl, hw, ?_⟩
    rw [← decide_not]
    exact decide_eq_decide.2 (by unfold mayS; omega)
  · have hb' : s < 1 ∨ 4 < s := by
      simp at hb; omega
    refine ⟨rfl, ?_⟩
    symm; rw [decide_eq_true_eq]; unfold mayS; omega
  rintro b1 w1 ⟨hw, rfl⟩
  subst w1
  refine ⟨fun hb => ?_, fun hb => ?_⟩
  · have hb' : ¬ mayS s n := by simpa using hb
    simp only [if_neg hb']
    exact ⟨trivial, trivial⟩
  · have hb' : mayS s n := by simpa using hb
    simp only [if_pos hb']
    have hb'' := hb'
    unfold mayS at hb''
    refine ⟨_, rfl, by omega, by omega, ?_⟩
    have hsz : (r.map (Value.int .u32) ++ [Value.bool true]).toArray.size = 12 := by simp [h.length]
    refine v_set (o := o) h.heap (by rw [hsz]; omega) fun w3 h3 c3 _ => ⟨trivial, ⟨?_, by simp [h.length]⟩, c3⟩
    rw [h3, Nat.mul_one, map_set_int _ _ _ (by rw [h.length]; omega)]
theorem pol_source {w : World} {b : Nat} {r : List Int} (h : PolAt w b r) (s n : Int) :
    Calls Try.prog 33 #[.pointer (some ⟨b, 0, none⟩), .int .i64 s, .int .u32 n] w fun e w' => ∃ r1 : Int, e = .returned (.int .i64 r1) ∧
      (if mayS s n then r1 = 0 ∧ PolAt w' b (r.set s.toNat n) ∧ Chg [b] w w' else r1 = 2 ∧ w' = w) := by
  refine ok_policy_Policy_Source _ _ _ _ _ ?_
  unfold V_policy_Policy_Source
  refine (pol_none h).mono ?_
  rintro _ w1 ⟨_, rfl, rfl, hw⟩
  subst w1
  refine ⟨_, rfl, fun h => by simp at h, fun _ => ⟨_, rfl, ?_⟩⟩
  refine (pol_change h (o := 0) (.inl rfl) _ s n).mono ?_
  rintro _ w2 ⟨r3, rfl, hr⟩
  rw [Nat.zero_add] at hr
  exact ⟨_, rfl, hr⟩
theorem pol_sink {w : World} {b : Nat} {r : List Int} (h : PolAt w b r) (s n : Int) :
    Calls Try.prog 34 #[.pointer (some ⟨b, 0, none⟩), .int .i64 s, .int .u32 n] w fun e w' => ∃ r1 : Int, e = .returned (.int .i64 r1) ∧
      (if mayS s n then r1 = 0 ∧ PolAt w' b (r.set (5 + s.toNat) n) ∧ Chg [b] w w' else r1 = 2 ∧ w' = w) := by
  refine ok_policy_Policy_Sink _ _ _ _ _ ?_
  unfold V_policy_Policy_Sink
  refine (pol_none h).mono ?_
  rintro _ w1 ⟨_, rfl, rfl, hw⟩
  subst w1
  refine ⟨_, rfl, fun h => by simp at h, fun _ => ⟨_, rfl, ?_⟩⟩
  rw [add_at]
  refine (pol_change h (o := 0 + 5) (.inr rfl) _ s n).mono ?_
  rintro _ w2 ⟨r3, rfl, hr⟩
  exact ⟨_, rfl, hr⟩
theorem rules_cells {w : World} {b : Nat} {r : List Int} (h : PolAt w b r) {a1 a2 a3 a4 a5 a6 a7 a8 a9 a10 a11 : Int} (hr : r = [a1, a2, a3, a4, a5, a6, a7, a8, a9, a10, a11]) :
    w.heap[b]? = some (.cells #[.int .u32 a1, .int .u32 a2, .int .u32 a3, .int .u32 a4, .int .u32 a5, .int .u32 a6, .int .u32 a7, .int .u32 a8, .int .u32 a9, .int .u32 a10, .int .u32 a11, .bool true] 85 (0, 0)) := by
  subst hr; exact h.heap
theorem pol_rules {w : World} {b : Nat} {r : List Int} (h : PolAt w b r) {a1 a2 a3 a4 a5 a6 a7 a8 a9 a10 a11 : Int} (hr : r = [a1, a2, a3, a4, a5, a6, a7, a8, a9, a10, a11]) :
    Calls Try.prog 35 #[.pointer (some ⟨b, 0, none⟩)] w fun e w' => ∃ (r1 : Int) (r2 : Int) (r3 : Int) (r4 : Int) (r5 : Int) (r6 : Int) (r7 : Int) (r8 : Int) (r9 : Int) (r10 : Int) (r11 : Int), e = .returned (.agg #[.int .u32 r1, .int .u32 r2, .int .u32 r3, .int .u32 r4, .int .u32 r5, .int .u32 r6, .int .u32 r7, .int .u32 r8, .int .u32 r9, .int .u32 r10, .int .u32 r11]) ∧
    (r1 = a1 ∧ r2 = a2 ∧ r3 = a3 ∧ r4 = a4 ∧ r5 = a5 ∧ r6 = a6 ∧ r7 = a7 ∧ r8 = a8 ∧ r9 = a9 ∧ r10 = a10 ∧ r11 = a11 ∧ Chg [] w w') := by
  refine ok_policy_Policy_Rules _ _ _ ?_
  unfold V_policy_Policy_Rules
  refine v_alloc fun b1 w1 e1 h1 c1 => ?_
  refine (pol_none (h.chg c1 (by simp))).mono ?_
  rintro _ w2 ⟨_, rfl, rfl, hw⟩
  subst w2
  refine ⟨_, rfl, fun h => by simp at h, fun _ => ⟨_, rfl, a1, a2, a3, a4, a5, a6, a7, a8, a9, a10, a11, ?_, ?_⟩⟩
  · have hh := rules_cells (h.chg c1 (by simp)) hr
    exact ⟨by rw [add_at, cell_of hh]; rfl, by rw [add_at, cell_of hh]; rfl, by rw [add_at, cell_of hh]; rfl, by rw [add_at, cell_of hh]; rfl, by rw [add_at, cell_of hh]; rfl, by rw [add_at, cell_of hh]; rfl, by rw [add_at, cell_of hh]; rfl, by rw [add_at, cell_of hh]; rfl, by rw [add_at, cell_of hh]; rfl, by rw [add_at, cell_of hh]; rfl, by rw [add_at, cell_of hh]; rfl, trivial⟩
  refine v_fill h1 (by rfl) (by rfl) fun w3 h3 c3 _ => ?_
  exact ⟨_, _, _, _, _, _, _, _, _, _, _, cellsAt_of h3, rfl, rfl, rfl, rfl, rfl, rfl, rfl, rfl, rfl, rfl, rfl, c1.trans c3 (fun i hi hlt => by simp at hi; omega)⟩
theorem pol_copy {w : World} {b : Nat} {r : List Int} (h : PolAt w b r) : Calls Try.prog 32 #[.pointer (some ⟨b, 0, none⟩)] w fun e w' => ∃ r1 : Option Addr, e = .returned (.pointer r1) ∧ (∃ b', r1 = some ⟨b', 0, none⟩ ∧ PolAt w' b' r ∧ w.heap.size ≤ b' ∧ Chg [] w w') := by
  obtain ⟨a1, a2, a3, a4, a5, a6, a7, a8, a9, a10, a11, hr⟩ := len11 h.length
  refine ok_policy_Policy_Copy _ _ _ ?_
  unfold V_policy_Policy_Copy
  refine (pol_none h).mono ?_
  rintro _ w1 ⟨_, rfl, rfl, hw⟩
  subst w1
  refine ⟨_, rfl, fun h => by simp at h, fun _ => ⟨_, rfl, _, _, _, _, _, _, _, _, _, _, _, _, cellsAt_of (rules_cells h hr), ?_⟩⟩
  refine v_box (by rfl) (by rfl) fun b1 w3 e3 h3 c3 => ?_
  exact ⟨b1, rfl, ⟨by rw [hr]; exact h3, h.length⟩, by omega, c3⟩
end Go.Proofs.Ytkfncibmfcdokaa
