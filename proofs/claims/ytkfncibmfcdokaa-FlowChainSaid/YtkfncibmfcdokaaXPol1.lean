/- Policies: New, none, Strict, Stops; the laws' helpers known, broad, made. -/
import Derived.Test.YtkfncibmfcdokaaXOpen2
set_option linter.unusedVariables false
set_option linter.unusedSimpArgs false
namespace Go.Proofs.Ytkfncibmfcdokaa
open Go Go.RowKit Go.X

def u16 (n : Int) : Prop := 0 ≤ n ∧ n < 65536
theorem or_u16 {a b : Int} (ha : u16 a) (hb : u16 b) : u16 (bits .or .u32 a b) := by
  obtain ⟨a1, a2⟩ := ha
  obtain ⟨b1, b2⟩ := hb
  rw [u32_or a b a1 (by omega) b1 (by omega)]
  have : a.toNat ||| b.toNat < 2 ^ 16 := Nat.or_lt_two_pow (by omega) (by omega)
  exact ⟨by omega, by omega⟩
theorem and_zero_u32 {a : Int} (ha : u16 a) : bits .and .u32 a 0 = 0 := by
  obtain ⟨a1, a2⟩ := ha
  rw [u32_and a 0 a1 (by omega) (by omega) (by omega)]
  simp
theorem and_or_ne {d a b : Int} (hd : u16 d) (ha : u16 a) (hb : u16 b) (h : bits .and .u32 d a ≠ 0) : bits .and .u32 d (bits .or .u32 a b) ≠ 0 := by
  have hab := or_u16 ha hb
  obtain ⟨d1, d2⟩ := hd
  obtain ⟨a1, a2⟩ := ha
  obtain ⟨b1, b2⟩ := hb
  obtain ⟨c1, c2⟩ := hab
  rw [u32_and d _ d1 (by omega) c1 (by omega)]
  rw [u32_and d a d1 (by omega) a1 (by omega)] at h
  rw [u32_or a b a1 (by omega) b1 (by omega)]
  rw [Int.toNat_natCast, Nat.and_or_distrib_left]
  intro e
  have e' : (d.toNat &&& a.toNat) ||| (d.toNat &&& b.toNat) = 0 := by omega
  have := Nat.left_le_or (n := d.toNat &&& a.toNat) (m := d.toNat &&& b.toNat)
  omega
theorem joinP_u16 {g : Int × Int → Int} (hg : ∀ p, u16 (g p)) (ps : List (Int × Int)) : u16 (joinP g ps) := by
  unfold joinP
  have : ∀ (ps : List (Int × Int)) (s : Int), u16 s → u16 (ps.foldl (fun s p => bits .or .u32 s (g p)) s) := by
    intro ps
    induction ps with
    | nil => intro s h; exact h
    | cons p ps ih => intro s h; exact ih _ (or_u16 h (hg p))
  exact this ps 0 ⟨by omega, by omega⟩
theorem decidesP_u16 {g : Int × Int → Int} (hg : ∀ p, u16 (g p)) (ts : List Tch) : u16 (decidesP g ts) := by
  unfold decidesP
  have : ∀ (ts : List Tch) (s : Int), u16 s → u16 (ts.foldl (fun s t => if t.1 = (0, 0) then bits .or .u32 s (joinP g t.2) else s) s) := by
    intro ts
    induction ts with
    | nil => intro s h; exact h
    | cons t ts ih =>
      intro s h
      simp only [List.foldl_cons]
      apply ih
      split
      · exact or_u16 h (joinP_u16 hg _)
      · exact h
  exact this ts 0 ⟨by omega, by omega⟩

/-- A policy: eleven sets. -/
structure PolAt (w : World) (b : Nat) (r : List Int) : Prop where
  heap : w.heap[b]? = some (.cells (r.map (Value.int .u32) ++ [Value.bool true]).toArray 85 (0, 0))
  length : r.length = 11
theorem PolAt.chg {w w' : World} {b : Nat} {r : List Int} {f : List Nat} (h : PolAt w b r) (hc : Chg f w w') (hf : b ∉ f) : PolAt w' b r := ⟨hc.obj hf h.heap, h.length⟩
theorem PolAt.lt {w : World} {b : Nat} {r : List Int} (h : PolAt w b r) : b < w.heap.size := lt_of_heap h.heap
theorem PolAt.at {w : World} {b : Nat} {r : List Int} (h : PolAt w b r) {i : Nat} {x : Int} (hx : r[i]? = some x) : w.cell? ⟨b, i, none⟩ = some (.int .u32 x) := by
  have hi : i < r.length := (List.getElem?_eq_some_iff.1 hx).1
  rw [cell_of h.heap]
  simp only [List.getElem?_toArray]
  rw [List.getElem?_append_left (by simpa using hi), List.getElem?_map, hx]; rfl
theorem PolAt.made {w : World} {b : Nat} {r : List Int} (h : PolAt w b r) : w.cell? ⟨b, 11, none⟩ = some (.bool true) := by
  rw [cell_of h.heap]
  simp only [List.getElem?_toArray]
  rw [List.getElem?_append_right (by simp [h.length])]; simp [h.length]

theorem pol_new (w : World) : Calls Try.prog 20 #[] w fun e w' => ∃ r1 : Option Addr, e = .returned (.pointer r1) ∧ ∃ b, r1 = some ⟨b, 0, none⟩ ∧ PolAt w' b (List.replicate 11 0) ∧ Chg [] w w' ∧ b = w.heap.size := by
  refine ok_policy_New _ _ ?_
  unfold V_policy_New
  refine v_alloc fun b1 w1 e1 h1 c1 => ?_
  exact ⟨b1, rfl, ⟨h1, rfl⟩, c1, e1⟩
theorem pol_none {w : World} {b : Nat} {r : List Int} (h : PolAt w b r) : Calls Try.prog 64 #[.pointer (some ⟨b, 0, none⟩)] w fun e w' => ∃ r1 : Bool, e = .returned (.bool r1) ∧ (r1 = false ∧ w' = w) := by
  refine ok_policy_Policy_none _ _ _ ?_
  unfold V_policy_Policy_none
  exact ⟨_, fun b w h => h, fun _ => ⟨_, rfl, true, by rw [add_at]; exact h.made, rfl, rfl⟩, fun h => by simp at h⟩
theorem pol_set (w : World) (n : Int) : Calls Try.prog 66 #[.int .u32 n] w fun e w' => ∃ r1 : Bool, e = .returned (.bool r1) ∧ (r1 = decide (n < 65536) ∧ w' = w) := by
  refine ok_policy_set _ _ _ ?_
  exact ⟨rfl, rfl⟩
theorem map_set_int (r : List Int) (i : Nat) (n : Int) (hi : i < r.length) : ((r.map (Value.int .u32) ++ [Value.bool true]).toArray.setIfInBounds i (.int .u32 n)) = (((r.set i n).map (Value.int .u32)) ++ [Value.bool true]).toArray := by
  rw [List.setIfInBounds_toArray, List.set_append_left _ _ (by simpa using hi), List.map_set]
theorem pol_strict {w : World} {b : Nat} {r : List Int} (h : PolAt w b r) (n : Int) : Calls Try.prog 22 #[.pointer (some ⟨b, 0, none⟩), .int .u32 n] w fun e w' => ∃ r1 : Int, e = .returned (.int .i64 r1) ∧
    (if n < 65536 then r1 = 0 ∧ PolAt w' b (r.set 10 n) ∧ Chg [b] w w' else r1 = 2 ∧ w' = w) := by
  refine ok_policy_Policy_Strict _ _ _ _ ?_
  unfold V_policy_Policy_Strict
  refine (pol_none h).mono ?_
  rintro _ w1 ⟨_, rfl, rfl, hw⟩
  subst w1
  refine ⟨_, rfl, fun h => by simp at h, fun _ => ?_⟩
  refine (pol_set w n).mono ?_
  rintro _ w1 ⟨_, rfl, rfl, hw⟩
  subst w1
  refine ⟨_, rfl, fun hb => ?_, fun hb => ?_⟩
  · have hb' : ¬ n < 65536 := by simpa using hb
    simp only [if_neg hb']
    exact ⟨trivial, trivial⟩
  · have hb' : n < 65536 := by simpa using hb
    simp only [if_pos hb']
    refine ⟨_, rfl, ?_⟩
    refine v_set h.heap (by simp [h.length]) fun w3 h3 c3 _ => ⟨trivial, ⟨?_, by simp [h.length]⟩, c3⟩
    rw [h3, Nat.zero_add, map_set_int _ _ _ (by rw [h.length]; omega)]

theorem pol_strict_ok {w : World} {b : Nat} {r : List Int} (h : PolAt w b r) {n : Int} (hn : n < 65536) : Calls Try.prog 22 #[.pointer (some ⟨b, 0, none⟩), .int .u32 n] w fun e w' => ∃ r1 : Int, e = .returned (.int .i64 r1) ∧ (r1 = 0 ∧ PolAt w' b (r.set 10 n) ∧ Chg [b] w w') := by
  refine (pol_strict h n).mono ?_
  rintro _ w' ⟨r1, he, hr⟩
  rw [if_pos hn] at hr
  exact ⟨r1, he, hr⟩

/-- What stops: the set that decides, of a flow and touches, and its refusal. -/
def decN (F : Fl) (ts : List Tch) : Int := if ∀ t ∈ ts, rightT F.fr F.se t then decidesP F.g ts else 0
def decE (F : Fl) (ts : List Tch) : Int := if ∀ t ∈ ts, rightT F.fr F.se t then 0 else 2
theorem pol_stops {w : World} {b : Nat} {r : List Int} (h : PolAt w b r) {bf : Nat} {F : Fl} {fp : List Nat} (hF : FlowAt w bf F fp) {S : Nat → Prop} {p : Option Addr} {n c : Nat} {ts : List Tch} (hp : TouchesAt w S p n ts) (hn : n ≤ 9223372036854775807) (hin : ∀ t ∈ ts, t.2.length ≤ 9223372036854775807) {st : Int} (hst : r[10]? = some st) :
    Calls Try.prog 21 #[.pointer (some ⟨b, 0, none⟩), .pointer (some ⟨bf, 0, none⟩), .slice p n c] w fun e w' => ∃ (r1 : Bool) (r2 : Int), e = .returned (.tuple #[.bool r1, .int .i64 r2]) ∧
      (r1 = (!(bits .and .u32 (decN F ts) st == 0)) ∧ r2 = decE F ts ∧ Chg [] w w') := by
  refine ok_policy_Policy_Stops _ _ _ _ _ _ _ ?_
  unfold V_policy_Policy_Stops
  refine (pol_none h).mono ?_
  rintro _ w1 ⟨_, rfl, rfl, hw⟩
  subst w1
  refine ⟨_, rfl, fun h => by simp at h, fun _ => ?_⟩
  refine (flow_decides (c := c) hF hp hn hin).mono ?_
  rintro _ w2 ⟨r4, r5, rfl, c2, hr⟩
  have h2 := h.chg c2 (by simp)
  refine ⟨_, _, rfl, _, rfl, st, by rw [add_at]; exact h2.at (by simpa using hst), ?_⟩
  unfold decN decE
  by_cases hall : ∀ t ∈ ts, rightT F.fr F.se t
  · rw [if_pos hall] at hr
    rw [if_pos hall, if_pos hall, hr.1, hr.2]; exact ⟨rfl, rfl, c2⟩
  · rw [if_neg hall] at hr
    rw [if_neg hall, if_neg hall, hr.1, hr.2]; exact ⟨rfl, rfl, c2⟩

/-- Touches of this call's own: one touch, one place. -/
theorem touches_one {w : World} {b1 b2 : Nat} {p : Int × Int} {to : Int × Int} (h1 : w.heap[b1]? = some (.cells #[.int .i64 p.1, .int .i64 p.2] 56 (0, 0))) (h2 : w.heap[b2]? = some (.cells #[.int .i64 to.1, .int .i64 to.2, .slice (some (⟨b1, 0, none⟩ : Addr)) 1 1] 81 (0, 0)))
    (hp : i64s p.1 ∧ i64s p.2) (ht : i64s to.1 ∧ i64s to.2) : TouchesAt w (fun i => i = b1 ∨ i = b2) (some ⟨b2, 0, none⟩) 1 [(to, [p])] := by
  refine ⟨rfl, fun j t hj => ?_⟩
  cases j with
  | zero =>
    simp at hj; subst hj
    refine ⟨ht.1, ht.2, _, _, _, _, rfl, .inr rfl, by rw [Nat.zero_mul, add_at]; exact cellsAt_of h2, rfl, fun i x hi => ?_⟩
    cases i with
    | zero =>
      simp at hi; subst hi
      exact ⟨hp.1, hp.2, _, rfl, .inl rfl, by rw [Nat.zero_mul, add_at]; exact cellsAt_of h1⟩
    | succ i => simp at hi
  | succ j => simp at hj

theorem known_true (w : World) : Calls Try.prog 18 #[] w fun e w' => ∃ r : Bool, e = .returned (.bool r) ∧ (r = true ∧ Chg [] w w') := by
  refine ok_pomanderlaw13_known _ _ ?_
  unfold V_pomanderlaw13_known
  refine (pol_new w).mono ?_
  rintro _ w1 ⟨_, rfl, b, rfl, hP, c1, hb⟩
  refine ⟨_, rfl, ?_⟩
  refine (pol_strict hP 1).mono ?_
  rintro _ w2 ⟨r3, rfl, hr⟩
  rw [if_pos (by omega)] at hr
  obtain ⟨rfl, hP2, c2⟩ := hr
  refine ⟨_, rfl, ?_⟩
  have s1 := c1.size
  have c02 : Chg [] w w2 := c1.trans c2 (fun i hi hlt => by simp at hi; omega)
  refine (flow_new w2 1 1 4).mono ?_
  rintro _ w3 ⟨r4, r5, rfl, c3, hr⟩
  rw [if_pos (by decide)] at hr
  obtain ⟨rfl, bf, fp, rfl, hF, hfp⟩ := hr
  refine ⟨_, _, rfl, ?_⟩
  have c03 := c02.trans0 c3
  refine v_box (by rfl) (by rfl) fun b1 w5 e5 h5 c5 => ?_
  refine ⟨_, _, cellsAt_of h5, ?_⟩
  have hF5 := hF.chg c5 (by simp)
  have hP5 := (hP2.chg c3 (by simp)).chg c5 (by simp)
  have hlt := hF.lt
  have hPl := hP2.lt
  refine (flow_mark (p1 := 13) (p2 := 0) (n := 1) (set := 1) hF5 ⟨by omega, by omega⟩ (by omega)).mono ?_
  rintro _ w6 ⟨r6, rfl, rfl, fp', hF6, c6, hfp'⟩
  have s3 := c3.size
  have s5 := c5.size
  have hb1 : b1 ∉ fp := fun hm => by have := hlt _ hm; omega
  have hbfp : b ∉ fp := fun hm => by have := hfp _ hm; omega
  have h6 := c6.obj hb1 h5
  have hP6 := hP5.chg c6 hbfp
  have c06 : Chg [] w w6 := (c03.trans0 c5).trans c6 (fun i hi hlt => by have := hfp i hi; have := c02.size; omega)
  have hE : markE (flowNew 1 1 4) (13, 0) 1 1 = 0 := by decide
  refine ⟨_, rfl, _, _, cellsAt_of h6, ?_⟩
  refine v_alloc fun b2 w7 e7 h7 c7 => ?_
  refine v_alloc fun b3 w8 e8 h8 c8 => ?_
  have h78 := c8.obj (by simp) h7
  have c68 := c7.trans0 c8
  have hT := touches_one (p := (13, 0)) (to := (0, 0)) h78 h8 (by unfold i64s; omega) (by unfold i64s; omega)
  have hst : (List.set (List.replicate 11 (0 : Int)) 10 1)[10]? = some 1 := by decide
  refine (pol_stops (c := 1) (hP6.chg c68 (by simp)) (hF6.chg c68 (by simp)) hT (by omega) (by simp) hst).mono ?_
  rintro _ w9 ⟨r7, r8, rfl, rfl, rfl, c9⟩
  have c69 := c68.trans0 c9
  have h9 := c69.obj (by simp) h6
  refine ⟨_, _, rfl, _, _, cellsAt_of h9, _, _, cellsAt_of h9, ?_⟩
  refine v_alloc fun b4 w10 e10 h10 c10 => ?_
  refine v_alloc fun b5 w11 e11 h11 c11 => ?_
  have h1011 := c11.obj (by simp) h10
  have c611 := (c69.trans0 c10).trans0 c11
  have hT2 := touches_one (p := (13, 0)) (to := (13, 0)) h1011 h11 (by unfold i64s; omega) (by unfold i64s; omega)
  refine (pol_stops (c := 1) (hP6.chg c611 (by simp)) (hF6.chg c611 (by simp)) hT2 (by omega) (by simp) hst).mono ?_
  rintro _ w12 ⟨r9, r10, rfl, rfl, rfl, c12⟩
  refine ⟨_, _, rfl, ?_, c06.trans0 (c611.trans0 c12)⟩
  have hF' : markF (flowNew 1 1 4) (13, 0) 1 1 = { flowNew 1 1 4 with sets := [0, 1], g := putP (fun _ => 0) (13, 0) 1 } := by
    unfold markF; rw [if_pos hE]; rfl
  rw [hF']
  decide
end Go.Proofs.Ytkfncibmfcdokaa
