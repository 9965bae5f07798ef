/- Texts of the claim, merged: XOpen2 XPol1 XG1 XApply XPol2 XActs XOpen4 XStep XHless. -/
import Derived.Test.YtkfncibmfcdokaaXM5
import Derived.Test.YtkfncibmfcdokaaProg
import Derived.Test.YtkfncibmfcdokaaRows

/- XOpen2 -/
section
/- Arguments that came in, opened: places, touches, marks. -/
set_option linter.unusedVariables false
set_option linter.unusedSimpArgs false
namespace Go.Proofs.Ytkfncibmfcdokaa
open Go Go.RowKit Go.X

theorem len1 {α : Type} {l : List α} (h : l.length = 1) : ∃ a, l = [a] := by
  cases l with
  | nil => simp at h
  | cons a l => exact ⟨a, by rw [List.eq_nil_of_length_eq_zero (l := l) (by simpa using h)]⟩
theorem len2 {α : Type} {l : List α} (h : l.length = 2) : ∃ a b, l = [a, b] := by
  cases l with
  | nil => simp at h
  | cons a l => obtain ⟨b, rfl⟩ := len1 (l := l) (by simpa using h); exact ⟨a, b, rfl⟩
theorem len3 {α : Type} {l : List α} (h : l.length = 3) : ∃ a b c, l = [a, b, c] := by
  cases l with
  | nil => simp at h
  | cons a l => obtain ⟨b, c, rfl⟩ := len2 (l := l) (by simpa using h); exact ⟨a, b, c, rfl⟩
section
variable {H : Type} {enc : TypeId × Value → H} {w : World} {base : Nat} {spare : Nat → Bool} {held : Bool} {fuel : Nat} {x : DataW H × List MemPlace} {cs : List Value}
theorem cells56 : Try.prog.cellsOf 56 = 2 := by kernel_rfl
theorem cells81 : Try.prog.cellsOf 81 = 3 := by kernel_rfl
theorem cells3 : Try.prog.cellsOf 3 = 1 := by kernel_rfl
theorem cells54 : Try.prog.cellsOf 54 = 1 := by kernel_rfl
theorem cells22 : Try.prog.cellsOf 22 = 1 := by kernel_rfl
theorem cells47 : Try.prog.cellsOf 47 = 1 := by kernel_rfl
theorem un54 : Try.prog.underlying 54 = some (.int .i64) := by kernel_rfl
theorem un3 : Try.prog.underlying 3 = some (.int .i64) := by kernel_rfl
theorem un22 : Try.prog.underlying 22 = some (.int .u32) := by kernel_rfl

theorem open_place (h : DataW.trod enc Try.prog w base spare held fuel 56 cs = some x) : ∃ p : Int × Int, cs = [.int .i64 p.1, .int .i64 p.2] ∧ i64s p.1 ∧ i64s p.2 := by
  obtain ⟨xs, n, _, _, hl, hlen, hf⟩ := DataW.trod_struct Try.underlying56 h
  have h0 : DataW.trod enc Try.prog w base spare held n 54 ((cs.drop 0).take (Try.prog.cellsOf 54)) = xs[0]? := hf 0 _ rfl
  have h1 : DataW.trod enc Try.prog w base spare held n 3 ((cs.drop 1).take (Try.prog.cellsOf 3)) = xs[1]? := hf 1 _ rfl
  simp only [cells54, cells3] at h0 h1
  rw [cells56] at hl
  rw [List.getElem?_eq_getElem (by rw [hlen]; decide)] at h0 h1
  obtain ⟨a, e0, _, w0⟩ := DataW.trod_int un54 h0
  obtain ⟨b, e1, _, w1⟩ := DataW.trod_int un3 h1
  obtain ⟨c0, c1, rfl⟩ := len2 hl
  simp at e0 e1
  subst e0 e1
  exact ⟨(a, b), rfl, wf_i64 w0, wf_i64 w1⟩

/-- What lies in the heap's old part. -/
def oldS (w : World) (i : Nat) : Prop := i < w.heap.size

theorem cellsAt_lt {a : Addr} {i : Nat} {c : Value} {cs : List Value} (h : CellsAt w a i (c :: cs)) : a.block < w.heap.size := by
  have := World.block_lt_of_cell? w _ h.1
  rwa [add_block] at this

theorem open_places (h : DataW.trod enc Try.prog w base spare held fuel 47 cs = some x) : ∃ p n c ps, cs = [.slice p n c] ∧ n ≤ maxLen ∧ PlacesAt w (oldS w) p n ps := by
  obtain ⟨p, n, c, rfl, hn, hel⟩ := open_slice Try.underlying47 h
  obtain ⟨l, hl, hq⟩ := list_of (Q := fun j (x : Int × Int) => i64s x.1 ∧ i64s x.2 ∧ ∃ a, p = some a ∧ oldS w a.block ∧ CellsAt w (a.add (j * 2)) 0 [.int .i64 x.1, .int .i64 x.2]) (n := n) (fun i hi => by
    obtain ⟨a, cs', m, y, ha, hc, _, hy⟩ := hel i hi
    obtain ⟨q, rfl, k1, k2⟩ := open_place hy
    rw [cells56] at hc
    exact ⟨q, k1, k2, a, ha, by have := cellsAt_lt hc; rwa [add_block] at this, hc⟩)
  exact ⟨p, n, c, l, rfl, hn, hl, hq⟩

theorem open_touch (h : DataW.trod enc Try.prog w base spare held fuel 81 cs = some x) : ∃ (t : Tch) (q : Option Addr) (qn qc : Nat), cs = [.int .i64 t.1.1, .int .i64 t.1.2, .slice q qn qc] ∧ i64s t.1.1 ∧ i64s t.1.2 ∧ qn ≤ maxLen ∧ PlacesAt w (oldS w) q qn t.2 := by
  obtain ⟨xs, n, _, _, hl, hlen, hf⟩ := DataW.trod_struct Try.underlying81 h
  have h0 : DataW.trod enc Try.prog w base spare held n 56 ((cs.drop 0).take (Try.prog.cellsOf 56)) = xs[0]? := hf 0 _ rfl
  have h1 : DataW.trod enc Try.prog w base spare held n 47 ((cs.drop 2).take (Try.prog.cellsOf 47)) = xs[1]? := hf 1 _ rfl
  simp only [cells56, cells47] at h0 h1
  rw [cells81] at hl
  rw [List.getElem?_eq_getElem (by rw [hlen]; decide)] at h0 h1
  obtain ⟨p, e0, k1, k2⟩ := open_place h0
  obtain ⟨q, qn, qc, ps, e1, hq, hps⟩ := open_places h1
  obtain ⟨c0, c1, c2, rfl⟩ := len3 hl
  simp at e0 e1
  obtain ⟨rfl, rfl⟩ := e0
  subst e1
  exact ⟨(p, ps), q, qn, qc, rfl, k1, k2, hq, hps⟩

theorem open_touches (h : DataW.trod enc Try.prog w base spare held fuel 25 cs = some x) : ∃ p n c ts, cs = [.slice p n c] ∧ n ≤ maxLen ∧ TouchesAt w (oldS w) p n ts ∧ ∀ t ∈ ts, t.2.length ≤ maxLen := by
  obtain ⟨p, n, c, rfl, hn, hel⟩ := open_slice Try.underlying25 h
  obtain ⟨l, hl, hq⟩ := list_of (Q := fun j (t : Tch) => (i64s t.1.1 ∧ i64s t.1.2 ∧ ∃ a q qn qc, p = some a ∧ oldS w a.block ∧ CellsAt w (a.add (j * 3)) 0 [.int .i64 t.1.1, .int .i64 t.1.2, .slice q qn qc] ∧ PlacesAt w (oldS w) q qn t.2) ∧ t.2.length ≤ maxLen) (n := n) (fun i hi => by
    obtain ⟨a, cs', m, y, ha, hc, _, hy⟩ := hel i hi
    obtain ⟨t, q, qn, qc, rfl, k1, k2, k3, k4⟩ := open_touch hy
    rw [cells81] at hc
    exact ⟨t, ⟨k1, k2, a, q, qn, qc, ha, by have := cellsAt_lt hc; rwa [add_block] at this, hc, k4⟩, by rw [k4.length]; exact k3⟩)
  refine ⟨p, n, c, l, rfl, hn, ⟨hl, fun j t ht => (hq j t ht).1⟩, fun t ht => ?_⟩
  obtain ⟨j, hj⟩ := List.getElem?_of_mem ht
  exact (hq j t hj).2

/-- Places with sets. -/
structure MarksAt (w : World) (S : Nat → Prop) (p : Option Addr) (n : Nat) (ms : List Pr) : Prop where
  length : ms.length = n
  each : ∀ (j : Nat) (x : Pr), ms[j]? = some x → i64s x.1.2 ∧ 0 ≤ x.2 ∧ x.2 < 4294967296 ∧ ∃ a, p = some a ∧ S a.block ∧ CellsAt w (a.add (j * 3)) 0 [.int .i64 x.1.1, .int .i64 x.1.2, .int .u32 x.2]
theorem MarksAt.chg {w w' : World} {S : Nat → Prop} {p : Option Addr} {n : Nat} {ps : List Pr} {f : List Nat} (h : MarksAt w S p n ps) (hc : Chg f w w') (hf : ∀ i ∈ f, ¬ S i) : MarksAt w' S p n ps :=
  ⟨h.length, fun j x hx => let ⟨h1, h2, h3, a, h4, h5, h6⟩ := h.each j x hx; ⟨h1, h2, h3, a, h4, h5, hc.cells (by rw [add_block]; exact fun hm => hf _ hm h5) h6⟩⟩
theorem open_mark (h : DataW.trod enc Try.prog w base spare held fuel 134 cs = some x) : ∃ m : Pr, cs = [.int .i64 m.1.1, .int .i64 m.1.2, .int .u32 m.2] ∧ i64s m.1.2 ∧ 0 ≤ m.2 ∧ m.2 < 4294967296 := by
  obtain ⟨xs, n, _, _, hl, hlen, hf⟩ := DataW.trod_struct Try.underlying134 h
  have h0 : DataW.trod enc Try.prog w base spare held n 56 ((cs.drop 0).take (Try.prog.cellsOf 56)) = xs[0]? := hf 0 _ rfl
  have h1 : DataW.trod enc Try.prog w base spare held n 22 ((cs.drop 2).take (Try.prog.cellsOf 22)) = xs[1]? := hf 1 _ rfl
  simp only [cells56, cells22] at h0 h1
  rw [show Try.prog.cellsOf 134 = 3 by kernel_rfl] at hl
  rw [List.getElem?_eq_getElem (by rw [hlen]; decide)] at h0 h1
  obtain ⟨p, e0, k1, k2⟩ := open_place h0
  obtain ⟨st, e1, _, w1⟩ := DataW.trod_int un22 h1
  obtain ⟨c0, c1, c2, rfl⟩ := len3 hl
  simp at e0 e1
  obtain ⟨rfl, rfl⟩ := e0
  subst e1
  exact ⟨(p, st), rfl, k2, wf_u32 w1⟩
theorem open_marks (h : DataW.trod enc Try.prog w base spare held fuel 24 cs = some x) : ∃ p n c ms, cs = [.slice p n c] ∧ n ≤ maxLen ∧ MarksAt w (oldS w) p n ms := by
  obtain ⟨p, n, c, rfl, hn, hel⟩ := open_slice Try.underlying24 h
  obtain ⟨l, hl, hq⟩ := list_of (Q := fun j (x : Pr) => i64s x.1.2 ∧ 0 ≤ x.2 ∧ x.2 < 4294967296 ∧ ∃ a, p = some a ∧ oldS w a.block ∧ CellsAt w (a.add (j * 3)) 0 [.int .i64 x.1.1, .int .i64 x.1.2, .int .u32 x.2]) (n := n) (fun i hi => by
    obtain ⟨a, cs', m, y, ha, hc, _, hy⟩ := hel i hi
    obtain ⟨q, rfl, k1, k2, k3⟩ := open_mark hy
    rw [show Try.prog.cellsOf 134 = 3 by kernel_rfl] at hc
    exact ⟨q, k1, k2, k3, a, ha, by have := cellsAt_lt hc; rwa [add_block] at this, hc⟩)
  exact ⟨p, n, c, l, rfl, hn, hl, hq⟩
theorem open_two (h : DataW.trod enc Try.prog w base spare held fuel 23 cs = some x) : ∃ a b : Int, cs = [.int .u32 a, .int .u32 b] ∧ (0 ≤ a ∧ a < 4294967296) ∧ (0 ≤ b ∧ b < 4294967296) := by
  obtain ⟨xs, n, _, _, hl, hlen, hf⟩ := DataW.trod_array Try.underlying23 h
  have h0 := hf 0 (by omega)
  have h1 := hf 1 (by omega)
  simp only [cells22] at h0 h1
  rw [show Try.prog.cellsOf 23 = 2 by kernel_rfl] at hl
  rw [List.getElem?_eq_getElem (by omega)] at h0 h1
  obtain ⟨a, e0, _, w0⟩ := DataW.trod_int un22 h0
  obtain ⟨b, e1, _, w1⟩ := DataW.trod_int un22 h1
  obtain ⟨c0, c1, rfl⟩ := len2 hl
  simp at e0 e1
  subst e0 e1
  exact ⟨a, b, rfl, wf_u32 w0, wf_u32 w1⟩
end
end Go.Proofs.Ytkfncibmfcdokaa
end

/- XPol1 -/
section
/- Policies: New, none, Strict, Stops; the laws' helpers known, broad, made. -/
set_option linter.unusedVariables false
set_option linter.unusedSimpArgs false
namespace Go.Proofs.Ytkfncibmfcdokaa
open Go Go.RowKit Go.X

def u16 (n : Int) : Prop := 0 ≤ n ∧ n < 65536
theorem or_u16 {a b : Int} (ha : u16 a) (hb : u16 b) : u16 (bits .or .u32 a b) := by
  obtain ⟨a1, a2⟩ := ha
  obtain ⟨b1, b2⟩ := hb
  rw [u32_or a b a1 (by omega) b1 (by omega)]
  have : a.toNat ||| b.toNat < 2 ^ 16 := Nat.or_lt_two_pow (by omega) (by omega)
  exact ⟨by omega, by omega⟩
theorem and_zero_u32 {a : Int} (ha : u16 a) : bits .and .u32 a 0 = 0 := by
  obtain ⟨a1, a2⟩ := ha
  rw [u32_and a 0 a1 (by omega) (by omega) (by omega)]
  simp
theorem and_or_ne {d a b : Int} (hd : u16 d) (ha : u16 a) (hb : u16 b) (h : bits .and .u32 d a ≠ 0) : bits .and .u32 d (bits .or .u32 a b) ≠ 0 := by
  have hab := or_u16 ha hb
  obtain ⟨d1, d2⟩ := hd
  obtain ⟨a1, a2⟩ := ha
  obtain ⟨b1, b2⟩ := hb
  obtain ⟨c1, c2⟩ := hab
  rw [u32_and d _ d1 (by omega) c1 (by omega)]
  rw [u32_and d a d1 (by omega) a1 (by omega)] at h
  rw [u32_or a b a1 (by omega) b1 (by omega)]
  rw [Int.toNat_natCast, Nat.and_or_distrib_left]
  intro e
  have e' : (d.toNat &&& a.toNat) ||| (d.toNat &&& b.toNat) = 0 := by omega
  have := Nat.left_le_or (n := d.toNat &&& a.toNat) (m := d.toNat &&& b.toNat)
  omega
theorem joinP_u16 {g : Int × Int → Int} (hg : ∀ p, u16 (g p)) (ps : List (Int × Int)) : u16 (joinP g ps) := by
  unfold joinP
  have : ∀ (ps : List (Int × Int)) (s : Int), u16 s → u16 (ps.foldl (fun s p => bits .or .u32 s (g p)) s) := by
    intro ps
    induction ps with
    | nil => intro s h; exact h
    | cons p ps ih => intro s h; exact ih _ (or_u16 h (hg p))
  exact this ps 0 ⟨by omega, by omega⟩
theorem decidesP_u16 {g : Int × Int → Int} (hg : ∀ p, u16 (g p)) (ts : List Tch) : u16 (decidesP g ts) := by
  unfold decidesP
  have : ∀ (ts : List Tch) (s : Int), u16 s → u16 (ts.foldl (fun s t => if t.1 = (0, 0) then bits .or .u32 s (joinP g t.2) else s) s) := by
    intro ts
    induction ts with
    | nil => intro s h; exact h
    | cons t ts ih =>
      intro s h
      simp only [List.foldl_cons]
      apply ih
      split
      · exact or_u16 h (joinP_u16 hg _)
      · exact h
  exact this ts 0 ⟨by omega, by omega⟩

/-- A policy: eleven sets. -/
structure PolAt (w : World) (b : Nat) (r : List Int) : Prop where
  heap : w.heap[b]? = some (.cells (r.map (Value.int .u32) ++ [Value.bool true]).toArray 85 (0, 0))
  length : r.length = 11
theorem PolAt.chg {w w' : World} {b : Nat} {r : List Int} {f : List Nat} (h : PolAt w b r) (hc : Chg f w w') (hf : b ∉ f) : PolAt w' b r := ⟨hc.obj hf h.heap, h.length⟩
theorem PolAt.lt {w : World} {b : Nat} {r : List Int} (h : PolAt w b r) : b < w.heap.size := lt_of_heap h.heap
theorem PolAt.at {w : World} {b : Nat} {r : List Int} (h : PolAt w b r) {i : Nat} {x : Int} (hx : r[i]? = some x) : w.cell? ⟨b, i, none⟩ = some (.int .u32 x) := by
  have hi : i < r.length := (List.getElem?_eq_some_iff.1 hx).1
  rw [cell_of h.heap]
  simp only [List.getElem?_toArray]
  rw [List.getElem?_append_left (by simpa using hi), List.getElem?_map, hx]; rfl
theorem PolAt.made {w : World} {b : Nat} {r : List Int} (h : PolAt w b r) : w.cell? ⟨b, 11, none⟩ = some (.bool true) := by
  rw [cell_of h.heap]
  simp only [List.getElem?_toArray]
  rw [List.getElem?_append_right (by simp [h.length])]; simp [h.length]

theorem pol_new (w : World) : Calls Try.prog 20 #[] w fun e w' => ∃ r1 : Option Addr, e = .returned (.pointer r1) ∧ ∃ b, r1 = some ⟨b, 0, none⟩ ∧ PolAt w' b (List.replicate 11 0) ∧ Chg [] w w' ∧ b = w.heap.size := by
  refine ok_policy_New _ _ ?_
  unfold V_policy_New
  refine v_alloc fun b1 w1 e1 h1 c1 => ?_
  exact ⟨b1, rfl, ⟨h1, rfl⟩, c1, e1⟩
theorem pol_none {w : World} {b : Nat} {r : List Int} (h : PolAt w b r) : Calls Try.prog 64 #[.pointer (some ⟨b, 0, none⟩)] w fun e w' => ∃ r1 : Bool, e = .returned (.bool r1) ∧ (r1 = false ∧ w' = w) := by
  refine ok_policy_Policy_none _ _ _ ?_
  unfold V_policy_Policy_none
  exact ⟨_, fun b w h => h, fun _ => ⟨_, rfl, true, by rw [add_at]; exact h.made, rfl, rfl⟩, fun h => by simp at h⟩
theorem pol_set (w : World) (n : Int) : Calls Try.prog 66 #[.int .u32 n] w fun e w' => ∃ r1 : Bool, e = .returned (.bool r1) ∧ (r1 = decide (n < 65536) ∧ w' = w) := by
  refine ok_policy_set _ _ _ ?_
  exact ⟨rfl, rfl⟩
theorem map_set_int (r : List Int) (i : Nat) (n : Int) (hi : i < r.length) : ((r.map (Value.int .u32) ++ [Value.bool true]).toArray.setIfInBounds i (.int .u32 n)) = (((r.set i n).map (Value.int .u32)) ++ [Value.bool true]).toArray := by
  rw [List.setIfInBounds_toArray, List.set_append_left _ _ (by simpa using hi), List.map_set]
theorem pol_strict {w : World} {b : Nat} {r : List Int} (h : PolAt w b r) (n : Int) : Calls Try.prog 22 #[.pointer (some ⟨b, 0, none⟩), .int .u32 n] w fun e w' => ∃ r1 : Int, e = .returned (.int .i64 r1) ∧
    (if n < 65536 then r1 = 0 ∧ PolAt w' b (r.set 10 n) ∧ Chg [b] w w' else r1 = 2 ∧ w' = w) := by
  refine ok_policy_Policy_Strict _ _ _ _ ?_
  unfold V_policy_Policy_Strict
  refine (pol_none h).mono ?_
  rintro _ w1 ⟨_, rfl, rfl, hw⟩
  subst w1
  refine ⟨_, rfl, fun h => by simp at h, fun _ => ?_⟩
  refine (pol_set w n).mono ?_
  rintro _ w1 ⟨_, rfl, rfl, hw⟩
  subst w1
  refine ⟨_, rfl, fun hb => ?_, fun hb => ?_⟩
  · have hb' : ¬ n < 65536 := by simpa using hb
    simp only [if_neg hb']
    exact ⟨trivial, trivial⟩
  · have hb' : n < 65536 := by simpa using hb
    simp only [if_pos hb']
    refine ⟨_, rfl, ?_⟩
    refine v_set h.heap (by simp [h.length]) fun w3 h3 c3 _ => ⟨trivial, ⟨?_, by simp [h.length]⟩, c3⟩
    rw [h3, Nat.zero_add, map_set_int _ _ _ (by rw [h.length]; omega)]

theorem pol_strict_ok {w : World} {b : Nat} {r : List Int} (h : PolAt w b r) {n : Int} (hn : n < 65536) : Calls Try.prog 22 #[.pointer (some ⟨b, 0, none⟩), .int .u32 n] w fun e w' => ∃ r1 : Int, e = .returned (.int .i64 r1) ∧ (r1 = 0 ∧ PolAt w' b (r.set 10 n) ∧ Chg [b] w w') := by
  refine (pol_strict h n).mono ?_
  rintro _ w' ⟨r1, he, hr⟩
  rw [if_pos hn] at hr
  exact ⟨r1, he, hr⟩

/-- What stops: the set that decides, of a flow and touches, and its refusal. -/
def decN (F : Fl) (ts : List Tch) : Int := if ∀ t ∈ ts, rightT F.fr F.se t then decidesP F.g ts else 0
def decE (F : Fl) (ts : List Tch) : Int := if ∀ t ∈ ts, rightT F.fr F.se t then 0 else 2
theorem pol_stops {w : World} {b : Nat} {r : List Int} (h : PolAt w b r) {bf : Nat} {F : Fl} {fp : List Nat} (hF : FlowAt w bf F fp) {S : Nat → Prop} {p : Option Addr} {n c : Nat} {ts : List Tch} (hp : TouchesAt w S p n ts) (hn : n ≤ 9223372036854775807) (hin : ∀ t ∈ ts, t.2.length ≤ 9223372036854775807) {st : Int} (hst : r[10]? = some st) :
    Calls Try.prog 21 #[.pointer (some ⟨b, 0, none⟩), .pointer (some ⟨bf, 0, none⟩), .slice p n c] w fun e w' => ∃ (r1 : Bool) (r2 : Int), e = .returned (.tuple #[.bool r1, .int .i64 r2]) ∧
      (r1 = (!(bits .and .u32 (decN F ts) st == 0)) ∧ r2 = decE F ts ∧ Chg [] w w') := by
  refine ok_policy_Policy_Stops _ _ _ _ _ _ _ ?_
  unfold V_policy_Policy_Stops
  refine (pol_none h).mono ?_
  rintro _ w1 ⟨_, rfl, rfl, hw⟩
  subst w1
  refine ⟨_, rfl, fun h => by simp at h, fun _ => ?_⟩
  refine (flow_decides (c := c) hF hp hn hin).mono ?_
  rintro _ w2 ⟨r4, r5, rfl, c2, hr⟩
  have h2 := h.chg c2 (by simp)
  refine ⟨_, _, rfl, _, rfl, st, by rw [add_at]; exact h2.at (by simpa using hst), ?_⟩
  unfold decN decE
  by_cases hall : ∀ t ∈ ts, rightT F.fr F.se t
  · rw [if_pos hall] at hr
    rw [if_pos hall, if_pos hall, hr.1, hr.2]; exact ⟨rfl, rfl, c2⟩
  · rw [if_neg hall] at hr
    rw [if_neg hall, if_neg hall, hr.1, hr.2]; exact ⟨rfl, rfl, c2⟩

/-- Touches of this call's own: one touch, one place. -/
theorem touches_one {w : World} {b1 b2 : Nat} {p : Int × Int} {to : Int × Int} (h1 : w.heap[b1]? = some (.cells #[.int .i64 p.1, .int .i64 p.2] 56 (0, 0))) (h2 : w.heap[b2]? = some (.cells #[.int .i64 to.1, .int .i64 to.2, .slice (some (⟨b1, 0, none⟩ : Addr)) 1 1] 81 (0, 0)))
    (hp : i64s p.1 ∧ i64s p.2) (ht : i64s to.1 ∧ i64s to.2) : TouchesAt w (fun i => i = b1 ∨ i = b2) (some ⟨b2, 0, none⟩) 1 [(to, [p])] := by
  refine ⟨rfl, fun j t hj => ?_⟩
  cases j with
  | zero =>
    simp at hj; subst hj
    refine ⟨ht.1, ht.2, _, _, _, _, rfl, .inr rfl, by rw [Nat.zero_mul, add_at]; exact cellsAt_of h2, rfl, fun i x hi => ?_⟩
    cases i with
    | zero =>
      simp at hi; subst hi
      exact ⟨hp.1, hp.2, _, rfl, .inl rfl, by rw [Nat.zero_mul, add_at]; exact cellsAt_of h1⟩
    | succ i => simp at hi
  | succ j => simp at hj

theorem known_true (w : World) : Calls Try.prog 18 #[] w fun e w' => ∃ r : Bool, e = .returned (.bool r) ∧ (r = true ∧ Chg [] w w') := by
  refine ok_pomanderlaw13_known _ _ ?_
  unfold V_pomanderlaw13_known
  refine (pol_new w).mono ?_
  rintro _ w1 ⟨_, rfl, b, rfl, hP, c1, hb⟩
  refine ⟨_, rfl, ?_⟩
  refine (pol_strict hP 1).mono ?_
  rintro _ w2 ⟨r3, rfl, hr⟩
  rw [if_pos (by omega)] at hr
  obtain ⟨rfl, hP2, c2⟩ := hr
  refine ⟨_, rfl, ?_⟩
  have s1 := c1.size
  have c02 : Chg [] w w2 := c1.trans c2 (fun i hi hlt => by simp at hi; omega)
  refine (flow_new w2 1 1 4).mono ?_
  rintro _ w3 ⟨r4, r5, rfl, c3, hr⟩
  rw [if_pos (by decide)] at hr
  obtain ⟨rfl, bf, fp, rfl, hF, hfp⟩ := hr
  refine ⟨_, _, rfl, ?_⟩
  have c03 := c02.trans0 c3
  refine v_box (by rfl) (by rfl) fun b1 w5 e5 h5 c5 => ?_
  refine ⟨_, _, cellsAt_of h5, ?_⟩
  have hF5 := hF.chg c5 (by simp)
  have hP5 := (hP2.chg c3 (by simp)).chg c5 (by simp)
  have hlt := hF.lt
  have hPl := hP2.lt
  refine (flow_mark (p1 := 13) (p2 := 0) (n := 1) (set := 1) hF5 ⟨by omega, by omega⟩ (by omega)).mono ?_
  rintro _ w6 ⟨r6, rfl, rfl, fp', hF6, c6, hfp'⟩
  have s3 := c3.size
  have s5 := c5.size
  have hb1 : b1 ∉ fp := fun hm => by have := hlt _ hm; omega
  have hbfp : b ∉ fp := fun hm => by have := hfp _ hm; omega
  have h6 := c6.obj hb1 h5
  have hP6 := hP5.chg c6 hbfp
  have c06 : Chg [] w w6 := (c03.trans0 c5).trans c6 (fun i hi hlt => by have := hfp i hi; have := c02.size; omega)
  have hE : markE (flowNew 1 1 4) (13, 0) 1 1 = 0 := by decide
  refine ⟨_, rfl, _, _, cellsAt_of h6, ?_⟩
  refine v_alloc fun b2 w7 e7 h7 c7 => ?_
  refine v_alloc fun b3 w8 e8 h8 c8 => ?_
  have h78 := c8.obj (by simp) h7
  have c68 := c7.trans0 c8
  have hT := touches_one (p := (13, 0)) (to := (0, 0)) h78 h8 (by unfold i64s; omega) (by unfold i64s; omega)
  have hst : (List.set (List.replicate 11 (0 : Int)) 10 1)[10]? = some 1 := by decide
  refine (pol_stops (c := 1) (hP6.chg c68 (by simp)) (hF6.chg c68 (by simp)) hT (by omega) (by simp) hst).mono ?_
  rintro _ w9 ⟨r7, r8, rfl, rfl, rfl, c9⟩
  have c69 := c68.trans0 c9
  have h9 := c69.obj (by simp) h6
  refine ⟨_, _, rfl, _, _, cellsAt_of h9, _, _, cellsAt_of h9, ?_⟩
  refine v_alloc fun b4 w10 e10 h10 c10 => ?_
  refine v_alloc fun b5 w11 e11 h11 c11 => ?_
  have h1011 := c11.obj (by simp) h10
  have c611 := (c69.trans0 c10).trans0 c11
  have hT2 := touches_one (p := (13, 0)) (to := (13, 0)) h1011 h11 (by unfold i64s; omega) (by unfold i64s; omega)
  refine (pol_stops (c := 1) (hP6.chg c611 (by simp)) (hF6.chg c611 (by simp)) hT2 (by omega) (by simp) hst).mono ?_
  rintro _ w12 ⟨r9, r10, rfl, rfl, rfl, c12⟩
  refine ⟨_, _, rfl, ?_, c06.trans0 (c611.trans0 c12)⟩
  have hF' : markF (flowNew 1 1 4) (13, 0) 1 1 = { flowNew 1 1 4 with sets := [0, 1], g := putP (fun _ => 0) (13, 0) 1 } := by
    unfold markF; rw [if_pos hE]; rfl
  rw [hF']
  decide
end Go.Proofs.Ytkfncibmfcdokaa
end

/- XG1 -/
section
set_option linter.unusedVariables false
set_option linter.unusedSimpArgs false
namespace Go.Proofs.Ytkfncibmfcdokaa
open Go.X

/- pomander/pomanderlaw12.vast -/
def W_pomanderlaw12_vast (l1 : Option Addr) (l1n : Nat) (l1c : Nat) (w : World) (R : Bool → World → Prop) : Prop :=
  ((decide ((l1n : Int) > 30)) = true → R true w) ∧ ((decide ((l1n : Int) > 30)) = false → ∃ (I1 : Bool → Int → World → Prop) (m1 : Bool → Int → World → Nat), I1 false 0 w ∧ ∀ (x1 : Bool) (i1 : Int) (w1 : World), I1 x1 i1 w1 → ((decide (i1 < (l1n : Int))) = true → ∃ a1 : Addr, l1 = some a1 ∧ (0 : Int) ≤ i1 ∧ i1 < (l1n : Int) ∧ (∃ (t1 : Int), w1.cell? ((a1.add (Int.toNat i1 * 6)).add 1) = some (.int .i64 t1) ∧ (∃ J1 : Bool → World → Prop, (∀ (b1 : Bool) (w2 : World), J1 b1 w2 → ∃ J2 : Bool → World → Prop, (∀ (b2 : Bool) (w3 : World), J2 b2 w3 → (b2 = true → R true w3) ∧ (b2 = false → (I1 x1 (IntKind.wrap .i64 (i1 + 1)) w3 ∧ m1 x1 (IntKind.wrap .i64 (i1 + 1)) w3 < m1 x1 i1 w1))) ∧ ((b1 = false → ∃ (t2 : Option Addr) (t2n : Nat) (t2c : Nat), w2.cell? ((a1.add (Int.toNat i1 * 6)).add 5) = some (.slice t2 t2n t2c) ∧ (Calls Try.prog 67 #[.slice t2 t2n t2c] w2 fun e w4 => ∃ (r2 : Bool), e = .returned (.bool r2) ∧ (J2 r2 w4))) ∧ (b1 = true → J2 true w2))) ∧ (((decide (t1 > 200)) = true → J1 (decide (t1 ≤ 65536)) w1) ∧ ((decide (t1 > 200)) = false → J1 false w1))))) ∧ ((decide (i1 < (l1n : Int))) = false → R false w1))
set_option maxRecDepth 100000 in
theorem go_pomanderlaw12_vast (l1 : Option Addr) (l1n : Nat) (l1c : Nat) (w : World) (R : Bool → World → Prop) (h : W_pomanderlaw12_vast l1 l1n l1c w R) : Calls Try.prog 23 #[.slice l1 l1n l1c] w (fun e w' => ∃ (r1 : Bool), e = .returned (.bool r1) ∧ R r1 w') := by
  unfold W_pomanderlaw12_vast at h
  refine enter (N := 35) Try.func23 rfl rfl ?_
  refine CW.seq ?_
  refine CW.region fun L hL => ?_
  refine LW.rd hL rfl (Wants.free rfl) rfl (Rd.assign (v := .bool false) rfl) ?_
  refine LW.nil hL rfl ?_
  refine NW.then ?_
  refine CW.seq ?_
  refine CW.seq ?_
  refine CW.region fun L hL => ?_
  refine LW.rd hL rfl (Wants.free rfl) rfl (Rd.move (v := .slice l1 l1n l1c) rfl) ?_
  refine LW.rd hL rfl (Wants.free rfl) rfl (Rd.builtin (v := .int .i64 (l1n : Int)) rfl (fun _ _ => by kernel_rfl)) ?_
  refine LW.rd hL rfl (Wants.free rfl) rfl (Rd.bin (v := .bool (decide ((l1n : Int) > 30))) rfl rfl (fun w => by kernel_rfl)) ?_
  refine LW.nil hL rfl ?_
  refine NW.then ?_
  refine CW.cond rfl (fun hb1 => ?_) (fun hb1 => ?_)
  · replace h := h.1 hb1
    refine CW.seq ?_
    refine CW.region fun L hL => ?_
    refine LW.rd hL rfl (Wants.free rfl) rfl (Rd.assign (v := .bool true) rfl) ?_
    refine LW.nil hL rfl ?_
    refine NW.then ?_
    refine CW.ret ?_
    refine RW.then ?_
    exact res1 rfl rfl ⟨true, rfl, h⟩
  · replace h := h.2 hb1
    refine CW.skip ?_
    refine NW.then ?_
    refine CW.seq ?_
    refine CW.seq ?_
    refine CW.region fun L hL => ?_
    refine LW.rd hL rfl (Wants.free rfl) rfl (Rd.assign (v := .int .i64 0) rfl) ?_
    refine LW.nil hL rfl ?_
    refine NW.then ?_
    refine CW.block ?_
    obtain ⟨I1, m1, hI1, h⟩ := h
    refine CW.loop (S := Bool × Int) (fun s1 => [(0, .slice l1 l1n l1c), (2, .bool s1.1), (3, .int .i64 s1.2)]) (fun s1 w1 => I1 s1.1 s1.2 w1) (fun s1 w1 => m1 s1.1 s1.2 w1) (false, 0) (by exact ⟨rfl, rfl, rfl, trivial⟩) hI1 (fun s1 w1 hI1 => ?_)
    obtain ⟨x1, i1⟩ := s1; replace h := h x1 i1 w1 hI1
    refine CW.seq ?_
    refine CW.seq ?_
    refine CW.region fun L hL => ?_
    refine LW.rd hL rfl (Wants.free rfl) rfl (Rd.move (v := .int .i64 i1) rfl) ?_
    refine LW.rd hL rfl (Wants.free rfl) rfl (Rd.move (v := .slice l1 l1n l1c) rfl) ?_
    refine LW.rd hL rfl (Wants.free rfl) rfl (Rd.builtin (v := .int .i64 (l1n : Int)) rfl (fun _ _ => by kernel_rfl)) ?_
    refine LW.rd hL rfl (Wants.free rfl) rfl (Rd.bin (v := .bool (decide (i1 < (l1n : Int)))) rfl rfl (fun w => by kernel_rfl)) ?_
    refine LW.nil hL rfl ?_
    refine NW.then ?_
    refine CW.cond rfl (fun hb2 => ?_) (fun hb2 => ?_)
    · replace h := h.1 hb2
      refine CW.skip ?_
      refine NW.then ?_
      refine CW.seq ?_
      refine CW.block ?_
      refine CW.seq ?_
      refine CW.region fun L hL => ?_
      refine LW.rd hL rfl (Wants.free rfl) rfl (Rd.move (v := .slice l1 l1n l1c) rfl) ?_
      refine LW.rd hL rfl (Wants.free rfl) rfl (Rd.move (v := .int .i64 i1) rfl) ?_
      obtain ⟨a1, he1, hi1, hi2, h⟩ := h
      refine LW.rd hL rfl (Wants.free rfl) rfl (Rd.iaS (q := a1) (sz := 6) (by rw [← he1]; rfl) rfl Try.underlying46 (by kernel_rfl) hi1 hi2) ?_
      refine LW.rd hL rfl (Wants.free rfl) rfl (Rd.fa (v := .pointer (some ((a1.add (Int.toNat i1 * 6)).add 1))) rfl (fun _ => by kernel_rfl)) ?_
      obtain ⟨t1, hc1, h⟩ := h
      refine LW.rd hL rfl (Wants.free rfl) rfl (Rd.ld (v := .int .i64 t1) rfl (by kernel_rfl) (eqs hc1)) ?_
      refine LW.rd hL rfl (Wants.free rfl) rfl (Rd.bin (v := .bool (decide (t1 > 200))) rfl rfl (fun w => by kernel_rfl)) ?_
      refine LW.rd hL rfl (Wants.free rfl) rfl (Rd.move (v := .bool (decide (t1 > 200))) rfl) ?_
      obtain ⟨J1, hJ1, h1_J1, h0_J1⟩ := h
      suffices K1 : ∀ (b1 : Bool) (w2 : World), J1 b1 w2 → L 14 [(0, .slice l1 l1n l1c), (2, .bool x1), (3, .int .i64 i1), (26, .bool b1)] w2 by
        rcases Bool.eq_false_or_eq_true (decide (t1 > 200)) with hb3 | hb3
        · have h := h1_J1 hb3
          refine LW.rd hL rfl (Wants.on rfl rfl rfl rfl rfl hb3) rfl (Rd.move (v := .slice l1 l1n l1c) rfl) ?_
          refine LW.rd hL rfl (Wants.on rfl rfl rfl rfl rfl hb3) rfl (Rd.move (v := .int .i64 i1) rfl) ?_
          refine LW.rd hL rfl (Wants.on rfl rfl rfl rfl rfl hb3) rfl (Rd.iaS (q := a1) (sz := 6) (by rw [← he1]; rfl) rfl Try.underlying46 (by kernel_rfl) hi1 hi2) ?_
          refine LW.rd hL rfl (Wants.on rfl rfl rfl rfl rfl hb3) rfl (Rd.fa (v := .pointer (some ((a1.add (Int.toNat i1 * 6)).add 1))) rfl (fun _ => by kernel_rfl)) ?_
          refine LW.rd hL rfl (Wants.on rfl rfl rfl rfl rfl hb3) rfl (Rd.ld (v := .int .i64 t1) rfl (by kernel_rfl) (eqs hc1)) ?_
          refine LW.rd hL rfl (Wants.on rfl rfl rfl rfl rfl hb3) rfl (Rd.bin (v := .bool (decide (t1 ≤ 65536))) rfl rfl (fun w => by kernel_rfl)) ?_
          refine LW.rd hL rfl (Wants.free rfl) rfl (Rd.pickT rfl hb3 rfl) ?_
          exact LW.sub hL (by exact ⟨rfl, rfl, rfl, rfl, trivial⟩) (K1 (decide (t1 ≤ 65536)) w1 h)
        · have h := h0_J1 hb3
          refine LW.skip hL rfl (Skips.on rfl rfl rfl rfl rfl hb3) rfl ?_
          refine LW.skip hL rfl (Skips.on rfl rfl rfl rfl rfl hb3) rfl ?_
          refine LW.skip hL rfl (Skips.on rfl rfl rfl rfl rfl hb3) rfl ?_
          refine LW.skip hL rfl (Skips.on rfl rfl rfl rfl rfl hb3) rfl ?_
          refine LW.skip hL rfl (Skips.on rfl rfl rfl rfl rfl hb3) rfl ?_
          refine LW.skip hL rfl (Skips.on rfl rfl rfl rfl rfl hb3) rfl ?_
          refine LW.rd hL rfl (Wants.free rfl) rfl (Rd.pickF rfl hb3 rfl) ?_
          exact LW.sub hL (by exact ⟨rfl, rfl, rfl, rfl, trivial⟩) (K1 false w1 h)
      intro b1 w2 h_
      have h := hJ1 b1 w2 h_; clear h_
      refine LW.rd hL rfl (Wants.free rfl) rfl (Rd.move (v := .bool b1) rfl) ?_
      obtain ⟨J2, hJ2, h1_J2, h0_J2⟩ := h
      suffices K2 : ∀ (b2 : Bool) (w3 : World), J2 b2 w3 → L 22 [(0, .slice l1 l1n l1c), (2, .bool x1), (3, .int .i64 i1), (34, .bool b2)] w3 by
        rcases Bool.eq_false_or_eq_true b1 with hb4 | hb4
        · have h := h0_J2 hb4
          refine LW.skip hL rfl (Skips.on rfl rfl rfl rfl rfl hb4) rfl ?_
          refine LW.skip hL rfl (Skips.on rfl rfl rfl rfl rfl hb4) rfl ?_
          refine LW.skip hL rfl (Skips.on rfl rfl rfl rfl rfl hb4) rfl ?_
          refine LW.skip hL rfl (Skips.on rfl rfl rfl rfl rfl hb4) rfl ?_
          refine LW.skip hL rfl (Skips.on rfl rfl rfl rfl rfl hb4) rfl ?_
          refine LW.skip hL rfl (Skips.on rfl rfl rfl rfl rfl hb4) rfl ?_
          refine LW.rd hL rfl (Wants.free rfl) rfl (Rd.pickT rfl hb4 rfl) ?_
          exact LW.sub hL (by exact ⟨rfl, rfl, rfl, rfl, trivial⟩) (K2 true w2 h)
        · have h := h1_J2 hb4
          refine LW.rd hL rfl (Wants.on rfl rfl rfl rfl rfl hb4) rfl (Rd.move (v := .slice l1 l1n l1c) rfl) ?_
          refine LW.rd hL rfl (Wants.on rfl rfl rfl rfl rfl hb4) rfl (Rd.move (v := .int .i64 i1) rfl) ?_
          refine LW.rd hL rfl (Wants.on rfl rfl rfl rfl rfl hb4) rfl (Rd.iaS (q := a1) (sz := 6) (by rw [← he1]; rfl) rfl Try.underlying46 (by kernel_rfl) hi1 hi2) ?_
          refine LW.rd hL rfl (Wants.on rfl rfl rfl rfl rfl hb4) rfl (Rd.fa (v := .pointer (some ((a1.add (Int.toNat i1 * 6)).add 5))) rfl (fun _ => by kernel_rfl)) ?_
          obtain ⟨t2, t2n, t2c, hc2, h⟩ := h
          refine LW.rd hL rfl (Wants.on rfl rfl rfl rfl rfl hb4) rfl (Rd.ld (v := .slice t2 t2n t2c) rfl (by kernel_rfl) (eqs hc2)) ?_
          refine LW.call hL rfl (Wants.on rfl rfl rfl rfl rfl hb4) rfl (Cl.fn (f := 67) rfl Try.func67 (by kernel_rfl) rfl) h (fun e w4 h_ => ?_)
          clear h
          obtain ⟨r2, rfl, h⟩ := h_
          refine ⟨_, rfl, ?_⟩
          refine LW.rd hL rfl (Wants.free rfl) rfl (Rd.pickF rfl hb4 rfl) ?_
          exact LW.sub hL (by exact ⟨rfl, rfl, rfl, rfl, trivial⟩) (K2 r2 w4 h)
      intro b2 w3 h_
      have h := hJ2 b2 w3 h_; clear h_
      refine LW.nil hL rfl ?_
      refine NW.then ?_
      refine CW.cond rfl (fun hb5 => ?_) (fun hb5 => ?_)
      · replace h := h.1 hb5
        refine CW.seq ?_
        refine CW.region fun L hL => ?_
        refine LW.rd hL rfl (Wants.free rfl) rfl (Rd.assign (v := .bool true) rfl) ?_
        refine LW.nil hL rfl ?_
        refine NW.then ?_
        refine CW.ret ?_
        refine RW.block ?_
        refine RW.then ?_
        refine RW.then ?_
        refine RW.block ?_
        refine RW.then ?_
        exact res1 rfl rfl ⟨true, rfl, h⟩
      · replace h := h.2 hb5
        refine CW.skip ?_
        refine NW.block ?_
        refine NW.then ?_
        refine CW.region fun L hL => ?_
        refine LW.rd hL rfl (Wants.free rfl) rfl (Rd.move (v := .int .i64 i1) rfl) ?_
        refine LW.rd hL rfl (Wants.free rfl) rfl (Rd.bin (v := .int .i64 (IntKind.wrap .i64 (i1 + 1))) rfl rfl (fun w => by kernel_rfl)) ?_
        refine LW.rd hL rfl (Wants.free rfl) rfl (Rd.assign (v := .int .i64 (IntKind.wrap .i64 (i1 + 1))) rfl) ?_
        refine LW.nil hL rfl ?_
        exact NW.loop (S := Bool × Int) (Ek := fun s1 => [(0, .slice l1 l1n l1c), (2, .bool s1.1), (3, .int .i64 s1.2)]) (x1, IntKind.wrap .i64 (i1 + 1)) (by exact ⟨rfl, rfl, rfl, trivial⟩) h
    · replace h := h.2 hb2
      refine CW.exit ?_
      refine XW.then ?_
      refine XW.then ?_
      refine XW.hit ?_
      refine NW.then ?_
      refine CW.seq ?_
      refine CW.region fun L hL => ?_
      refine LW.rd hL rfl (Wants.free rfl) rfl (Rd.assign (v := .bool false) rfl) ?_
      refine LW.nil hL rfl ?_
      refine NW.then ?_
      refine CW.ret ?_
      exact res1 rfl rfl ⟨false, rfl, h⟩

/- pomander/pomanderlaw12.broad -/
def W_pomanderlaw12_broad (l1 : Option Addr) (l1n : Nat) (l1c : Nat) (w : World) (R : Bool → World → Prop) : Prop :=
  ((decide ((l1n : Int) > 20)) = true → R true w) ∧ ((decide ((l1n : Int) > 20)) = false → ∃ (I1 : Bool → Int → World → Prop) (m1 : Bool → Int → World → Nat), I1 false 0 w ∧ ∀ (x1 : Bool) (i1 : Int) (w1 : World), I1 x1 i1 w1 → ((decide (i1 < (l1n : Int))) = true → ∃ a1 : Addr, l1 = some a1 ∧ (0 : Int) ≤ i1 ∧ i1 < (l1n : Int) ∧ (∃ (t1 : Option Addr) (t1n : Nat) (t1c : Nat), w1.cell? ((a1.add (Int.toNat i1 * 3)).add 2) = some (.slice t1 t1n t1c) ∧ (((decide ((t1n : Int) > 20)) = true → R true w1) ∧ ((decide ((t1n : Int) > 20)) = false → (I1 x1 (IntKind.wrap .i64 (i1 + 1)) w1 ∧ m1 x1 (IntKind.wrap .i64 (i1 + 1)) w1 < m1 x1 i1 w1))))) ∧ ((decide (i1 < (l1n : Int))) = false → R false w1))
set_option maxRecDepth 100000 in
theorem go_pomanderlaw12_broad (l1 : Option Addr) (l1n : Nat) (l1c : Nat) (w : World) (R : Bool → World → Prop) (h : W_pomanderlaw12_broad l1 l1n l1c w R) : Calls Try.prog 67 #[.slice l1 l1n l1c] w (fun e w' => ∃ (r1 : Bool), e = .returned (.bool r1) ∧ R r1 w') := by
  unfold W_pomanderlaw12_broad at h
  refine enter (N := 20) Try.func67 rfl rfl ?_
  refine CW.seq ?_
  refine CW.region fun L hL => ?_
  refine LW.rd hL rfl (Wants.free rfl) rfl (Rd.assign (v := .bool false) rfl) ?_
  refine LW.nil hL rfl ?_
  refine NW.then ?_
  refine CW.seq ?_
  refine CW.seq ?_
  refine CW.region fun L hL => ?_
  refine LW.rd hL rfl (Wants.free rfl) rfl (Rd.move (v := .slice l1 l1n l1c) rfl) ?_
  refine LW.rd hL rfl (Wants.free rfl) rfl (Rd.builtin (v := .int .i64 (l1n : Int)) rfl (fun _ _ => by kernel_rfl)) ?_
  refine LW.rd hL rfl (Wants.free rfl) rfl (Rd.bin (v := .bool (decide ((l1n : Int) > 20))) rfl rfl (fun w => by kernel_rfl)) ?_
  refine LW.nil hL rfl ?_
  refine NW.then ?_
  refine CW.cond rfl (fun hb1 => ?_) (fun hb1 => ?_)
  · replace h := h.1 hb1
    refine CW.seq ?_
    refine CW.region fun L hL => ?_
    refine LW.rd hL rfl (Wants.free rfl) rfl (Rd.assign (v := .bool true) rfl) ?_
    refine LW.nil hL rfl ?_
    refine NW.then ?_
    refine CW.ret ?_
    refine RW.then ?_
    exact res1 rfl rfl ⟨true, rfl, h⟩
  · replace h := h.2 hb1
    refine CW.skip ?_
    refine NW.then ?_
    refine CW.seq ?_
    refine CW.seq ?_
    refine CW.region fun L hL => ?_
    refine LW.rd hL rfl (Wants.free rfl) rfl (Rd.assign (v := .int .i64 0) rfl) ?_
    refine LW.nil hL rfl ?_
    refine NW.then ?_
    refine CW.block ?_
    obtain ⟨I1, m1, hI1, h⟩ := h
    refine CW.loop (S := Bool × Int) (fun s1 => [(0, .slice l1 l1n l1c), (2, .bool s1.1), (3, .int .i64 s1.2)]) (fun s1 w1 => I1 s1.1 s1.2 w1) (fun s1 w1 => m1 s1.1 s1.2 w1) (false, 0) (by exact ⟨rfl, rfl, rfl, trivial⟩) hI1 (fun s1 w1 hI1 => ?_)
    obtain ⟨x1, i1⟩ := s1; replace h := h x1 i1 w1 hI1
    refine CW.seq ?_
    refine CW.seq ?_
    refine CW.region fun L hL => ?_
    refine LW.rd hL rfl (Wants.free rfl) rfl (Rd.move (v := .int .i64 i1) rfl) ?_
    refine LW.rd hL rfl (Wants.free rfl) rfl (Rd.move (v := .slice l1 l1n l1c) rfl) ?_
    refine LW.rd hL rfl (Wants.free rfl) rfl (Rd.builtin (v := .int .i64 (l1n : Int)) rfl (fun _ _ => by kernel_rfl)) ?_
    refine LW.rd hL rfl (Wants.free rfl) rfl (Rd.bin (v := .bool (decide (i1 < (l1n : Int)))) rfl rfl (fun w => by kernel_rfl)) ?_
    refine LW.nil hL rfl ?_
    refine NW.then ?_
    refine CW.cond rfl (fun hb2 => ?_) (fun hb2 => ?_)
    · replace h := h.1 hb2
      refine CW.skip ?_
      refine NW.then ?_
      refine CW.seq ?_
      refine CW.block ?_
      refine CW.seq ?_
      refine CW.region fun L hL => ?_
      refine LW.rd hL rfl (Wants.free rfl) rfl (Rd.move (v := .slice l1 l1n l1c) rfl) ?_
      refine LW.rd hL rfl (Wants.free rfl) rfl (Rd.move (v := .int .i64 i1) rfl) ?_
      obtain ⟨a1, he1, hi1, hi2, h⟩ := h
      refine LW.rd hL rfl (Wants.free rfl) rfl (Rd.iaS (q := a1) (sz := 3) (by rw [← he1]; rfl) rfl Try.underlying25 (by kernel_rfl) hi1 hi2) ?_
      refine LW.rd hL rfl (Wants.free rfl) rfl (Rd.fa (v := .pointer (some ((a1.add (Int.toNat i1 * 3)).add 2))) rfl (fun _ => by kernel_rfl)) ?_
      obtain ⟨t1, t1n, t1c, hc1, h⟩ := h
      refine LW.rd hL rfl (Wants.free rfl) rfl (Rd.ld (v := .slice t1 t1n t1c) rfl (by kernel_rfl) (eqs hc1)) ?_
      refine LW.rd hL rfl (Wants.free rfl) rfl (Rd.builtin (v := .int .i64 (t1n : Int)) rfl (fun _ _ => by kernel_rfl)) ?_
      refine LW.rd hL rfl (Wants.free rfl) rfl (Rd.bin (v := .bool (decide ((t1n : Int) > 20))) rfl rfl (fun w => by kernel_rfl)) ?_
      refine LW.nil hL rfl ?_
      refine NW.then ?_
      refine CW.cond rfl (fun hb3 => ?_) (fun hb3 => ?_)
      · replace h := h.1 hb3
        refine CW.seq ?_
        refine CW.region fun L hL => ?_
        refine LW.rd hL rfl (Wants.free rfl) rfl (Rd.assign (v := .bool true) rfl) ?_
        refine LW.nil hL rfl ?_
        refine NW.then ?_
        refine CW.ret ?_
        refine RW.block ?_
        refine RW.then ?_
        refine RW.then ?_
        refine RW.block ?_
        refine RW.then ?_
        exact res1 rfl rfl ⟨true, rfl, h⟩
      · replace h := h.2 hb3
        refine CW.skip ?_
        refine NW.block ?_
        refine NW.then ?_
        refine CW.region fun L hL => ?_
        refine LW.rd hL rfl (Wants.free rfl) rfl (Rd.move (v := .int .i64 i1) rfl) ?_
        refine LW.rd hL rfl (Wants.free rfl) rfl (Rd.bin (v := .int .i64 (IntKind.wrap .i64 (i1 + 1))) rfl rfl (fun w => by kernel_rfl)) ?_
        refine LW.rd hL rfl (Wants.free rfl) rfl (Rd.assign (v := .int .i64 (IntKind.wrap .i64 (i1 + 1))) rfl) ?_
        refine LW.nil hL rfl ?_
        exact NW.loop (S := Bool × Int) (Ek := fun s1 => [(0, .slice l1 l1n l1c), (2, .bool s1.1), (3, .int .i64 s1.2)]) (x1, IntKind.wrap .i64 (i1 + 1)) (by exact ⟨rfl, rfl, rfl, trivial⟩) h
    · replace h := h.2 hb2
      refine CW.exit ?_
      refine XW.then ?_
      refine XW.then ?_
      refine XW.hit ?_
      refine NW.then ?_
      refine CW.seq ?_
      refine CW.region fun L hL => ?_
      refine LW.rd hL rfl (Wants.free rfl) rfl (Rd.assign (v := .bool false) rfl) ?_
      refine LW.nil hL rfl ?_
      refine NW.then ?_
      refine CW.ret ?_
      exact res1 rfl rfl ⟨false, rfl, h⟩

/- pomander/pomanderlaw12.known -/
def W_pomanderlaw12_known  (w : World) (R : Bool → World → Prop) : Prop :=
  Calls Try.prog 25 #[.agg #[.int .i64 1, .int .i64 1], .int .i64 4] w fun e w1 => ∃ (r2 : Option Addr) (r3 : Int), e = .returned (.tuple #[.pointer r2, .int .i64 r3]) ∧ (∀ (b2 b1 : Nat) (w5 : World), (w1.heap.size ≤ b2 ∧ b2 < w5.heap.size) → (w1.heap.size ≤ b1 ∧ b1 < w5.heap.size) → Chg [] w1 w5 → (Calls Try.prog 36 #[.pointer r2, .agg #[.int .i64 13, .int .i64 0], .int .i64 2, .int .u32 1] w5 fun e w6 => ∃ (r4 : Int), e = .returned (.int .i64 r4) ∧ (Same w5 w6 [b2, b1] ∧ (∀ b3 : Nat, b3 = World.size w6 → ∀ w7 : World, w7 = World.alloc w6 (.cells #[.int .i64 13, .int .i64 0] 56) → (∀ b4 : Nat, b4 = World.size w7 → ∀ w8 : World, w8 = World.alloc w7 (.cells #[.int .i64 1, .int .i64 1, .slice (some (⟨b3, 0, none⟩ : Addr)) 1 1] 81) → (Calls Try.prog 38 #[.pointer r2, .slice (some (⟨b4, 0, none⟩ : Addr)) 1 1] w8 fun e w9 => ∃ (r5 : Int), e = .returned (.int .i64 r5) ∧ (Same w8 w9 [b2] ∧ (Calls Try.prog 28 #[.pointer r2, .agg #[.int .i64 1, .int .i64 1]] w9 fun e w10 => ∃ (r6 : Int) (r7 : Int), e = .returned (.tuple #[.int .u32 r6, .int .i64 r7]) ∧ (R ((((r3 == 0 && r4 == 0) && r5 == 0) && r6 == 1) && r7 == 0) w10)))))))))
set_option maxRecDepth 100000 in
theorem go_pomanderlaw12_known  (w : World) (R : Bool → World → Prop) (h : W_pomanderlaw12_known  w R) : Calls Try.prog 24 #[] w (fun e w' => ∃ (r1 : Bool), e = .returned (.bool r1) ∧ R r1 w') := by
  unfold W_pomanderlaw12_known at h
  refine enter (N := 50) Try.func24 rfl rfl ?_
  refine CW.seq ?_
  refine CW.region fun L hL => ?_
  refine LW.rd hL rfl (Wants.free rfl) rfl (Rd.assign (v := .bool false) rfl) ?_
  refine LW.nil hL rfl ?_
  refine NW.then ?_
  refine CW.seq ?_
  refine CW.region fun L hL => ?_
  refine LW.rd hL rfl (Wants.free rfl) rfl (Rd.build (v := .agg #[.int .i64 1, .int .i64 1]) rfl (fun _ => by kernel_rfl)) ?_
  refine LW.call hL rfl (Wants.free rfl) rfl (Cl.fn (f := 25) rfl Try.func25 (by kernel_rfl) rfl) h (fun e w1 h_ => ?_)
  clear h
  obtain ⟨r2, r3, rfl, h⟩ := h_
  refine ⟨_, rfl, ?_⟩
  refine LW.rd hL rfl (Wants.free rfl) rfl (Rd.move (v := .tuple #[.pointer r2, .int .i64 r3]) rfl) ?_
  refine LW.rd hL rfl (Wants.free rfl) rfl (Rd.extract (v := .pointer r2) rfl rfl) ?_
  refine LW.rd hL rfl (Wants.free rfl) rfl (Rd.extract (v := .int .i64 r3) rfl rfl) ?_
  refine LW.rd hL rfl (Wants.free rfl) rfl (Rd.assign (v := .pointer r2) rfl) ?_
  refine LW.rd hL rfl (Wants.free rfl) rfl (Rd.assign (v := .int .i64 r3) rfl) ?_
  refine LW.nil hL rfl ?_
  refine NW.then ?_
  refine CW.seq ?_
  refine CW.region fun L hL => ?_
  refine LW.rd hL rfl (Wants.free rfl) rfl (Rd.build (v := .agg #[.int .i64 13, .int .i64 0]) rfl (fun _ => by kernel_rfl)) ?_
  refine LW.rd hL rfl (Wants.free rfl) rfl (Rd.build (v := .agg #[.int .i64 1, .int .i64 1]) rfl (fun _ => by kernel_rfl)) ?_
  obtain ⟨b1, hb_b1⟩ : ∃ b1, b1 = World.size w1 := ⟨_, rfl⟩
  obtain ⟨w2, hw_w2⟩ : ∃ w2, w2 = World.alloc w1 (.cells #[.int .i64 0, .int .i64 0] 56) := ⟨_, rfl⟩
  refine LW.val hL rfl (Wants.free rfl) rfl (boxE hb_b1 hw_w2 (Vl.alloc (z := .agg #[.int .i64 0, .int .i64 0]) (by kernel_rfl))) ?_
  have hB := Boxes.alloc (cs := [.int .i64 0, .int .i64 0]) (T := 56) (Boxes.nil w1) hb_b1 hw_w2
  have hlo_b1 := sil_lo (Chg.refl [] w1) hb_b1
  have hc_w2 := sil_alloc (Chg.refl [] w1) hw_w2
  obtain ⟨b2, hb_b2⟩ : ∃ b2, b2 = World.size w2 := ⟨_, rfl⟩
  obtain ⟨w3, hw_w3⟩ : ∃ w3, w3 = World.alloc w2 (.cells #[.int .i64 0, .int .i64 0] 56) := ⟨_, rfl⟩
  refine LW.val hL rfl (Wants.free rfl) rfl (boxE hb_b2 hw_w3 (Vl.alloc (z := .agg #[.int .i64 0, .int .i64 0]) (by kernel_rfl))) ?_
  replace hB := Boxes.alloc (cs := [.int .i64 0, .int .i64 0]) (T := 56) hB hb_b2 hw_w3
  have hlo_b2 := sil_lo hc_w2 hb_b2
  have hc_w3 := sil_alloc hc_w2 hw_w3
  obtain ⟨w4, hw_w4⟩ : ∃ x, x = setCells w3 (⟨b1, 0, none⟩ : Addr) 0 [.int .i64 13, .int .i64 0] := ⟨_, rfl⟩
  refine LW.eff hL rfl (Wants.free rfl) rfl (stNE hw_w4 (Ef.stN (cs := [.int .i64 13, .int .i64 0]) rfl rfl (by kernel_rfl) (List.forall_mem_cons.2 ⟨rfl, (List.forall_mem_cons.2 ⟨rfl, (List.forall_mem_nil _)⟩)⟩) (has_of (hB.at (i := 1) rfl) (by simp)) (free_of' (hB.at (i := 1) rfl)))) ?_
  replace hB : Boxes w4 [(b2, [.int .i64 0, .int .i64 0], 56), (b1, [.int .i64 13, .int .i64 0], 56)] := Boxes.store (vs := [.int .i64 13, .int .i64 0]) (i := 1) (o := 0) hB rfl rfl rfl rfl hw_w4
  have hc_w4 := sil_new hc_w3 (sil_cN hw_w4) hlo_b1
  obtain ⟨w5, hw_w5⟩ : ∃ x, x = setCells w4 (⟨b2, 0, none⟩ : Addr) 0 [.int .i64 1, .int .i64 1] := ⟨_, rfl⟩
  refine LW.eff hL rfl (Wants.free rfl) rfl (stNE hw_w5 (Ef.stN (cs := [.int .i64 1, .int .i64 1]) rfl rfl (by kernel_rfl) (List.forall_mem_cons.2 ⟨rfl, (List.forall_mem_cons.2 ⟨rfl, (List.forall_mem_nil _)⟩)⟩) (has_of (hB.at (i := 0) rfl) (by simp)) (free_of' (hB.at (i := 0) rfl)))) ?_
  replace hB : Boxes w5 [(b2, [.int .i64 1, .int .i64 1], 56), (b1, [.int .i64 13, .int .i64 0], 56)] := Boxes.store (vs := [.int .i64 1, .int .i64 1]) (i := 0) (o := 0) hB rfl rfl rfl rfl hw_w5
  have hc_w5 := sil_new hc_w4 (sil_cN hw_w5) hlo_b2
  refine LW.nil hL rfl ?_
  refine NW.then ?_
  refine CW.seq ?_
  refine CW.region fun L hL => ?_
  refine LW.rd hL rfl (Wants.free rfl) rfl (Rd.move (v := .pointer r2) rfl) ?_
  refine LW.rd hL rfl (Wants.free rfl) rfl (Rd.ldN (cs := [.int .i64 13, .int .i64 0]) rfl (by kernel_rfl) (by kernel_rfl) (cellsS (box_cells (hB.at (i := 1) rfl) rfl))) ?_
  replace h := h b2 b1 w5 ⟨hlo_b2, lt_of_heap (hB.at (i := 0) rfl)⟩ ⟨hlo_b1, lt_of_heap (hB.at (i := 1) rfl)⟩ hc_w5
  refine LW.call hL rfl (Wants.free rfl) rfl (Cl.fn (f := 36) rfl Try.func36 (by kernel_rfl) rfl) h (fun e w6 h_ => ?_)
  clear h
  obtain ⟨r4, rfl, h⟩ := h_
  obtain ⟨hsm1, h⟩ := h
  replace hB := Boxes.same hB (by exact hsm1)
  refine ⟨_, rfl, ?_⟩
  refine LW.rd hL rfl (Wants.free rfl) rfl (Rd.assign (v := .int .i64 r4) rfl) ?_
  refine LW.nil hL rfl ?_
  refine NW.then ?_
  refine CW.seq ?_
  refine CW.region fun L hL => ?_
  refine LW.rd hL rfl (Wants.free rfl) rfl (Rd.move (v := .pointer r2) rfl) ?_
  refine LW.rd hL rfl (Wants.free rfl) rfl (Rd.ldN (cs := [.int .i64 1, .int .i64 1]) rfl (by kernel_rfl) (by kernel_rfl) (cellsS (box_cells (hB.at (i := 0) rfl) rfl))) ?_
  refine LW.rd hL rfl (Wants.free rfl) rfl (Rd.ldN (cs := [.int .i64 13, .int .i64 0]) rfl (by kernel_rfl) (by kernel_rfl) (cellsS (box_cells (hB.at (i := 1) rfl) rfl))) ?_
  obtain ⟨b3, hb_b3⟩ : ∃ b3, b3 = World.size w6 := ⟨_, rfl⟩
  obtain ⟨w7, hw_w7⟩ : ∃ w7, w7 = World.alloc w6 (.cells #[.int .i64 13, .int .i64 0] 56) := ⟨_, rfl⟩
  replace h := h b3 hb_b3 w7 hw_w7
  refine LW.val hL rfl (Wants.free rfl) rfl (sliceE (n := 1) hb_b3 hw_w7 (fun w => Vl.buildSlice (vs := [(0, .agg #[.int .i64 13, .int .i64 0])]) rfl (by kernel_rfl))) ?_
  replace hB := hB.grow hw_w7
  refine LW.rd hL rfl (Wants.free rfl) rfl (Rd.build (v := .agg #[.int .i64 1, .int .i64 1, .slice (some (⟨b3, 0, none⟩ : Addr)) 1 1]) rfl (fun _ => by kernel_rfl)) ?_
  obtain ⟨b4, hb_b4⟩ : ∃ b4, b4 = World.size w7 := ⟨_, rfl⟩
  obtain ⟨w8, hw_w8⟩ : ∃ w8, w8 = World.alloc w7 (.cells #[.int .i64 1, .int .i64 1, .slice (some (⟨b3, 0, none⟩ : Addr)) 1 1] 81) := ⟨_, rfl⟩
  replace h := h b4 hb_b4 w8 hw_w8
  refine LW.val hL rfl (Wants.free rfl) rfl (sliceE (n := 1) hb_b4 hw_w8 (fun w => Vl.buildSlice (vs := [(0, .agg #[.int .i64 1, .int .i64 1, .slice (some (⟨b3, 0, none⟩ : Addr)) 1 1])]) rfl (by kernel_rfl))) ?_
  replace hB := hB.grow hw_w8
  refine LW.call hL rfl (Wants.free rfl) rfl (Cl.fn (f := 38) rfl Try.func38 (by kernel_rfl) rfl) h (fun e w9 h_ => ?_)
  clear h
  obtain ⟨r5, rfl, h⟩ := h_
  obtain ⟨hsm2, h⟩ := h
  replace hB := Boxes.same (hB.sel [0] (by decide) rfl) (by exact hsm2)
  refine ⟨_, rfl, ?_⟩
  refine LW.rd hL rfl (Wants.free rfl) rfl (Rd.assign (v := .int .i64 r5) rfl) ?_
  refine LW.nil hL rfl ?_
  refine NW.then ?_
  refine CW.seq ?_
  refine CW.region fun L hL => ?_
  refine LW.rd hL rfl (Wants.free rfl) rfl (Rd.move (v := .pointer r2) rfl) ?_
  refine LW.rd hL rfl (Wants.free rfl) rfl (Rd.ldN (cs := [.int .i64 1, .int .i64 1]) rfl (by kernel_rfl) (by kernel_rfl) (cellsS (box_cells (hB.at (i := 0) rfl) rfl))) ?_
  refine LW.call hL rfl (Wants.free rfl) rfl (Cl.fn (f := 28) rfl Try.func28 (by kernel_rfl) rfl) h (fun e w10 h_ => ?_)
  clear h
  obtain ⟨r6, r7, rfl, h⟩ := h_
  refine ⟨_, rfl, ?_⟩
  refine LW.rd hL rfl (Wants.free rfl) rfl (Rd.move (v := .tuple #[.int .u32 r6, .int .i64 r7]) rfl) ?_
  refine LW.rd hL rfl (Wants.free rfl) rfl (Rd.extract (v := .int .u32 r6) rfl rfl) ?_
  refine LW.rd hL rfl (Wants.free rfl) rfl (Rd.extract (v := .int .i64 r7) rfl rfl) ?_
  refine LW.rd hL rfl (Wants.free rfl) rfl (Rd.assign (v := .int .u32 r6) rfl) ?_
  refine LW.rd hL rfl (Wants.free rfl) rfl (Rd.assign (v := .int .i64 r7) rfl) ?_
  refine LW.nil hL rfl ?_
  refine NW.then ?_
  refine CW.seq ?_
  refine CW.region fun L hL => ?_
  refine LW.rd hL rfl (Wants.free rfl) rfl (Rd.move (v := .int .i64 r3) rfl) ?_
  refine LW.rd hL rfl (Wants.free rfl) rfl (Rd.bin (v := .bool (r3 == 0)) rfl rfl (fun w => by kernel_rfl)) ?_
  refine LW.rd hL rfl (Wants.free rfl) rfl (Rd.move (v := .bool (r3 == 0)) rfl) ?_
  suffices K1 : L 6 [(0, .bool false), (6, .int .i64 r5), (7, .int .u32 r6), (8, .int .i64 r7), (37, .bool (r3 == 0 && r4 == 0))] w10 by
    rcases Bool.eq_false_or_eq_true (r3 == 0) with hb2 | hb2
    · skip
      refine LW.rd hL rfl (Wants.on rfl rfl rfl rfl rfl hb2) rfl (Rd.move (v := .int .i64 r4) rfl) ?_
      refine LW.rd hL rfl (Wants.on rfl rfl rfl rfl rfl hb2) rfl (Rd.bin (v := .bool (r4 == 0)) rfl rfl (fun w => by kernel_rfl)) ?_
      refine LW.rd hL rfl (Wants.free rfl) rfl (Rd.pickT rfl hb2 rfl) ?_
      exact LW.sub hL (by exact ⟨rfl, rfl, rfl, rfl, (by rw [hb2]; rfl), trivial⟩) K1
    · skip
      refine LW.skip hL rfl (Skips.on rfl rfl rfl rfl rfl hb2) rfl ?_
      refine LW.skip hL rfl (Skips.on rfl rfl rfl rfl rfl hb2) rfl ?_
      refine LW.rd hL rfl (Wants.free rfl) rfl (Rd.pickF rfl hb2 rfl) ?_
      exact LW.sub hL (by exact ⟨rfl, rfl, rfl, rfl, (by rw [hb2]; rfl), trivial⟩) K1
  refine LW.rd hL rfl (Wants.free rfl) rfl (Rd.move (v := .bool (r3 == 0 && r4 == 0)) rfl) ?_
  suffices K2 : L 10 [(0, .bool false), (7, .int .u32 r6), (8, .int .i64 r7), (41, .bool ((r3 == 0 && r4 == 0) && r5 == 0))] w10 by
    rcases Bool.eq_false_or_eq_true (r3 == 0 && r4 == 0) with hb4 | hb4
    · skip
      refine LW.rd hL rfl (Wants.on rfl rfl rfl rfl rfl hb4) rfl (Rd.move (v := .int .i64 r5) rfl) ?_
      refine LW.rd hL rfl (Wants.on rfl rfl rfl rfl rfl hb4) rfl (Rd.bin (v := .bool (r5 == 0)) rfl rfl (fun w => by kernel_rfl)) ?_
      refine LW.rd hL rfl (Wants.free rfl) rfl (Rd.pickT rfl hb4 rfl) ?_
      exact LW.sub hL (by exact ⟨rfl, rfl, rfl, (by rw [hb4]; rfl), trivial⟩) K2
    · skip
      refine LW.skip hL rfl (Skips.on rfl rfl rfl rfl rfl hb4) rfl ?_
      refine LW.skip hL rfl (Skips.on rfl rfl rfl rfl rfl hb4) rfl ?_
      refine LW.rd hL rfl (Wants.free rfl) rfl (Rd.pickF rfl hb4 rfl) ?_
      exact LW.sub hL (by exact ⟨rfl, rfl, rfl, (by rw [hb4]; rfl), trivial⟩) K2
  refine LW.rd hL rfl (Wants.free rfl) rfl (Rd.move (v := .bool ((r3 == 0 && r4 == 0) && r5 == 0)) rfl) ?_
  suffices K3 : L 14 [(0, .bool false), (8, .int .i64 r7), (45, .bool (((r3 == 0 && r4 == 0) && r5 == 0) && r6 == 1))] w10 by
    rcases Bool.eq_false_or_eq_true ((r3 == 0 && r4 == 0) && r5 == 0) with hb6 | hb6
    · skip
      refine LW.rd hL rfl (Wants.on rfl rfl rfl rfl rfl hb6) rfl (Rd.move (v := .int .u32 r6) rfl) ?_
      refine LW.rd hL rfl (Wants.on rfl rfl rfl rfl rfl hb6) rfl (Rd.bin (v := .bool (r6 == 1)) rfl rfl (fun w => by kernel_rfl)) ?_
      refine LW.rd hL rfl (Wants.free rfl) rfl (Rd.pickT rfl hb6 rfl) ?_
      exact LW.sub hL (by exact ⟨rfl, rfl, (by rw [hb6]; rfl), trivial⟩) K3
    · skip
      refine LW.skip hL rfl (Skips.on rfl rfl rfl rfl rfl hb6) rfl ?_
      refine LW.skip hL rfl (Skips.on rfl rfl rfl rfl rfl hb6) rfl ?_
      refine LW.rd hL rfl (Wants.free rfl) rfl (Rd.pickF rfl hb6 rfl) ?_
      exact LW.sub hL (by exact ⟨rfl, rfl, (by rw [hb6]; rfl), trivial⟩) K3
  refine LW.rd hL rfl (Wants.free rfl) rfl (Rd.move (v := .bool (((r3 == 0 && r4 == 0) && r5 == 0) && r6 == 1)) rfl) ?_
  suffices K4 : L 18 [(0, .bool false), (49, .bool ((((r3 == 0 && r4 == 0) && r5 == 0) && r6 == 1) && r7 == 0))] w10 by
    rcases Bool.eq_false_or_eq_true (((r3 == 0 && r4 == 0) && r5 == 0) && r6 == 1) with hb8 | hb8
    · skip
      refine LW.rd hL rfl (Wants.on rfl rfl rfl rfl rfl hb8) rfl (Rd.move (v := .int .i64 r7) rfl) ?_
      refine LW.rd hL rfl (Wants.on rfl rfl rfl rfl rfl hb8) rfl (Rd.bin (v := .bool (r7 == 0)) rfl rfl (fun w => by kernel_rfl)) ?_
      refine LW.rd hL rfl (Wants.free rfl) rfl (Rd.pickT rfl hb8 rfl) ?_
      exact LW.sub hL (by exact ⟨rfl, (by rw [hb8]; rfl), trivial⟩) K4
    · skip
      refine LW.skip hL rfl (Skips.on rfl rfl rfl rfl rfl hb8) rfl ?_
      refine LW.skip hL rfl (Skips.on rfl rfl rfl rfl rfl hb8) rfl ?_
      refine LW.rd hL rfl (Wants.free rfl) rfl (Rd.pickF rfl hb8 rfl) ?_
      exact LW.sub hL (by exact ⟨rfl, (by rw [hb8]; rfl), trivial⟩) K4
  refine LW.rd hL rfl (Wants.free rfl) rfl (Rd.assign (v := .bool ((((r3 == 0 && r4 == 0) && r5 == 0) && r6 == 1) && r7 == 0)) rfl) ?_
  refine LW.nil hL rfl ?_
  refine NW.then ?_
  refine CW.ret ?_
  exact res1 rfl rfl ⟨((((r3 == 0 && r4 == 0) && r5 == 0) && r6 == 1) && r7 == 0), rfl, h⟩

/- (*pomander/flow.Flow).Apply -/
def W_flow_Flow_Apply (f1 : Option Addr) (l1 : Option Addr) (l1n : Nat) (l1c : Nat) (w : World) (R : Int → World → Prop) : Prop :=
  Calls Try.prog 73 #[.pointer f1] w fun e w1 => ∃ (r2 : Bool), e = .returned (.bool r2) ∧ ((r2 = true → R 1 w1) ∧ (r2 = false → Calls Try.prog 81 #[.pointer f1, .slice l1 l1n l1c] w1 fun e w2 => ∃ (r3 : Bool), e = .returned (.bool r3) ∧ (((!r3) = true → R 2 w2) ∧ ((!r3) = false → ∀ b1 : Nat, b1 = World.size w2 → ∀ w3 : World, w3 = World.alloc w2 (.map #[] 0) → (∃ (I1 : Int → Int → World → Prop) (m1 : Int → Int → World → Nat), I1 0 0 w3 ∧ ∀ (x1 : Int) (x2 : Int) (w4 : World), I1 x1 x2 w4 → ((decide (x2 < (l1n : Int))) = true → ∃ J1 : Int → World → Prop, (∀ (x3 : Int) (w5 : World), J1 x3 w5 → (I1 x3 (IntKind.wrap .i64 (x2 + 1)) w5 ∧ m1 x3 (IntKind.wrap .i64 (x2 + 1)) w5 < m1 x1 x2 w4)) ∧ (∃ a1 : Addr, l1 = some a1 ∧ (0 : Int) ≤ x2 ∧ x2 < (l1n : Int) ∧ (∃ (t1 : Int) (t2 : Int) (t3 : Option Addr) (t3n : Nat) (t3c : Nat), CellsAt w4 (a1.add (Int.toNat x2 * 3)) 0 [.int .i64 t1, .int .i64 t2, .slice t3 t3n t3c] ∧ (∀ (b2 : Nat) (w7 : World), (w4.heap.size ≤ b2 ∧ b2 < w7.heap.size) → Chg [] w4 w7 → ((((t1 == 0) && (t2 == 0)) = true → J1 x1 w7) ∧ (((t1 == 0) && (t2 == 0)) = false → Calls Try.prog 82 #[.pointer f1, .slice t3 t3n t3c] w7 fun e w8 => ∃ (r4 : Int), e = .returned (.int .u32 r4) ∧ (Same w7 w8 [b2] ∧ (Calls Try.prog 77 #[.pointer f1, .int .u32 r4] w8 fun e w9 => ∃ (r5 : Int), e = .returned (.int .i64 r5) ∧ (Same w8 w9 [b2] ∧ (((!(r5 == 0)) = true → R r5 w9) ∧ ((!(r5 == 0)) = false → ∃ w10 : World, (Instr.mapUpdate 143 (.map (some b1)) (.agg #[.int .i64 t1, .int .i64 t2]) (.int .u32 r4)).run Try.prog w9 = .ok () w10 ∧ (J1 x1 w10)))))))))))) ∧ ((decide (x2 < (l1n : Int))) = false → ∃ (it1 : Option Addr) (w11 : World), (Instr.range 143 (.map (some b1))).run Try.prog w4 = .ok (.pointer it1) w11 ∧ (∃ (I2 : World → Prop) (m2 : World → Nat), I2 w11 ∧ ∀ (w12 : World), I2 w12 → ∃ (nx1 : Array Value) (ok1 : Bool) (w13 : World), (Instr.next (.pointer it1) false 0).run Try.prog w12 = .ok (.tuple nx1) w13 ∧ nx1[0]? = some (.bool ok1) ∧ ((ok1 = true → ∃ (k1 : Int) (k2 : Int) (v1 : Int), (Instr.entry (.pointer it1)).run Try.prog w13 = .ok (.tuple #[.agg #[.int .i64 k1, .int .i64 k2], .int .u32 v1]) w13 ∧ (∀ (b3 : Nat) (w15 : World), (w13.heap.size ≤ b3 ∧ b3 < w15.heap.size) → Chg [] w13 w15 → (Calls Try.prog 78 #[.pointer f1, .agg #[.int .i64 k1, .int .i64 k2], .int .u32 v1] w15 fun e w16 => e = .returned (.tuple #[]) ∧ ((I2 w16 ∧ m2 w16 < m2 w12))))) ∧ (ok1 = false → R 0 w13)))))))))
set_option maxRecDepth 100000 in
theorem go_flow_Flow_Apply (f1 : Option Addr) (l1 : Option Addr) (l1n : Nat) (l1c : Nat) (w : World) (R : Int → World → Prop) (h : W_flow_Flow_Apply f1 l1 l1n l1c w R) : Calls Try.prog 38 #[.pointer f1, .slice l1 l1n l1c] w (fun e w' => ∃ (r1 : Int), e = .returned (.int .i64 r1) ∧ R r1 w') := by
  unfold W_flow_Flow_Apply at h
  refine enter (N := 57) Try.func38 rfl rfl ?_
  refine CW.seq ?_
  refine CW.region fun L hL => ?_
  refine LW.rd hL rfl (Wants.free rfl) rfl (Rd.assign (v := .int .i64 0) rfl) ?_
  refine LW.nil hL rfl ?_
  refine NW.then ?_
  refine CW.seq ?_
  refine CW.block ?_
  refine CW.seq ?_
  refine CW.region fun L hL => ?_
  refine LW.rd hL rfl (Wants.free rfl) rfl (Rd.move (v := .pointer f1) rfl) ?_
  refine LW.call hL rfl (Wants.free rfl) rfl (Cl.fn (f := 73) rfl Try.func73 (by kernel_rfl) rfl) h (fun e w1 h_ => ?_)
  clear h
  obtain ⟨r2, rfl, h⟩ := h_
  refine ⟨_, rfl, ?_⟩
  refine LW.rd hL rfl (Wants.free rfl) rfl (Rd.assign (v := .bool r2) rfl) ?_
  refine LW.nil hL rfl ?_
  refine NW.then ?_
  refine CW.cond rfl (fun hb1 => ?_) (fun hb1 => ?_)
  · replace h := h.1 hb1
    refine CW.seq ?_
    refine CW.region fun L hL => ?_
    refine LW.rd hL rfl (Wants.free rfl) rfl (Rd.assign (v := .int .i64 1) rfl) ?_
    refine LW.nil hL rfl ?_
    refine NW.then ?_
    refine CW.ret ?_
    refine RW.block ?_
    refine RW.then ?_
    exact res1 rfl rfl ⟨1, rfl, h⟩
  · replace h := h.2 hb1
    refine CW.seq ?_
    refine CW.region fun L hL => ?_
    refine LW.rd hL rfl (Wants.free rfl) rfl (Rd.move (v := .pointer f1) rfl) ?_
    refine LW.rd hL rfl (Wants.free rfl) rfl (Rd.move (v := .slice l1 l1n l1c) rfl) ?_
    refine LW.call hL rfl (Wants.free rfl) rfl (Cl.fn (f := 81) rfl Try.func81 (by kernel_rfl) rfl) h (fun e w2 h_ => ?_)
    clear h
    obtain ⟨r3, rfl, h⟩ := h_
    refine ⟨_, rfl, ?_⟩
    refine LW.rd hL rfl (Wants.free rfl) rfl (Rd.un (v := .bool (!r3)) rfl (fun _ => by kernel_rfl)) ?_
    refine LW.rd hL rfl (Wants.free rfl) rfl (Rd.assign (v := .bool (!r3)) rfl) ?_
    refine LW.nil hL rfl ?_
    refine NW.then ?_
    refine CW.cond rfl (fun hb2 => ?_) (fun hb2 => ?_)
    · replace h := h.1 hb2
      refine CW.seq ?_
      refine CW.region fun L hL => ?_
      refine LW.rd hL rfl (Wants.free rfl) rfl (Rd.assign (v := .int .i64 2) rfl) ?_
      refine LW.nil hL rfl ?_
      refine NW.then ?_
      refine CW.ret ?_
      refine RW.block ?_
      refine RW.then ?_
      exact res1 rfl rfl ⟨2, rfl, h⟩
    · replace h := h.2 hb2
      refine CW.skip ?_
      refine NW.block ?_
      refine NW.then ?_
      refine CW.seq ?_
      refine CW.region fun L hL => ?_
      obtain ⟨b1, hb_b1⟩ : ∃ b1, b1 = World.size w2 := ⟨_, rfl⟩
      obtain ⟨w3, hw_w3⟩ : ∃ w3, w3 = World.alloc w2 (.map #[] 0) := ⟨_, rfl⟩
      replace h := h b1 hb_b1 w3 hw_w3
      refine LW.val hL rfl (Wants.free rfl) rfl (mapE hb_b1 hw_w3 Vl.makeMap) ?_
      refine LW.rd hL rfl (Wants.free rfl) rfl (Rd.assign (v := .map (some b1)) rfl) ?_
      refine LW.nil hL rfl ?_
      refine NW.then ?_
      refine CW.seq ?_
      refine CW.seq ?_
      refine CW.region fun L hL => ?_
      refine LW.rd hL rfl (Wants.free rfl) rfl (Rd.move (v := .slice l1 l1n l1c) rfl) ?_
      refine LW.rd hL rfl (Wants.free rfl) rfl (Rd.builtin (v := .int .i64 (l1n : Int)) rfl (fun _ _ => by kernel_rfl)) ?_
      refine LW.rd hL rfl (Wants.free rfl) rfl (Rd.move (v := .int .i64 0) rfl) ?_
      refine LW.nil hL rfl ?_
      refine NW.then ?_
      refine CW.block ?_
      obtain ⟨I1, m1, hI1, h⟩ := h
      refine CW.loop (S := Int × Int) (fun s1 => [(0, .pointer f1), (5, .map (some b1)), (21, .slice l1 l1n l1c), (22, .int .i64 (l1n : Int)), (4, .int .i64 s1.1), (23, .int .i64 s1.2)]) (fun s1 w4 => I1 s1.1 s1.2 w4) (fun s1 w4 => m1 s1.1 s1.2 w4) (0, 0) (by exact ⟨rfl, rfl, rfl, rfl, rfl, rfl, trivial⟩) hI1 (fun s1 w4 hI1 => ?_)
      obtain ⟨x1, x2⟩ := s1; replace h := h x1 x2 w4 hI1
      refine CW.seq ?_
      refine CW.region fun L hL => ?_
      refine LW.rd hL rfl (Wants.free rfl) rfl (Rd.bin (v := .bool (decide (x2 < (l1n : Int)))) rfl rfl (fun w => by kernel_rfl)) ?_
      refine LW.nil hL rfl ?_
      refine NW.then ?_
      refine CW.seq ?_
      refine CW.cond rfl (fun hb3 => ?_) (fun hb3 => ?_)
      · replace h := h.1 hb3
        refine CW.skip ?_
        refine NW.then ?_
        obtain ⟨J1, hJ1, h⟩ := h
        refine CW.cut (S := Int) (fun x3 => [(0, .pointer f1), (5, .map (some b1)), (21, .slice l1 l1n l1c), (22, .int .i64 (l1n : Int)), (23, .int .i64 x2), (4, .int .i64 x3)]) (fun x3 w5 => J1 x3 w5) (fun x3 w5 h_ => ?_) ?_
        · replace h := hJ1 x3 w5 h_; clear h_
          refine CW.region fun L hL => ?_
          refine LW.rd hL rfl (Wants.free rfl) rfl (Rd.bin (v := .int .i64 (IntKind.wrap .i64 (x2 + 1))) rfl rfl (fun w => by kernel_rfl)) ?_
          refine LW.rd hL rfl (Wants.free rfl) rfl (Rd.move (v := .int .i64 (IntKind.wrap .i64 (x2 + 1))) rfl) ?_
          refine LW.nil hL rfl ?_
          exact NW.loop (S := Int × Int) (Ek := fun s1 => [(0, .pointer f1), (5, .map (some b1)), (21, .slice l1 l1n l1c), (22, .int .i64 (l1n : Int)), (4, .int .i64 s1.1), (23, .int .i64 s1.2)]) (x3, IntKind.wrap .i64 (x2 + 1)) (by exact ⟨rfl, rfl, rfl, rfl, rfl, rfl, trivial⟩) h
        · skip
          refine CW.block ?_
          refine CW.seq ?_
          refine CW.region fun L hL => ?_
          obtain ⟨a1, he1, hi1, hi2, h⟩ := h
          refine LW.rd hL rfl (Wants.free rfl) rfl (Rd.iaS (q := a1) (sz := 3) (by rw [← he1]; rfl) rfl Try.underlying25 (by kernel_rfl) hi1 hi2) ?_
          obtain ⟨t1, t2, t3, t3n, t3c, hc1, h⟩ := h
          refine LW.rd hL rfl (Wants.free rfl) rfl (Rd.ldN (cs := [.int .i64 t1, .int .i64 t2, .slice t3 t3n t3c]) rfl (by kernel_rfl) (by kernel_rfl) (cellsS hc1)) ?_
          obtain ⟨b2, hb_b2⟩ : ∃ b2, b2 = World.size w4 := ⟨_, rfl⟩
          obtain ⟨w6, hw_w6⟩ : ∃ w6, w6 = World.alloc w4 (.cells #[.int .i64 0, .int .i64 0, .slice none 0 0] 81) := ⟨_, rfl⟩
          refine LW.val hL rfl (Wants.free rfl) rfl (boxE hb_b2 hw_w6 (Vl.alloc (z := .agg #[.int .i64 0, .int .i64 0, .slice none 0 0]) (by kernel_rfl))) ?_
          have hB := Boxes.alloc (cs := [.int .i64 0, .int .i64 0, .slice none 0 0]) (T := 81) (Boxes.nil w4) hb_b2 hw_w6
          have hlo_b2 := sil_lo (Chg.refl [] w4) hb_b2
          have hc_w6 := sil_alloc (Chg.refl [] w4) hw_w6
          obtain ⟨w7, hw_w7⟩ : ∃ x, x = setCells w6 (⟨b2, 0, none⟩ : Addr) 0 [.int .i64 t1, .int .i64 t2, .slice t3 t3n t3c] := ⟨_, rfl⟩
          refine LW.eff hL rfl (Wants.free rfl) rfl (stNE hw_w7 (Ef.stN (cs := [.int .i64 t1, .int .i64 t2, .slice t3 t3n t3c]) rfl rfl (by kernel_rfl) (List.forall_mem_cons.2 ⟨rfl, (List.forall_mem_cons.2 ⟨rfl, (List.forall_mem_cons.2 ⟨rfl, (List.forall_mem_nil _)⟩)⟩)⟩) (has_of (hB.at (i := 0) rfl) (by simp)) (free_of' (hB.at (i := 0) rfl)))) ?_
          replace hB : Boxes w7 [(b2, [.int .i64 t1, .int .i64 t2, .slice t3 t3n t3c], 81)] := Boxes.store (vs := [.int .i64 t1, .int .i64 t2, .slice t3 t3n t3c]) (i := 0) (o := 0) hB rfl rfl rfl rfl hw_w7
          have hc_w7 := sil_new hc_w6 (sil_cN hw_w7) hlo_b2
          refine LW.nil hL rfl ?_
          refine NW.then ?_
          refine CW.seq ?_
          refine CW.seq ?_
          refine CW.region fun L hL => ?_
          refine LW.rd hL rfl (Wants.free rfl) rfl (Rd.fa (v := .pointer (some (⟨b2, 0, none⟩ : Addr))) rfl (fun _ => by kernel_rfl)) ?_
          refine LW.rd hL rfl (Wants.free rfl) rfl (Rd.ldN (cs := [.int .i64 t1, .int .i64 t2]) rfl (by kernel_rfl) (by kernel_rfl) (cellsS (box_cells (hB.at (i := 0) rfl) rfl))) ?_
          refine LW.rd hL rfl (Wants.free rfl) rfl (Rd.build (v := .agg #[.int .i64 0, .int .i64 0]) rfl (fun _ => by kernel_rfl)) ?_
          refine LW.rd hL rfl (Wants.free rfl) rfl (Rd.bin (v := .bool ((t1 == 0) && (t2 == 0))) rfl rfl (fun w => eqS_56 _ _ _ _ w)) ?_
          refine LW.nil hL rfl ?_
          refine NW.then ?_
          replace h := h b2 w7 ⟨hlo_b2, lt_of_heap (hB.at (i := 0) rfl)⟩ hc_w7
          refine CW.cond rfl (fun hb4 => ?_) (fun hb4 => ?_)
          · replace h := h.1 hb4
            refine CW.exit ?_
            refine XW.then ?_
            refine XW.hit ?_
            exact NW.cut (S := Int) (Ek := fun x3 => [(0, .pointer f1), (5, .map (some b1)), (21, .slice l1 l1n l1c), (22, .int .i64 (l1n : Int)), (23, .int .i64 x2), (4, .int .i64 x3)]) x1 (by exact ⟨rfl, rfl, rfl, rfl, rfl, rfl, trivial⟩) h
          · replace h := h.2 hb4
            refine CW.skip ?_
            refine NW.then ?_
            refine CW.seq ?_
            refine CW.region fun L hL => ?_
            refine LW.rd hL rfl (Wants.free rfl) rfl (Rd.move (v := .pointer f1) rfl) ?_
            refine LW.rd hL rfl (Wants.free rfl) rfl (Rd.fa (v := .pointer (some (⟨b2, 2, none⟩ : Addr))) rfl (fun _ => by kernel_rfl)) ?_
            refine LW.rd hL rfl (Wants.free rfl) rfl (Rd.ld (v := .slice t3 t3n t3c) rfl (by kernel_rfl) (eqs (box_cell (hB.at (i := 0) rfl) rfl))) ?_
            refine LW.call hL rfl (Wants.free rfl) rfl (Cl.fn (f := 82) rfl Try.func82 (by kernel_rfl) rfl) h (fun e w8 h_ => ?_)
            clear h
            obtain ⟨r4, rfl, h⟩ := h_
            obtain ⟨hsm1, h⟩ := h
            replace hB := Boxes.same hB (by exact hsm1)
            refine ⟨_, rfl, ?_⟩
            refine LW.rd hL rfl (Wants.free rfl) rfl (Rd.assign (v := .int .u32 r4) rfl) ?_
            refine LW.nil hL rfl ?_
            refine NW.then ?_
            refine CW.seq ?_
            refine CW.seq ?_
            refine CW.region fun L hL => ?_
            refine LW.rd hL rfl (Wants.free rfl) rfl (Rd.move (v := .pointer f1) rfl) ?_
            refine LW.rd hL rfl (Wants.free rfl) rfl (Rd.move (v := .int .u32 r4) rfl) ?_
            refine LW.call hL rfl (Wants.free rfl) rfl (Cl.fn (f := 77) rfl Try.func77 (by kernel_rfl) rfl) h (fun e w9 h_ => ?_)
            clear h
            obtain ⟨r5, rfl, h⟩ := h_
            obtain ⟨hsm2, h⟩ := h
            replace hB := Boxes.same hB (by exact hsm2)
            refine ⟨_, rfl, ?_⟩
            refine LW.rd hL rfl (Wants.free rfl) rfl (Rd.assign (v := .int .i64 r5) rfl) ?_
            refine LW.nil hL rfl ?_
            refine NW.then ?_
            refine CW.seq ?_
            refine CW.region fun L hL => ?_
            refine LW.rd hL rfl (Wants.free rfl) rfl (Rd.move (v := .int .i64 r5) rfl) ?_
            refine LW.rd hL rfl (Wants.free rfl) rfl (Rd.bin (v := .bool (!(r5 == 0))) rfl rfl (fun w => by kernel_rfl)) ?_
            refine LW.nil hL rfl ?_
            refine NW.then ?_
            refine CW.cond rfl (fun hb5 => ?_) (fun hb5 => ?_)
            · replace h := h.1 hb5
              refine CW.seq ?_
              refine CW.region fun L hL => ?_
              refine LW.rd hL rfl (Wants.free rfl) rfl (Rd.move (v := .int .i64 r5) rfl) ?_
              refine LW.rd hL rfl (Wants.free rfl) rfl (Rd.assign (v := .int .i64 r5) rfl) ?_
              refine LW.nil hL rfl ?_
              refine NW.then ?_
              refine CW.ret ?_
              refine RW.then ?_
              refine RW.block ?_
              refine RW.then ?_
              refine RW.then ?_
              refine RW.block ?_
              refine RW.then ?_
              exact res1 rfl rfl ⟨r5, rfl, h⟩
            · replace h := h.2 hb5
              refine CW.skip ?_
              refine NW.then ?_
              refine CW.region fun L hL => ?_
              refine LW.rd hL rfl (Wants.free rfl) rfl (Rd.move (v := .map (some b1)) rfl) ?_
              refine LW.rd hL rfl (Wants.free rfl) rfl (Rd.fa (v := .pointer (some (⟨b2, 0, none⟩ : Addr))) rfl (fun _ => by kernel_rfl)) ?_
              refine LW.rd hL rfl (Wants.free rfl) rfl (Rd.ldN (cs := [.int .i64 t1, .int .i64 t2]) rfl (by kernel_rfl) (by kernel_rfl) (cellsS (box_cells (hB.at (i := 0) rfl) rfl))) ?_
              refine LW.rd hL rfl (Wants.free rfl) rfl (Rd.move (v := .int .u32 r4) rfl) ?_
              obtain ⟨w10, hm1, h⟩ := h
              refine LW.eff hL rfl (Wants.free rfl) rfl (Ef.mapUpdate rfl rfl rfl hm1) ?_
              refine LW.nil hL rfl ?_
              refine NW.block ?_
              exact NW.cut (S := Int) (Ek := fun x3 => [(0, .pointer f1), (5, .map (some b1)), (21, .slice l1 l1n l1c), (22, .int .i64 (l1n : Int)), (23, .int .i64 x2), (4, .int .i64 x3)]) x1 (by exact ⟨rfl, rfl, rfl, rfl, rfl, rfl, trivial⟩) h
      · replace h := h.2 hb3
        refine CW.exit ?_
        refine XW.then ?_
        refine XW.then ?_
        refine XW.hit ?_
        refine NW.then ?_
        refine CW.seq ?_
        refine CW.seq ?_
        refine CW.region fun L hL => ?_
        refine LW.rd hL rfl (Wants.free rfl) rfl (Rd.move (v := .map (some b1)) rfl) ?_
        obtain ⟨it1, w11, hm2, h⟩ := h
        refine LW.val hL rfl (Wants.free rfl) rfl (Vl.range (v := .pointer it1) rfl hm2) ?_
        refine LW.nil hL rfl ?_
        refine NW.then ?_
        refine CW.block ?_
        obtain ⟨I2, m2, hI2, h⟩ := h
        refine CW.loop (S := Unit) (fun s2 => [(0, .pointer f1), (4, .int .i64 x1), (47, .pointer it1)]) (fun s2 w12 => I2 w12) (fun s2 w12 => m2 w12) () (by exact ⟨rfl, rfl, rfl, trivial⟩) hI2 (fun s2 w12 hI2 => ?_)
        replace h := h w12 hI2
        refine CW.seq ?_
        refine CW.region fun L hL => ?_
        obtain ⟨nx1, ok1, w13, hm3, hk1, h⟩ := h
        refine LW.val hL rfl (Wants.free rfl) rfl (Vl.next (v := .tuple nx1) rfl hm3) ?_
        refine LW.rd hL rfl (Wants.free rfl) rfl (Rd.extract (v := .bool ok1) rfl hk1) ?_
        refine LW.nil hL rfl ?_
        refine NW.then ?_
        refine CW.seq ?_
        refine CW.cond rfl (fun hb6 => ?_) (fun hb6 => ?_)
        · replace h := h.1 hb6
          refine CW.skip ?_
          refine NW.then ?_
          refine CW.block ?_
          refine CW.seq ?_
          refine CW.region fun L hL => ?_
          obtain ⟨k1, k2, v1, hl1, h⟩ := h
          refine LW.rd hL rfl (Wants.free rfl) rfl (Rd.entry (v := .tuple #[.agg #[.int .i64 k1, .int .i64 k2], .int .u32 v1]) rfl (fun _ e => e ▸ hl1)) ?_
          refine LW.rd hL rfl (Wants.free rfl) rfl (Rd.extract (v := .agg #[.int .i64 k1, .int .i64 k2]) rfl rfl) ?_
          refine LW.rd hL rfl (Wants.free rfl) rfl (Rd.extract (v := .int .u32 v1) rfl rfl) ?_
          obtain ⟨b3, hb_b3⟩ : ∃ b3, b3 = World.size w13 := ⟨_, rfl⟩
          obtain ⟨w14, hw_w14⟩ : ∃ w14, w14 = World.alloc w13 (.cells #[.int .i64 0, .int .i64 0] 56) := ⟨_, rfl⟩
          refine LW.val hL rfl (Wants.free rfl) rfl (boxE hb_b3 hw_w14 (Vl.alloc (z := .agg #[.int .i64 0, .int .i64 0]) (by kernel_rfl))) ?_
          have hB := Boxes.alloc (cs := [.int .i64 0, .int .i64 0]) (T := 56) (Boxes.nil w13) hb_b3 hw_w14
          have hlo_b3 := sil_lo (Chg.refl [] w13) hb_b3
          have hc_w14 := sil_alloc (Chg.refl [] w13) hw_w14
          obtain ⟨w15, hw_w15⟩ : ∃ x, x = setCells w14 (⟨b3, 0, none⟩ : Addr) 0 [.int .i64 k1, .int .i64 k2] := ⟨_, rfl⟩
          refine LW.eff hL rfl (Wants.free rfl) rfl (stNE hw_w15 (Ef.stN (cs := [.int .i64 k1, .int .i64 k2]) rfl rfl (by kernel_rfl) (List.forall_mem_cons.2 ⟨rfl, (List.forall_mem_cons.2 ⟨rfl, (List.forall_mem_nil _)⟩)⟩) (has_of (hB.at (i := 0) rfl) (by simp)) (free_of' (hB.at (i := 0) rfl)))) ?_
          replace hB : Boxes w15 [(b3, [.int .i64 k1, .int .i64 k2], 56)] := Boxes.store (vs := [.int .i64 k1, .int .i64 k2]) (i := 0) (o := 0) hB rfl rfl rfl rfl hw_w15
          have hc_w15 := sil_new hc_w14 (sil_cN hw_w15) hlo_b3
          refine LW.rd hL rfl (Wants.free rfl) rfl (Rd.assign (v := .int .u32 v1) rfl) ?_
          refine LW.nil hL rfl ?_
          refine NW.then ?_
          refine CW.region fun L hL => ?_
          refine LW.rd hL rfl (Wants.free rfl) rfl (Rd.move (v := .pointer f1) rfl) ?_
          refine LW.rd hL rfl (Wants.free rfl) rfl (Rd.ldN (cs := [.int .i64 k1, .int .i64 k2]) rfl (by kernel_rfl) (by kernel_rfl) (cellsS (box_cells (hB.at (i := 0) rfl) rfl))) ?_
          refine LW.rd hL rfl (Wants.free rfl) rfl (Rd.move (v := .int .u32 v1) rfl) ?_
          replace h := h b3 w15 ⟨hlo_b3, lt_of_heap (hB.at (i := 0) rfl)⟩ hc_w15
          refine LW.call hL rfl (Wants.free rfl) rfl (Cl.fn (f := 78) rfl Try.func78 (by kernel_rfl) rfl) h (fun e w16 h_ => ?_)
          clear h
          obtain ⟨rfl, h⟩ := h_
          refine ⟨_, rfl, ?_⟩
          refine LW.nil hL rfl ?_
          refine NW.block ?_
          exact NW.loop (S := Unit) (Ek := fun s2 => [(0, .pointer f1), (4, .int .i64 x1), (47, .pointer it1)]) () (by exact ⟨rfl, rfl, rfl, trivial⟩) h
        · replace h := h.2 hb6
          refine CW.exit ?_
          refine XW.then ?_
          refine XW.then ?_
          refine XW.hit ?_
          refine NW.then ?_
          refine CW.seq ?_
          refine CW.region fun L hL => ?_
          refine LW.rd hL rfl (Wants.free rfl) rfl (Rd.assign (v := .int .i64 0) rfl) ?_
          refine LW.nil hL rfl ?_
          refine NW.then ?_
          refine CW.ret ?_
          exact res1 rfl rfl ⟨0, rfl, h⟩

end Go.Proofs.Ytkfncibmfcdokaa
end

/- XApply -/
section
/- Flows: Apply. -/
set_option linter.unusedVariables false
set_option linter.unusedSimpArgs false
namespace Go.Proofs.Ytkfncibmfcdokaa
open Go Go.RowKit Go.X

theorem keepAll_now {most : Int} {g : Int × Int → Int} {sets : List Int} (ts : List Tch) : ∀ x ∈ (keepAll most g ts sets).2.1, ∃ t ∈ ts, t.1 = x.1 ∧ t.1 ≠ (0, 0) ∧ x.2 = joinP g t.2 := by
  have : ∀ (ts us : List Tch) (s : List Int × List Pr × Int), (∀ x ∈ s.2.1, ∃ t ∈ us, t.1 = x.1 ∧ t.1 ≠ (0, 0) ∧ x.2 = joinP g t.2) →
      ∀ x ∈ (ts.foldl (keepStep most g) s).2.1, ∃ t ∈ us ++ ts, t.1 = x.1 ∧ t.1 ≠ (0, 0) ∧ x.2 = joinP g t.2 := by
    intro ts
    induction ts with
    | nil => intro us s h x hx; simpa using h x hx
    | cons t ts ih =>
      intro us s h x hx
      have := ih (us ++ [t]) (keepStep most g s t) (fun x hx => by
        unfold keepStep at hx
        split at hx
        · obtain ⟨u, hu, r⟩ := h x hx
          exact ⟨u, List.mem_append_left _ hu, r⟩
        · rename_i hn
          split at hx
          · obtain ⟨u, hu, r⟩ := h x hx
            exact ⟨u, List.mem_append_left _ hu, r⟩
          · rcases mem_upd hx with rfl | hx
            · exact ⟨t, by simp, rfl, fun e => hn (.inr e), rfl⟩
            · obtain ⟨u, hu, r⟩ := h x hx
              exact ⟨u, List.mem_append_left _ hu, r⟩) x hx
      simpa using this
  exact this ts [] (sets, [], 0) (by simp)

def ApplyInv (w : World) (b b1 : Nat) (F : Fl) (fp : List Nat) (ts : List Tch) (w' : World) : Prop :=
  (keepAll F.most F.g ts F.sets).2.2 = 0 ∧ ∃ fp', FlowAt w' b { F with sets := (keepAll F.most F.g ts F.sets).1 } fp' ∧ Chg fp w w' ∧ (∀ i ∈ fp', i ∈ fp ∨ (w.heap.size ≤ i ∧ i ≠ b1)) ∧
    MapIs w' b1 encP (fun n : Int => .int .u32 n) (keepAll F.most F.g ts F.sets).2.1

theorem flow_apply {w : World} {b : Nat} {F : Fl} {fp : List Nat} (h : FlowAt w b F fp) {S : Nat → Prop} {p : Option Addr} {n c : Nat} {ts : List Tch} (hp : TouchesAt w S p n ts) (hS : ∀ i ∈ fp, ¬ S i) (hn : n ≤ 9223372036854775807) (hin : ∀ t ∈ ts, t.2.length ≤ 9223372036854775807) :
    Calls Try.prog 38 #[.pointer (some ⟨b, 0, none⟩), .slice p n c] w fun e w' => ∃ r : Int, e = .returned (.int .i64 r) ∧
      (r = applyE F ts ∧ ∃ fp', FlowAt w' b (applyF F ts) fp' ∧ Chg fp w w' ∧ ∀ i ∈ fp', i ∈ fp ∨ w.heap.size ≤ i) := by
  have hlt0 := h.lt
  refine go_flow_Flow_Apply _ _ _ _ _ _ ?_
  unfold W_flow_Flow_Apply
  refine (flow_none h).mono ?_
  rintro _ w1 ⟨_, rfl, rfl, hw⟩
  subst w1
  refine ⟨_, rfl, fun h => by simp at h, fun _ => ?_⟩
  refine (flow_right (c := c) h hp hn hin).mono ?_
  rintro _ w2 ⟨_, rfl, rfl, c2⟩
  refine ⟨_, rfl, fun hb => ?_, fun hb => ?_⟩
  · have hb' : ¬ rightAll F.fr F.se ts := by simpa [rightAll] using hb
    refine ⟨by unfold applyE; rw [if_neg hb'], fp, ?_, c2.nil, fun i hi => .inl hi⟩
    unfold applyF; rw [if_neg hb']; exact h.chg c2 (by simp)
  have hr : rightAll F.fr F.se ts := by simpa [rightAll] using hb
  refine v_alloc fun b1 w3 eb1 hb1 c3 => ?_
  have c03 := c2.trans0 c3
  have s2 := c2.size
  have hM0 : MapIs w3 b1 encP (fun n : Int => .int .u32 n) ([] : List Pr) := ⟨#[], 0, hb1, rfl, by simp, by simp, by simp⟩
  have hb1fp : b1 ∉ fp := fun hm => by have := hlt0 _ hm; omega
  refine ⟨fun _ x w' => ∃ j : Nat, x = (j : Int) ∧ j ≤ n ∧ ApplyInv w b b1 F fp (ts.take j) w', fun _ x _ => (n - x).toNat, ⟨0, rfl, by omega, rfl, fp, h.chg c03 (by simp), c03.nil, fun i hi => .inl hi, hM0⟩, ?_⟩
  rintro x1 _ w4 ⟨j, rfl, hj, h0, fp4, hF4, c4, hf4, hM4⟩
  have hlt4 := hF4.lt
  have hb14 : b1 ∉ fp4 := fun hm => by
    rcases hf4 _ hm with h | h
    · exact hb1fp h
    · exact h.2 rfl
  refine ⟨fun hlt => ?_, fun hge => ?_⟩
  · have hlt' : j < n := by simpa using hlt
    obtain ⟨t, hj'⟩ := get_of (l := ts) (j := j) (by rw [hp.length]; exact hlt')
    have hmem : t ∈ ts := List.mem_of_getElem? hj'
    obtain ⟨k1, k2, a, q, qn, qc, rfl, ha, hc, hps⟩ := (hp.chg c4 hS).each j _ hj'
    refine ⟨fun _ w' => ApplyInv w b b1 F fp (ts.take (j + 1)) w', fun x w5 h5 => ?_, a, rfl, by omega, by omega, t.1.1, t.1.2, q, qn, qc, by simpa using hc, fun b2 w7 l7 c7 => ⟨fun he => ?_, fun hne => ?_⟩⟩
    · rw [wr (by omega) (by omega)]
      exact ⟨⟨j + 1, by omega, by omega, h5⟩, by simp only []; omega⟩
    · have he' : t.1 = (0, 0) := by
        have : t.1.1 = 0 ∧ t.1.2 = 0 := by simpa using he
        exact Prod.ext this.1 this.2
      unfold ApplyInv
      rw [take_snoc hj', keepAll_snoc]
      unfold keepStep
      rw [if_pos (.inr he')]
      exact ⟨h0, fp4, hF4.chg c7 (by simp), c4.trans c7 (by simp), hf4, hM4.chg c7 (by simp)⟩
    have hne' : t.1 ≠ (0, 0) := by
      intro e; rw [e] at hne; simp at hne
    refine (flow_together (c := qc) (hF4.chg c7 (by simp)) (hps.chg c7 (by simp)) (by rw [← hps.length]; exact hin t hmem)).mono ?_
    rintro _ w8 ⟨_, rfl, rfl, c8⟩
    simp only []
    have hu := joinP_u16 (fun p => h.each p) t.2
    refine ⟨_, rfl, Same.chg c8 (by simp; omega), ?_⟩
    have s8 := c8.size
    have hF8 := (hF4.chg c7 (by simp)).chg c8 (by simp)
    refine (flow_keep hF8 hu.1).mono ?_
    rintro _ w9 ⟨r5, rfl, rfl, fp9, hF9, c9, hf9⟩
    have s4 := c4.size
    have s7 := c7.size
    have c49 : Chg fp4 w4 w9 := ((c7.trans0 c8).nil).trans c9 (fun i hi _ => hi)
    have hf49 : ∀ i ∈ fp9, i ∈ fp4 ∨ w4.heap.size ≤ i := fun i hi => by
      rcases hf9 i hi with h | h
      · exact .inl h
      · exact .inr (by omega)
    obtain ⟨c09, hf09⟩ := grow_trans (fp := fp) (fp' := fp4) c4 (fun i hi => (hf4 i hi).imp id And.left) c49 hf49
    have hl4 : b1 < w4.heap.size := hM4.lt
    have hf9' : ∀ i ∈ fp9, i ∈ fp ∨ (w.heap.size ≤ i ∧ i ≠ b1) := fun i hi => by
      rcases hf49 i hi with h | h
      · exact hf4 i h
      · exact .inr ⟨by omega, by omega⟩
    refine ⟨_, rfl, Same.of c9 (by simp; exact ⟨by omega, fun hm => by have := hlt4 _ hm; omega⟩), fun hbad => ?_, fun hz => ?_⟩
    · have hbad' : keepE F.most (keepAll F.most F.g (ts.take j) F.sets).1 (joinP F.g t.2) ≠ 0 := by simpa using hbad
      have hs : keepAll F.most F.g (ts.take (j + 1)) F.sets = ((keepAll F.most F.g (ts.take j) F.sets).1, (keepAll F.most F.g (ts.take j) F.sets).2.1, keepE F.most (keepAll F.most F.g (ts.take j) F.sets).1 (joinP F.g t.2)) := by
        rw [take_snoc hj', keepAll_snoc]; unfold keepStep
        rw [if_neg (by rintro (h | h); exact h h0; exact hne' h), if_pos hbad']
      have hall : keepAll F.most F.g ts F.sets = keepAll F.most F.g (ts.take (j + 1)) F.sets := by
        have := keepAll_bad (most := F.most) (g := F.g) (ts := ts.take (j + 1)) (us := ts.drop (j + 1)) (sets := F.sets) (by rw [hs]; exact hbad')
        rwa [List.take_append_drop] at this
      refine ⟨?_, fp9, ?_, c09, hf09⟩
      · unfold applyE; rw [if_pos hr, hall, hs]
      · unfold applyF; rw [if_pos hr, hall, hs]
        simp only [if_neg hbad']
        rw [keepS_bad hbad'] at hF9; exact hF9
    have hz' : keepE F.most (keepAll F.most F.g (ts.take j) F.sets).1 (joinP F.g t.2) = 0 := by simpa using hz
    have hM9 := ((hM4.chg c7 (by simp)).chg c8 (by simp)).chg c9 hb14
    obtain ⟨w10, hu10, c10, hs10, hM10⟩ := hM9.update (P := Try.prog) (T := 143) u143 keyPlace (t.1.1, t.1.2) (joinP F.g t.2)
    refine ⟨w10, hu10, ?_⟩
    unfold ApplyInv
    rw [take_snoc hj', keepAll_snoc]
    unfold keepStep
    rw [if_neg (by rintro (h | h); exact h h0; exact hne' h), if_neg (by rw [hz']; simp)]
    exact ⟨rfl, fp9, hF9.chg c10 (fun i hi hm => by
      simp at hm; subst hm
      rcases hf9' _ hi with h | h
      · exact hb1fp h
      · exact h.2 rfl), c09.trans c10 (fun i hi hlt => by simp at hi; omega), hf9', hM10⟩
  have hge' : ¬ j < n := by simpa using hge
  have htk : ts.take j = ts := List.take_of_length_le (by rw [hp.length]; omega)
  rw [htk] at h0 hF4 hM4
  obtain ⟨it, w11, hrg, c11, hit, hI11⟩ := iter_range (P := Try.prog) (T := 143) hM4 u143
  have s4 := c4.size
  have hl4 : b1 < w4.heap.size := hM4.lt
  have hne1 : it ≠ b1 := by omega
  have hitfp : it ∉ fp4 := fun hm => by have := hlt4 _ hm; omega
  have hE : applyE F ts = 0 := by unfold applyE; rw [if_pos hr, h0]
  refine ⟨_, w11, hrg, ?_⟩
  refine ⟨fun w' => ∃ done fp', FlowAt w' b { F with sets := (keepAll F.most F.g ts F.sets).1, g := overP F.g done } fp' ∧ IterAt w' it b1 encP (fun n : Int => .int .u32 n) (keepAll F.most F.g ts F.sets).2.1 done ∧ Chg fp w w' ∧ (∀ i ∈ fp', i ∈ fp ∨ (w.heap.size ≤ i ∧ i ≠ b1 ∧ i ≠ it)),
    fun w' => (keepAll F.most F.g ts F.sets).2.1.length - seenN w' it, ⟨[], fp4, by rw [overP_nil]; exact hF4.chg c11 (by simp), hI11, c4.trans c11 (by simp), fun i hi => ?_⟩, ?_⟩
  · rcases hf4 i hi with h | h
    · exact .inl h
    · exact .inr ⟨h.1, h.2, fun e => hitfp (e ▸ hi)⟩
  rintro w12 ⟨done, fp12, hF12, hI12, c12, hf12⟩
  have hlt12 := hF12.lt
  rcases iter_next (P := Try.prog) hI12 hne1 keyPlace.inj 0 with ⟨hnx, hall⟩ | ⟨k, v, w13, hkl, hnew, hrun, c13, hI13, hent⟩
  · refine ⟨_, false, w12, hnx, rfl, fun h => by simp at h, fun _ => ⟨hE.symm, fp12, ?_, c12, fun i hi => (hf12 i hi).imp id And.left⟩⟩
    unfold applyF
    rw [if_pos hr, if_pos h0]
    have : overP F.g done = overP F.g (keepAll F.most F.g ts F.sets).2.1 := by
      funext q; unfold overP; rw [hI12.end_look hall q]
    rw [← this]; exact hF12
  · refine ⟨_, true, w13, hrun, rfl, fun _ => ?_, fun h => by simp at h⟩
    refine ⟨k.1, k.2, v, hent, fun b3 w15 l15 c15 => ?_⟩
    obtain ⟨t, ht, e1, e2, e3⟩ := keepAll_now ts _ hkl
    simp only [] at e1 e3
    have hmay : mayP F.fr F.se k := by
      have := (hr t ht).1
      rw [e1] at this e2
      exact this.resolve_left e2
    have hu := joinP_u16 (fun p => h.each p) t.2
    rw [← e3] at hu
    have hit12 : it ∉ fp12 := fun hm => by
      rcases hf12 _ hm with h | h
      · have := hlt0 _ h; omega
      · exact h.2.2 rfl
    have hF15 := (hF12.chg c13 (fun i hi hm => by simp at hm; exact hit12 (hm ▸ hi))).chg c15 (by simp)
    refine (flow_put (p1 := k.1) (p2 := k.2) hF15 hmay hu.1 hu.2).mono ?_
    rintro _ w16 ⟨rfl, fp16, hF16, c16, hf16⟩
    have s12 := c12.size
    have s13 := c13.size
    have s15 := c15.size
    have c1216 : Chg (it :: fp12) w12 w16 := ((c13.mono (g := it :: fp12) (by simp)).trans c15 (by simp)).trans c16 (fun i hi _ => by simp [hi])
    have c016 : Chg fp w w16 := c12.trans c1216 (fun i hi hlt => by
      rcases List.mem_cons.1 hi with rfl | hi
      · omega
      · exact (hf12 i hi).resolve_right (fun h => by omega))
    have hb112 : b1 ∉ fp12 := fun hm => by
      rcases hf12 _ hm with h | h
      · exact hb1fp h
      · exact h.2.1 rfl
    have hI16 := (hI13.chg c15 (by simp) (by simp)).chg c16 hit12 hb112
    refine ⟨rfl, ⟨done ++ [(k, v)], fp16, ?_, hI16, c016, fun i hi => ?_⟩, ?_⟩
    · have : overP F.g (done ++ [(k, v)]) = putP (overP F.g done) (k.1, k.2) v := by
        rw [← overP_upd]
        funext q
        unfold overP
        have hn : lookK (k.1, k.2) done = none := lookK_none.2 (fun p hp e => hnew (List.mem_map.2 ⟨p, hp, e⟩))
        unfold upd
        rw [hn]; rfl
      rw [this]; exact hF16
    · have hl16 : it < w12.heap.size := by
        obtain ⟨es, clk, since, c0, seen, ds, h1, _⟩ := hI12
        exact lt_of_heap h1
      rcases hf16 i hi with h | h
      · exact hf12 i h
      · refine .inr ⟨by omega, by omega, by omega⟩
    · have a1 := hI12.count
      have a2 := hI16.count
      have a3 := hI12.more hkl hnew
      simp at a2
      simp only []
      omega
theorem _root_.Go.X.CellsAt.third {w : World} {q : Addr} {a b c : Value} (h : CellsAt w q 0 [a, b, c]) : w.cell? (q.add 2) = some c := h.2.2.1
end Go.Proofs.Ytkfncibmfcdokaa
end

/- XPol2 -/
section
/- The laws' helpers: broad, made. -/
set_option linter.unusedVariables false
set_option linter.unusedSimpArgs false
namespace Go.Proofs.Ytkfncibmfcdokaa
open Go Go.RowKit Go.X

def broadP (m : Nat) (ts : List Tch) : Prop := 30 < m ∨ 20 < ts.length ∨ ∃ t ∈ ts, 20 < t.2.length
instance (m : Nat) (ts : List Tch) : Decidable (broadP m ts) := by unfold broadP; exact inferInstance
theorem broad_ok {w : World} {m1 : Option Addr} {mn mc : Nat} {S : Nat → Prop} {p : Option Addr} {n c : Nat} {ts : List Tch} (hp : TouchesAt w S p n ts) (hn : n ≤ maxLen) (hm : mn ≤ maxLen) :
    Calls Try.prog 17 #[.slice m1 mn mc, .slice p n c] w fun e w' => ∃ r : Bool, e = .returned (.bool r) ∧ (r = decide (broadP mn ts) ∧ w' = w) := by
  have hl := hp.length
  simp only [maxLen] at hn hm
  refine ok_pomanderlaw13_broad _ _ _ _ _ _ _ _ ?_
  unfold V_pomanderlaw13_broad
  refine ⟨fun h => ?_, fun h => ?_⟩
  · have h' : 30 < mn ∨ 20 < n := by
      simp at h; omega
    refine ⟨?_, rfl⟩
    symm; rw [decide_eq_true_eq]; unfold broadP; omega
  have h' : ¬ 30 < mn ∧ ¬ 20 < n := by
    simp at h; omega
  refine ⟨fun s w' => ∃ j : Nat, s.2 = (j : Int) ∧ j ≤ n ∧ w' = w ∧ ∀ t ∈ ts.take j, ¬ 20 < t.2.length, fun s _ => (n - s.2).toNat, ⟨0, rfl, by omega, rfl, by intro t ht; simp at ht⟩, ?_⟩
  rintro ⟨s1, s2⟩ w1 ⟨j, rfl, hj, hw, hall⟩
  subst w1
  refine ⟨fun hlt => ?_, fun hge => ?_⟩
  · have hlt' : j < n := by simpa using hlt
    obtain ⟨t, ht⟩ := get_of (l := ts) (j := j) (by omega)
    obtain ⟨_, _, a, q, qn, qc, rfl, _, hc, hps⟩ := hp.each j t ht
    refine ⟨a, rfl, by simp only []; omega, by simp only []; omega, q, qn, qc, by simpa using hc.2.2.1, fun hb => ?_, fun hb => ?_⟩
    · have hb' : 20 < qn := by
        simp at hb; omega
      refine ⟨?_, rfl⟩
      symm; rw [decide_eq_true_eq]
      exact .inr (.inr ⟨t, List.mem_of_getElem? ht, by rw [hps.length]; exact hb'⟩)
    · have hb' : ¬ 20 < qn := by
        simp at hb; omega
      simp only []
      rw [wr (by omega) (by omega)]
      refine ⟨⟨j + 1, by omega, by omega, trivial, ?_⟩, by omega⟩
      rw [take_snoc ht]
      intro x hx
      rcases List.mem_append.1 hx with hx | hx
      · exact hall x hx
      · simp at hx; rw [hx, hps.length]; exact hb'
  · have hge' : ¬ j < n := by simpa using hge
    rw [List.take_of_length_le (by omega)] at hall
    refine ⟨?_, rfl⟩
    symm; rw [decide_eq_false_iff_not]
    rintro (h1 | h1 | ⟨t, ht, h1⟩)
    · exact h'.1 h1
    · omega
    · exact hall t ht h1

def madeF (ms : List Pr) : Fl := ms.foldl (fun F m => markF F m.1 1 m.2) (flowNew 2 2 65536)
def madeR (ms : List Pr) : Rf := ms.foldl (fun R m => refMark R m.1 1 m.2) ⟨2, 2, 65536, [0], []⟩
theorem madeF_snoc (ms : List Pr) (m : Pr) : madeF (ms ++ [m]) = markF (madeF ms) m.1 1 m.2 := by simp [madeF]
theorem madeR_snoc (ms : List Pr) (m : Pr) : madeR (ms ++ [m]) = refMark (madeR ms) m.1 1 m.2 := by simp [madeR]
theorem refMark_shape (R : Rf) (p : Int × Int) (n set : Int) : (refMark R p n set).fr = R.fr ∧ (refMark R p n set).se = R.se ∧ (refMark R p n set).most = R.most := by
  unfold refMark; split <;> exact ⟨rfl, rfl, rfl⟩
theorem refMark_len (R : Rf) (p : Int × Int) (n set : Int) : (refMark R p n set).pairs.length ≤ R.pairs.length + n.toNat ∧ (refMark R p n set).sets.length ≤ R.sets.length + 1 := by
  unfold refMark
  split
  · refine ⟨refFill_length _ _ _ _, ?_⟩
    simp only [keepS]; split <;> simp
  · exact ⟨by omega, by omega⟩
theorem keepS_ne {most : Int} {sets : List Int} (h : sets ≠ []) (set : Int) : keepS most sets set ≠ [] := by
  unfold keepS; split
  · exact h
  · simp
theorem refMark_ne {R : Rf} (h : R.sets ≠ []) (p : Int × Int) (n set : Int) : (refMark R p n set).sets ≠ [] := by
  unfold refMark; split
  · exact keepS_ne h set
  · exact h
theorem madeR_ok (ms : List Pr) : (madeR ms).fr = 2 ∧ (madeR ms).se = 2 ∧ (madeR ms).most = 65536 ∧ (madeR ms).pairs.length ≤ ms.length ∧ (madeR ms).sets.length ≤ ms.length + 1 ∧ (madeR ms).sets ≠ [] := by
  unfold madeR
  have : ∀ (ms : List Pr) (R : Rf), R.fr = 2 → R.se = 2 → R.most = 65536 → R.sets ≠ [] → (ms.foldl (fun R m => refMark R m.1 1 m.2) R).fr = 2 ∧ (ms.foldl (fun R m => refMark R m.1 1 m.2) R).se = 2 ∧ (ms.foldl (fun R m => refMark R m.1 1 m.2) R).most = 65536 ∧ (ms.foldl (fun R m => refMark R m.1 1 m.2) R).pairs.length ≤ R.pairs.length + ms.length ∧ (ms.foldl (fun R m => refMark R m.1 1 m.2) R).sets.length ≤ R.sets.length + ms.length ∧ (ms.foldl (fun R m => refMark R m.1 1 m.2) R).sets ≠ [] := by
    intro ms
    induction ms with
    | nil => intro R h1 h2 h3 h4; exact ⟨h1, h2, h3, by simp, by simp, h4⟩
    | cons m ms ih =>
      intro R h1 h2 h3 h4
      simp only [List.foldl_cons, List.length_cons]
      obtain ⟨a, b, c⟩ := refMark_shape R m.1 1 m.2
      obtain ⟨k1, k2⟩ := refMark_len R m.1 1 m.2
      have := ih (refMark R m.1 1 m.2) (by rw [a, h1]) (by rw [b, h2]) (by rw [c, h3]) (refMark_ne h4 _ _ _)
      have e1 : (1 : Int).toNat = 1 := rfl
      rw [e1] at k1
      exact ⟨this.1, this.2.1, this.2.2.1, by omega, by omega, this.2.2.2.2.2⟩
  have := this ms ⟨2, 2, 65536, [0], []⟩ rfl rfl rfl (by simp)
  simp only [List.length_nil, List.length_cons] at this
  exact ⟨this.1, this.2.1, this.2.2.1, by omega, by omega, this.2.2.2.2.2⟩

/-- What made leaves: a flow, and the document's one. -/
theorem made_ok {w : World} {S : Nat → Prop} {p : Option Addr} {n c : Nat} {ms : List Pr} (hp : MarksAt w S p n ms) (hn : n ≤ 1000) :
    Calls Try.prog 19 #[.slice p n c] w fun e w' => ∃ (r1 : Option Addr) (r2 : Int) (r3 : Int) (r4 : Int) (r5 : Option Addr) (r5n : Nat) (r5c : Nat) (r6 : Option Addr) (r6n : Nat) (r6c : Nat), e = .returned (.tuple #[.pointer r1, .agg #[.int .i64 r2, .int .i64 r3, .int .i64 r4, .slice r5 r5n r5c, .slice r6 r6n r6c]]) ∧
      (∃ bf fp, r1 = some ⟨bf, 0, none⟩ ∧ FlowAt w' bf (madeF ms) fp ∧ r2 = 2 ∧ r3 = 2 ∧ r4 = 65536 ∧ RefAt w' (madeR ms) r5 r5n r5c r6 r6n r6c ∧ Chg [] w w' ∧ (∀ i ∈ fp, w.heap.size ≤ i) ∧ (∀ i ∈ rowB r5 ++ rowB r6, w.heap.size ≤ i ∧ i ∉ fp)) := by
  have hl := hp.length
  refine ok_pomanderlaw13_made _ _ _ _ _ ?_
  unfold V_pomanderlaw13_made
  refine v_alloc fun b1 w1 e1 h1 c1 => ?_
  refine v_box (by rfl) (by rfl) fun b2 w3 e3 h3 c3 => ?_
  have h13 := c3.obj (by simp) h1
  have c03 := c1.trans0 c3
  have l1 : b1 < w1.heap.size := lt_of_heap h1
  have l2 : b2 < w3.heap.size := lt_of_heap h3
  have s1 := c1.size
  have s3 := c3.size
  refine ⟨_, _, cellsAt_of h3, ?_⟩
  refine (flow_new w3 2 2 65536).mono ?_
  rintro _ w4 ⟨r7, r8, rfl, c4, hr⟩
  rw [if_pos (by decide)] at hr
  obtain ⟨rfl, bf, fp, rfl, hF, hfp⟩ := hr
  have s4 := c4.size
  refine ⟨_, _, rfl, _, _, cellsAt_of (c4.obj (by simp) h3), ?_⟩
  refine (ref_new 2 2 65536).mono ?_
  rintro _ w5 ⟨r9, r10, r11, r12, r12n, r12c, r13, r13n, r13c, rfl, rfl, rfl, rfl, hR, c5, hrf⟩
  have s5 := c5.size
  refine ⟨_, _, _, _, _, _, _, _, _, rfl, ?_⟩
  refine v_box (by rfl) (by rfl) fun b3 w7 e7 h7 c7 => ?_
  have s7 := c7.size
  have c47 := c5.trans0 c7
  have c07 := (c03.trans0 c4).trans0 c47
  have l3 : b3 < w7.heap.size := lt_of_heap h7
  have h17 := (c4.trans0 c47).obj (by simp) h13
  have hFlt := hF.lt
  have hRlt4 := hR.sets.lt
  have hRlt5 := hR.pairs.lt
  refine ⟨fun s w' => ∃ (j : Nat) (fp' : List Nat) (q4 : Option Addr) (m4 k4 : Nat) (q5 : Option Addr) (m5 k5 : Nat), s = (j : Int) ∧ j ≤ n ∧ FlowAt w' bf (madeF (ms.take j)) fp' ∧ RefAt w' (madeR (ms.take j)) q4 m4 k4 q5 m5 k5 ∧ Chg [] w w' ∧
      w'.heap[b1]? = some (.cells #[.int .i64 0, .int .i64 0, .int .i64 0, .slice none 0 0, .slice none 0 0] 36 (0, 0)) ∧ w'.heap[b3]? = some (.cells #[.int .i64 2, .int .i64 2, .int .i64 65536, .slice q4 m4 k4, .slice q5 m5 k5] 36 (0, 0)) ∧ w7.heap.size ≤ w'.heap.size ∧
      (∀ i ∈ fp', w3.heap.size ≤ i ∧ i ≠ b3) ∧ (∀ i ∈ rowB q4 ++ rowB q5, w3.heap.size ≤ i ∧ i ∉ fp' ∧ i ≠ b3),
    fun s _ => (n - s).toNat, ⟨0, fp, r12, r12n, r12c, r13, r13n, r13c, rfl, by omega, hF.chg c47 (by simp), hR.chg c7 (by simp) (by simp), c07, h17, h7, Nat.le_refl _, fun i hi => ?_, fun i hi => ?_⟩, ?_⟩
  · have := hfp i hi; have := hFlt i hi; omega
  · have h1 := hrf i hi
    have h2 : i < w5.heap.size := by
      rcases List.mem_append.1 hi with h | h
      · exact hRlt4 i h
      · exact hRlt5 i h
    exact ⟨by omega, fun hm => by have := hFlt i hm; omega, by omega⟩
  rintro _ w8 ⟨j, fp', q4, m4, k4, q5, m5, k5, rfl, hj, hF8, hR8, c8, h18, h38, s8, hfp8, hr8⟩
  refine ⟨fun hlt => ?_, fun hge => ?_⟩
  · have hlt' : j < n := by simpa using hlt
    obtain ⟨x, hx⟩ := get_of (l := ms) (j := j) (by omega)
    refine v_drew fun w9 c9 => ?_
    obtain ⟨kx, kx0, kx1, a, rfl, ha, hc⟩ := (hp.chg (c8.trans0 c9) (by simp)).each j x hx
    refine ⟨a, rfl, by omega, by omega, x.1.1, x.1.2, ⟨by simpa using hc.1, by simpa using hc.2.1, trivial⟩, a, rfl, by omega, by omega, x.2, by simpa using hc.2.2.1, ?_⟩
    have hF8lt := hF8.lt
    have hR8lt4 := hR8.sets.lt
    have hR8lt5 := hR8.pairs.lt
    have s9 := c9.size
    refine (flow_mark (p1 := x.1.1) (p2 := x.1.2) (n := 1) (set := x.2) (hF8.chg c9 (by simp)) kx kx0).mono ?_
    rintro _ w10 ⟨r14, rfl, rfl, fp10, hF10, c10, hfp10⟩
    have s10 := c10.size
    have c810 : Chg fp' w8 w10 := c9.nil.trans c10 (fun _ h _ => h)
    refine ⟨_, rfl, v_drew fun w11 c11 => ?_⟩
    have s11 := c11.size
    have c811 : Chg fp' w8 w11 := c810.trans c11.nil (fun _ h _ => h)
    have c011 : Chg [] w w11 := c8.trans c811 (fun i hi hl => by have := (hfp8 i hi).1; omega)
    have h311 := c811.obj (fun hm => (hfp8 _ hm).2 rfl) h38
    have h111 := c811.obj (fun hm => by have := (hfp8 _ hm).1; omega) h18
    obtain ⟨_, _, _, a', ha', _, hc'⟩ := (hp.chg c011 (by simp)).each j x hx
    cases ha'
    have hRok := madeR_ok (ms.take j)
    have hlen : (ms.take j).length ≤ n := by rw [List.length_take]; omega
    refine ⟨_, _, _, _, _, _, _, _, _, cellsAt_of h311, a, rfl, by omega, by omega, x.1.1, x.1.2, ⟨by simpa using hc'.1, by simpa using hc'.2.1, trivial⟩, a, rfl, by omega, by omega, x.2, by simpa using hc'.2.2.1, ?_⟩
    have hR11 := hR8.chg c811 (fun i hi => (hr8 i (List.mem_append.2 (.inl hi))).2.1) (fun i hi => (hr8 i (List.mem_append.2 (.inr hi))).2.1)
    have hm4 := hR8.n4
    have hm5 := hR8.n5
    have hmark := ref_mark (p1 := x.1.1) (p2 := x.1.2) (n := 1) (set := x.2) hR11 (by omega) (by omega) hRok.2.2.2.2.2 (by rw [hRok.1, hRok.2.1]; omega) kx0
    rw [hRok.1, hRok.2.1, hRok.2.2.1] at hmark
    refine hmark.mono ?_
    rintro _ w12 ⟨r15, r16, r17, r18, r18n, r18c, r19, r19n, r19c, r20, rfl, rfl, rfl, rfl, rfl, hR12, c12, hf12⟩
    have s12 := c12.size
    have h312 := c12.obj (by simp) h311
    obtain ⟨_, _, _, a', ha', _, hc''⟩ := (hp.chg (c011.trans0 c12) (by simp)).each j x hx
    cases ha'
    refine ⟨_, _, _, _, _, _, _, _, _, _, rfl, ⟨cellsAt_of h312, ⟨by simpa using hc''.1, by simpa using hc''.2.1, trivial⟩, by simpa using hc''.2.2.1, trivial⟩, ?_⟩
    refine v_fill h312 (by rfl) (by rfl) fun w13 h13' c13 _ => ?_
    rw [wr (by omega) (by omega)]
    have c012 := c011.trans0 c12
    have hF10lt := hF10.lt
    have hnew : ∀ i ∈ rowB r18 ++ rowB r19, w3.heap.size ≤ i ∧ i ∉ fp10 ∧ i ≠ b3 := fun i hi => by
      rcases hf12 i hi with h | h
      · obtain ⟨g1, g2, g3⟩ := hr8 i h
        refine ⟨g1, fun hm => ?_, g3⟩
        rcases hfp10 i hm with h' | h'
        · exact g2 h'
        · rcases List.mem_append.1 h with h | h
          · have := hR8lt4 i h; omega
          · have := hR8lt5 i h; omega
      · exact ⟨by omega, fun hm => by have := hF10lt i hm; omega, by omega⟩
    have hfnew : ∀ i ∈ fp10, w3.heap.size ≤ i ∧ i ≠ b3 := fun i hi => by
      rcases hfp10 i hi with h | h
      · exact hfp8 i h
      · exact ⟨by omega, by omega⟩
    refine ⟨⟨j + 1, fp10, r18, r18n, r18c, r19, r19n, r19c, by omega, by omega, ?_, ?_, ?_, ?_, h13', ?_, hfnew, hnew⟩, by simp only []; omega⟩
    · rw [take_snoc hx, madeF_snoc]
      exact ((hF10.chg c11 (by simp)).chg c12 (by simp)).chg c13 (fun i hi hm => by simp at hm; exact (hfnew i hi).2 hm)
    · rw [take_snoc hx, madeR_snoc]
      exact hR12.chg c13 (fun i hi hm => by simp at hm; exact (hnew i (List.mem_append.2 (.inl hi))).2.2 hm) (fun i hi hm => by simp at hm; exact (hnew i (List.mem_append.2 (.inr hi))).2.2 hm)
    · exact c012.trans c13 (fun i hi hl => by simp at hi; omega)
    · exact c13.obj (by simp; omega) (c12.obj (by simp) h111)
    · have := c13.size; omega
  · have hge' : ¬ j < n := by simpa using hge
    have htake : ms.take j = ms := List.take_of_length_le (by omega)
    rw [htake] at hF8 hR8
    refine v_drew fun w14 c14 => ?_
    refine ⟨_, _, _, _, _, _, _, _, _, cellsAt_of (c14.obj (by simp) h38), ?_⟩
    refine v_fill (c14.obj (by simp) h18) (by rfl) (by rfl) fun w15 h15 c15 _ => ?_
    have hc : Chg [b1] w8 w15 := c14.nil.trans c15 (fun _ h _ => h)
    exact ⟨_, _, _, _, _, _, _, _, _, cellsAt_of h15, bf, fp', rfl, hF8.chg hc (fun i hi hm => by simp at hm; have := (hfp8 i hi).1; omega), rfl, rfl, rfl,
      hR8.chg hc (fun i hi hm => by simp at hm; have := (hr8 i (List.mem_append.2 (.inl hi))).1; omega) (fun i hi hm => by simp at hm; have := (hr8 i (List.mem_append.2 (.inr hi))).1; omega),
      c8.trans hc (fun i hi hl => by simp at hi; omega), fun i hi => by have := (hfp8 i hi).1; omega, fun i hi => ⟨by have := (hr8 i hi).1; omega, (hr8 i hi).2.1⟩⟩
end Go.Proofs.Ytkfncibmfcdokaa
end

/- XActs -/
section
/- Acts on flows: what they are, what they do; the laws' helpers vast, broad, known, does. -/
set_option linter.unusedVariables false
set_option linter.unusedSimpArgs false
namespace Go.Proofs.Ytkfncibmfcdokaa
open Go Go.RowKit Go.X

structure ActV where
  kind : Int
  n : Int
  p : Int × Int
  set : Int
  ts : List Tch

def stepF (F : Fl) (a : ActV) : Fl := if a.kind = 1 then markF F a.p a.n a.set else applyF F a.ts
def stepR (R : Rf) (a : ActV) : Rf := if a.kind = 1 then refMark R a.p a.n a.set else refApply R a.ts
theorem RelF.step {F : Fl} {R : Rf} (h : RelF F R) (a : ActV) : RelF (stepF F a) (stepR R a) := by
  unfold stepF stepR
  split
  · exact h.mark _ _ _
  · exact h.apply _

/-- Acts that lie somewhere. -/
structure ActAt (w : World) (S : Nat → Prop) (q : Option Addr) (qn qc : Nat) (a : ActV) : Prop where
  p : i64s a.p.1 ∧ i64s a.p.2
  set : 0 ≤ a.set ∧ a.set < 4294967296
  n : i64s a.n
  ts : TouchesAt w S q qn a.ts
  qn : qn ≤ maxLen
  inner : ∀ t ∈ a.ts, t.2.length ≤ maxLen
structure ActsAt (w : World) (S : Nat → Prop) (p : Option Addr) (n : Nat) (acts : List ActV) : Prop where
  length : acts.length = n
  each : ∀ (j : Nat) (a : ActV), acts[j]? = some a → ∃ b q qn qc, p = some b ∧ S b.block ∧ CellsAt w (b.add (j * 6)) 0 [.int .i64 a.kind, .int .i64 a.n, .int .i64 a.p.1, .int .i64 a.p.2, .int .u32 a.set, .slice q qn qc] ∧ ActAt w S q qn qc a
theorem ActAt.chg {w w' : World} {S : Nat → Prop} {q : Option Addr} {qn qc : Nat} {a : ActV} {f : List Nat} (h : ActAt w S q qn qc a) (hc : Chg f w w') (hf : ∀ i ∈ f, ¬ S i) : ActAt w' S q qn qc a :=
  { h with ts := h.ts.chg hc hf }
theorem ActsAt.chg {w w' : World} {S : Nat → Prop} {p : Option Addr} {n : Nat} {acts : List ActV} {f : List Nat} (h : ActsAt w S p n acts) (hc : Chg f w w') (hf : ∀ i ∈ f, ¬ S i) : ActsAt w' S p n acts :=
  ⟨h.length, fun j a hj => let ⟨b, q, qn, qc, h1, h2, h3, h4⟩ := h.each j a hj; ⟨b, q, qn, qc, h1, h2, hc.cells (by rw [add_block]; exact fun hm => hf _ hm h2) h3, h4.chg hc hf⟩⟩

def broadT (ts : List Tch) : Prop := 20 < ts.length ∨ ∃ t ∈ ts, 20 < t.2.length
instance (ts : List Tch) : Decidable (broadT ts) := by unfold broadT; exact inferInstance
def vastA (acts : List ActV) : Prop := 30 < acts.length ∨ ∃ a ∈ acts, (200 < a.n ∧ a.n ≤ 65536) ∨ broadT a.ts
instance (acts : List ActV) : Decidable (vastA acts) := by unfold vastA; exact inferInstance

theorem broad12 {w : World} {S : Nat → Prop} {p : Option Addr} {n c : Nat} {ts : List Tch} (hp : TouchesAt w S p n ts) (hn : n ≤ maxLen) :
    Calls Try.prog 67 #[.slice p n c] w fun e w' => ∃ r : Bool, e = .returned (.bool r) ∧ (r = decide (broadT ts) ∧ w' = w) := by
  have hl := hp.length
  simp only [maxLen] at hn
  refine go_pomanderlaw12_broad _ _ _ _ _ ?_
  unfold W_pomanderlaw12_broad
  refine ⟨fun h => ⟨?_, rfl⟩, fun h => ?_⟩
  · have h' : 20 < n := by have : (20 : Int) < n := by simpa using h
                           omega
    symm; rw [decide_eq_true_eq]; exact .inl (by omega)
  have h' : ¬ 20 < n := by have : ¬ (20 : Int) < n := by simpa using h
                           omega
  refine ⟨fun _ i w' => ∃ j : Nat, i = (j : Int) ∧ j ≤ n ∧ (∀ t ∈ ts.take j, t.2.length ≤ 20) ∧ w' = w, fun _ i _ => (n - i).toNat, ⟨0, rfl, by omega, by simp, rfl⟩, ?_⟩
  rintro x _ w1 ⟨j, rfl, hj, hall, hw⟩
  subst w1
  refine ⟨fun hlt => ?_, fun hge => ?_⟩
  · have hlt' : j < n := by simpa using hlt
    obtain ⟨t, hx⟩ := get_of (l := ts) (j := j) (by omega)
    obtain ⟨k1, k2, a, q, qn, qc, rfl, ha, hc, hps⟩ := hp.each j _ hx
    have hq := hps.length
    refine ⟨a, rfl, by omega, by omega, q, qn, qc, by simpa using CellsAt.third hc, fun hb => ⟨?_, rfl⟩, fun hb => ?_⟩
    · have hb' : 20 < qn := by have : (20 : Int) < qn := by simpa using hb
                               omega
      symm; rw [decide_eq_true_eq]; exact .inr ⟨t, List.mem_of_getElem? hx, by omega⟩
    · have hb' : ¬ 20 < qn := by have : ¬ (20 : Int) < qn := by simpa using hb
                                 omega
      rw [wr (by omega) (by omega)]
      refine ⟨⟨j + 1, by omega, by omega, ?_, rfl⟩, by simp only []; omega⟩
      rw [take_snoc hx]
      intro z hz
      rcases List.mem_append.1 hz with hz | hz
      · exact hall z hz
      · simp at hz; subst hz; omega
  · have hge' : ¬ j < n := by simpa using hge
    rw [List.take_of_length_le (by omega)] at hall
    refine ⟨?_, rfl⟩
    symm; rw [decide_eq_false_iff_not]
    rintro (hh | ⟨t, ht, hh⟩)
    · omega
    · have := hall t ht; omega

theorem act_cells {w : World} {q : Addr} {a b c d e f : Value} (h : CellsAt w q 0 [a, b, c, d, e, f]) : w.cell? (q.add 1) = some b ∧ w.cell? (q.add 5) = some f := ⟨h.2.1, h.2.2.2.2.2.1⟩

theorem vast_ok {w : World} {S : Nat → Prop} {p : Option Addr} {n c : Nat} {acts : List ActV} (hp : ActsAt w S p n acts) (hn : n ≤ maxLen) :
    Calls Try.prog 23 #[.slice p n c] w fun e w' => ∃ r : Bool, e = .returned (.bool r) ∧ (r = decide (vastA acts) ∧ w' = w) := by
  have hl := hp.length
  simp only [maxLen] at hn
  refine go_pomanderlaw12_vast _ _ _ _ _ ?_
  unfold W_pomanderlaw12_vast
  refine ⟨fun h => ⟨?_, rfl⟩, fun h => ?_⟩
  · have h' : 30 < n := by have : (30 : Int) < n := by simpa using h
                           omega
    symm; rw [decide_eq_true_eq]; exact .inl (by omega)
  have h' : ¬ 30 < n := by have : ¬ (30 : Int) < n := by simpa using h
                           omega
  refine ⟨fun _ i w' => ∃ j : Nat, i = (j : Int) ∧ j ≤ n ∧ (∀ a ∈ acts.take j, ¬ ((200 < a.n ∧ a.n ≤ 65536) ∨ broadT a.ts)) ∧ w' = w, fun _ i _ => (n - i).toNat, ⟨0, rfl, by omega, by simp, rfl⟩, ?_⟩
  rintro x _ w1 ⟨j, rfl, hj, hall, hw⟩
  subst w1
  refine ⟨fun hlt => ?_, fun hge => ?_⟩
  · have hlt' : j < n := by simpa using hlt
    obtain ⟨t, hx⟩ := get_of (l := acts) (j := j) (by omega)
    obtain ⟨b, q, qn, qc, rfl, hb, hc, hA⟩ := hp.each j _ hx
    obtain ⟨hc1, hc5⟩ := act_cells hc
    refine ⟨b, rfl, by omega, by omega, t.n, by simpa using hc1, fun b1 w' => w' = w ∧ b1 = decide (200 < t.n ∧ t.n ≤ 65536), ?_, fun hh => ⟨rfl, ?_⟩, fun hh => ⟨rfl, ?_⟩⟩
    rotate_left
    · have hh' : 200 < t.n := by simpa using hh
      exact decide_eq_decide.2 ⟨fun h => ⟨hh', h⟩, And.right⟩
    · have hh' : ¬ 200 < t.n := by simpa using hh
      symm; rw [decide_eq_false_iff_not]; exact fun h => hh' h.1
    rintro b1 w2 ⟨hw, rfl⟩
    subst w2
    refine ⟨fun b2 w' => w' = w ∧ b2 = decide ((200 < t.n ∧ t.n ≤ 65536) ∨ broadT t.ts), ?_, fun hh => ?_, fun hh => ⟨rfl, ?_⟩⟩
    rotate_left
    · rw [decide_eq_false_iff_not] at hh
      refine ⟨q, qn, qc, by simpa using hc5, ?_⟩
      refine (broad12 (c := qc) hA.ts hA.qn).mono ?_
      rintro _ w4 ⟨_, rfl, rfl, hw⟩
      exact ⟨_, rfl, hw, decide_eq_decide.2 ⟨.inr, fun h => h.resolve_left hh⟩⟩
    · rw [decide_eq_true_eq] at hh
      symm; rw [decide_eq_true_eq]; exact .inl hh
    rintro b2 w3 ⟨hw, rfl⟩
    subst w3
    refine ⟨fun hh => ⟨?_, rfl⟩, fun hh => ?_⟩
    · rw [decide_eq_true_eq] at hh
      symm; rw [decide_eq_true_eq]; exact .inr ⟨t, List.mem_of_getElem? hx, hh⟩
    · rw [decide_eq_false_iff_not] at hh
      rw [wr (by omega) (by omega)]
      refine ⟨⟨j + 1, by omega, by omega, ?_, rfl⟩, by simp only []; omega⟩
      rw [take_snoc hx]
      intro z hz
      rcases List.mem_append.1 hz with hz | hz
      · exact hall z hz
      · simp at hz; subst hz; exact hh
  · have hge' : ¬ j < n := by simpa using hge
    rw [List.take_of_length_le (by omega)] at hall
    refine ⟨?_, rfl⟩
    symm; rw [decide_eq_false_iff_not]
    rintro (hh | ⟨t, ht, hh⟩)
    · omega
    · exact hall t ht hh

theorem known12 (w : World) : Calls Try.prog 24 #[] w fun e w' => ∃ r : Bool, e = .returned (.bool r) ∧ (r = true ∧ Chg [] w w') := by
  refine go_pomanderlaw12_known _ _ ?_
  unfold W_pomanderlaw12_known
  refine (flow_new w 1 1 4).mono ?_
  rintro _ w1 ⟨r2, r3, rfl, c1, hr⟩
  rw [if_pos (by unfold rightP; decide)] at hr
  obtain ⟨rfl, b, fp, rfl, hF, hfp⟩ := hr
  refine ⟨_, _, rfl, ?_⟩
  intro b2 b1 w5 l2 l1 c5
  have hlt := hF.lt
  have s1 := c1.size
  have s5 := c5.size
  refine (flow_mark (hF.chg c5 (by simp)) (p1 := 13) (p2 := 0) (n := 2) (set := 1) (by unfold i64s; omega) (by omega)).mono ?_
  rintro _ w6 ⟨_, rfl, rfl, fp6, hF6, c6, hf6⟩
  have s6 := c6.size
  have hlt6 := hF6.lt
  refine ⟨_, rfl, Same.of c6 (by simp; exact ⟨⟨by omega, fun hm => by have := hlt _ hm; omega⟩, by omega, fun hm => by have := hlt _ hm; omega⟩), ?_⟩
  refine v_alloc fun b3 w7 e3 h3 c7 => ?_
  refine v_alloc fun b4 w8 e4 h4 c8 => ?_
  have s7 := c7.size
  have s8 := c8.size
  have hT : TouchesAt w8 (fun i => i = b3 ∨ i = b4) (some (⟨b4, 0, none⟩ : Addr)) 1 [((1, 1), [(13, 0)])] := touches_one (p := (13, 0)) (to := (1, 1)) (c8.obj (by simp) h3) h4 (by unfold i64s; simp) (by unfold i64s; simp)
  have hF8 := (hF6.chg c7 (by simp)).chg c8 (by simp)
  refine (flow_apply (c := 1) hF8 hT (fun i hi => by
    have := hlt6 i hi
    rintro (rfl | rfl) <;> omega) (by omega) (by simp)).mono ?_
  rintro _ w9 ⟨_, rfl, rfl, fp9, hF9, c9, hf9⟩
  refine ⟨_, rfl, Same.of c9 (by simp; exact ⟨by omega, fun hm => by
    rcases hf6 _ hm with h | h
    · have := hlt _ h; omega
    · omega⟩), ?_⟩
  refine (flow_Get hF9 (p1 := 1) (p2 := 1) (by unfold i64s; omega)).mono ?_
  rintro _ w10 ⟨r6, r7, rfl, hr⟩
  obtain ⟨hr1, hr2⟩ := hr
  have key : (applyF (markF (flowNew 1 1 4) (13, 0) 2 1) [((1, 1), [(13, 0)])]).g (1, 1) = 1 ∧ applyE (markF (flowNew 1 1 4) (13, 0) 2 1) [((1, 1), [(13, 0)])] = 0 ∧ markE (flowNew 1 1 4) (13, 0) 2 1 = 0 ∧ (applyF (markF (flowNew 1 1 4) (13, 0) 2 1) [((1, 1), [(13, 0)])]).fr = 1 ∧ (applyF (markF (flowNew 1 1 4) (13, 0) 2 1) [((1, 1), [(13, 0)])]).se = 1 := by
    decide +kernel
  obtain ⟨k1, k2, k3, k4, k5⟩ := key
  rw [k4, k5, if_pos (by decide)] at hr2
  refine ⟨_, _, rfl, ?_, ?_⟩
  · rw [k2, k3, hr2.1, hr2.2, k1]; rfl
  · have c06 : Chg [] w w6 := (c1.trans0 c5).trans c6 (fun i hi hlt' => by have := hfp i hi; omega)
    refine ((c06.trans0 c7).trans0 c8).trans c9 (fun i hi hlt' => ?_) |>.trans0 hr1
    rcases hf6 _ hi with h | h
    · have := hfp _ h; omega
    · omega
end Go.Proofs.Ytkfncibmfcdokaa
end

/- XOpen4 -/
section
/- Arguments that came in, opened: acts on flows. -/
set_option linter.unusedVariables false
set_option linter.unusedSimpArgs false
namespace Go.Proofs.Ytkfncibmfcdokaa
open Go Go.RowKit Go.X Go.ChangeShapes Go.WideShapes Go.ChangeAt
theorem len6 {α : Type} {l : List α} (h : l.length = 6) : ∃ a b c d e f, l = [a, b, c, d, e, f] := by
  match l, h with
  | [a, b, c, d, e, f], _ => exact ⟨a, b, c, d, e, f, rfl⟩
section
variable {H : Type} {enc : TypeId × Value → H} {w : World} {base : Nat} {spare : Nat → Bool} {held : Bool} {fuel : Nat} {cs : List Value} {x : DataW H × List MemPlace}
theorem cells25 : Try.prog.cellsOf 25 = 1 := by kernel_rfl
theorem open_act (h : DataW.trod enc Try.prog w base spare held fuel 58 cs = some x) : ∃ (a : ActV) (q : Option Addr) (qn qc : Nat), cs = [.int .i64 a.kind, .int .i64 a.n, .int .i64 a.p.1, .int .i64 a.p.2, .int .u32 a.set, .slice q qn qc] ∧ ActAt w (oldS w) q qn qc a := by
  obtain ⟨xs, n, _, _, hl, hlen, hf⟩ := DataW.trod_struct Try.underlying58 h
  have h0 : DataW.trod enc Try.prog w base spare held n 3 ((cs.drop 0).take (Try.prog.cellsOf 3)) = xs[0]? := hf 0 _ rfl
  have h1 : DataW.trod enc Try.prog w base spare held n 3 ((cs.drop 1).take (Try.prog.cellsOf 3)) = xs[1]? := hf 1 _ rfl
  have h2 : DataW.trod enc Try.prog w base spare held n 56 ((cs.drop 2).take (Try.prog.cellsOf 56)) = xs[2]? := hf 2 _ rfl
  have h3 : DataW.trod enc Try.prog w base spare held n 22 ((cs.drop 4).take (Try.prog.cellsOf 22)) = xs[3]? := hf 3 _ rfl
  have h4 : DataW.trod enc Try.prog w base spare held n 25 ((cs.drop 5).take (Try.prog.cellsOf 25)) = xs[4]? := hf 4 _ rfl
  simp only [cells3, cells56, cells22, cells25] at h0 h1 h2 h3 h4
  rw [show Try.prog.cellsOf 58 = 6 by kernel_rfl] at hl
  rw [List.getElem?_eq_getElem (by rw [hlen]; decide)] at h0 h1 h2 h3 h4
  obtain ⟨k, e0, _, w0⟩ := DataW.trod_int un3 h0
  obtain ⟨m, e1, _, w1⟩ := DataW.trod_int un3 h1
  obtain ⟨p, e2, k1, k2⟩ := open_place h2
  obtain ⟨st, e3, _, w3⟩ := DataW.trod_int un22 h3
  obtain ⟨q, qn, qc, ts, e4, hq, hT, hTin⟩ := open_touches h4
  obtain ⟨c0, c1, c2, c3, c4, c5, rfl⟩ := len6 hl
  simp at e0 e1 e2 e3 e4
  obtain ⟨rfl, rfl⟩ := e2
  subst e0 e1 e3 e4
  exact ⟨⟨k, m, p, st, ts⟩, q, qn, qc, rfl, ⟨k1, k2⟩, wf_u32 w3, wf_i64 w1, hT, hq, hTin⟩
theorem open_acts (h : DataW.trod enc Try.prog w base spare held fuel 46 cs = some x) : ∃ p n c acts, cs = [.slice p n c] ∧ n ≤ maxLen ∧ ActsAt w (oldS w) p n acts := by
  obtain ⟨p, n, c, rfl, hn, hel⟩ := open_slice Try.underlying46 h
  obtain ⟨l, hl, hq⟩ := list_of (Q := fun j (a : ActV) => ∃ b q qn qc, p = some b ∧ oldS w b.block ∧ CellsAt w (b.add (j * 6)) 0 [.int .i64 a.kind, .int .i64 a.n, .int .i64 a.p.1, .int .i64 a.p.2, .int .u32 a.set, .slice q qn qc] ∧ ActAt w (oldS w) q qn qc a) (n := n) (fun i hi => by
    obtain ⟨a, cs', m, y, ha, hc, _, hy⟩ := hel i hi
    obtain ⟨v, q, qn, qc, rfl, hv⟩ := open_act hy
    rw [show Try.prog.cellsOf 58 = 6 by kernel_rfl] at hc
    exact ⟨v, a, q, qn, qc, ha, by have := cellsAt_lt hc; rwa [add_block] at this, hc, hv⟩)
  exact ⟨p, n, c, l, rfl, hn, hl, hq⟩
end
end Go.Proofs.Ytkfncibmfcdokaa
end

/- XStep -/
section
/- What every row's step needs. -/
set_option linter.unusedVariables false
namespace Go.Proofs.Ytkfncibmfcdokaa
open Go Go.RowKit Go.X
theorem ownX : ownKnob Try.prog.godebug = none := by kernel_rfl
theorem laidOutX : laidOutB Try.prog = true := by kernel_rfl
end Go.Proofs.Ytkfncibmfcdokaa
end

/- XHless -/
section
set_option linter.unusedVariables false
set_option linter.unusedSimpArgs false
namespace Go.Proofs.Ytkfncibmfcdokaa
open Go Go.X

/- pomander/pomanderlaw12.FlowLess -/
def W_pomanderlaw12_FlowLess (l1 : Option Addr) (l1n : Nat) (l1c : Nat) (label1 : Int) (w : World) (R : Bool → World → Prop) : Prop :=
  ∀ (b1 : Nat) (w1 : World), (w.heap.size ≤ b1 ∧ b1 < w1.heap.size) → Chg [] w w1 → (Calls Try.prog 23 #[.slice l1 l1n l1c] w1 fun e w2 => ∃ (r2 : Bool), e = .returned (.bool r2) ∧ (Same w1 w2 [b1] ∧ ((((r2 || decide (label1 < 0)) || decide (label1 ≥ 16)) = true → Calls Try.prog 24 #[] w2 fun e w3 => ∃ (r3 : Bool), e = .returned (.bool r3) ∧ (Same w2 w3 [b1] ∧ (∀ (w4 : World), Chg [b1] w3 w4 → (R r3 w4)))) ∧ (((r2 || decide (label1 < 0)) || decide (label1 ≥ 16)) = false → ∀ (b2 : Nat) (w6 : World), (w2.heap.size ≤ b2 ∧ b2 < w6.heap.size) → Chg [] w2 w6 → (Calls Try.prog 25 #[.agg #[.int .i64 2, .int .i64 2], .int .i64 65536] w6 fun e w7 => ∃ (r4 : Option Addr) (r5 : Int), e = .returned (.tuple #[.pointer r4, .int .i64 r5]) ∧ (Same w6 w7 [b2, b1] ∧ (∀ (b3 : Nat) (w9 : World), (w7.heap.size ≤ b3 ∧ b3 < w9.heap.size) → Chg [] w7 w9 → (Calls Try.prog 25 #[.agg #[.int .i64 2, .int .i64 2], .int .i64 65536] w9 fun e w10 => ∃ (r6 : Option Addr) (r7 : Int), e = .returned (.tuple #[.pointer r6, .int .i64 r7]) ∧ (Same w9 w10 [b3, b1] ∧ (∃ (t1 : Int), (∀ w : World, ((do eqGuard .shl 22 (.const (.int .u32 1)) (.tmp 46) (.int .u32 1) (.int .u64 (IntKind.wrap .u64 label1)); binOp .shl 22 (.int .u32 1) (.int .u64 (IntKind.wrap .u64 label1)) : Sem Value)).run Try.prog w = .ok (.int .u32 t1) w) ∧ (∀ (b5 b4 : Nat) (w14 : World), (w10.heap.size ≤ b5 ∧ b5 < w14.heap.size) → (w10.heap.size ≤ b4 ∧ b4 < w14.heap.size) → Chg [] w10 w14 → (∃ (I1 : Int → World → Prop) (m1 : Int → World → Nat), I1 0 w14 ∧ ∀ (i1 : Int) (w15 : World), I1 i1 w15 → ((decide (i1 < (l1n : Int))) = true → ∃ J1 : Int → Int → World → Prop, (∀ (ev1 : Int) (hv1 : Int) (w16 : World), J1 ev1 hv1 w16 → ((!(ev1 == hv1)) = true → ∀ (w17 : World), Chg [b1] w16 w17 → (R false w17)) ∧ ((!(ev1 == hv1)) = false → (I1 (IntKind.wrap .i64 (i1 + 1)) w16 ∧ m1 (IntKind.wrap .i64 (i1 + 1)) w16 < m1 i1 w15))) ∧ (∃ a1 : Addr, l1 = some a1 ∧ (0 : Int) ≤ i1 ∧ i1 < (l1n : Int) ∧ (∃ (t2 : Int), w15.cell? (a1.add (Int.toNat i1 * 6)) = some (.int .i64 t2) ∧ (((t2 == 1) = true → ∃ (t3 : Int), w15.cell? ((a1.add (Int.toNat i1 * 6)).add 4) = some (.int .u32 t3) ∧ (∀ (w18 : World), Chg [] w15 w18 → (∃ (t4 : Int) (t5 : Int), CellsAt w18 ((a1.add (Int.toNat i1 * 6)).add 2) 0 [.int .i64 t4, .int .i64 t5] ∧ (∃ (t6 : Int), w18.cell? ((a1.add (Int.toNat i1 * 6)).add 1) = some (.int .i64 t6) ∧ (Calls Try.prog 36 #[.pointer r4, .agg #[.int .i64 t4, .int .i64 t5], .int .i64 t6, .int .u32 t3] w18 fun e w19 => ∃ (r8 : Int), e = .returned (.int .i64 r8) ∧ (Same w18 w19 [b1, b3, b4, b5] ∧ (∀ (w20 : World), Chg [] w19 w20 → (∃ (t7 : Int) (t8 : Int), CellsAt w20 ((a1.add (Int.toNat i1 * 6)).add 2) 0 [.int .i64 t7, .int .i64 t8] ∧ (∃ (t9 : Int), w20.cell? ((a1.add (Int.toNat i1 * 6)).add 1) = some (.int .i64 t9) ∧ (Calls Try.prog 36 #[.pointer r6, .agg #[.int .i64 t7, .int .i64 t8], .int .i64 t9, .int .u32 (bits .andNot .u32 t3 t1)] w20 fun e w21 => ∃ (r9 : Int), e = .returned (.int .i64 r9) ∧ (Same w20 w21 [b1, b3, b4, b5] ∧ (J1 r8 r9 w21)))))))))))) ∧ ((t2 == 1) = false → ∀ (w22 : World), Chg [] w15 w22 → (∃ (t10 : Option Addr) (t10n : Nat) (t10c : Nat), w22.cell? ((a1.add (Int.toNat i1 * 6)).add 5) = some (.slice t10 t10n t10c) ∧ (Calls Try.prog 38 #[.pointer r4, .slice t10 t10n t10c] w22 fun e w23 => ∃ (r10 : Int), e = .returned (.int .i64 r10) ∧ (Same w22 w23 [b1, b3, b4, b5] ∧ (∀ (w24 : World), Chg [] w23 w24 → (∃ (t11 : Option Addr) (t11n : Nat) (t11c : Nat), w24.cell? ((a1.add (Int.toNat i1 * 6)).add 5) = some (.slice t11 t11n t11c) ∧ (Calls Try.prog 38 #[.pointer r6, .slice t11 t11n t11c] w24 fun e w25 => ∃ (r11 : Int), e = .returned (.int .i64 r11) ∧ (Same w24 w25 [b1, b3, b4, b5] ∧ (J1 r10 r11 w25))))))))))))) ∧ ((decide (i1 < (l1n : Int))) = false → Calls Try.prog 62 #[.pointer r4] w15 fun e w26 => ∃ (r12 : Value), e = .returned (r12) ∧ (Same w15 w26 [b1, b3, b4, b5] ∧ (∃ (t12 : Bool), (∀ w : World, ((do eqGuard .eql 130 (.tmp 111) (.const (.nilFunc)) (r12) (.nilFunc); binOp .eql 130 (r12) (.nilFunc) : Sem Value)).run Try.prog w = .ok (.bool t12) w) ∧ ((t12 = true → ∀ (w27 : World), Chg [b1] w26 w27 → (R false w27)) ∧ (t12 = false → Calls Try.prog 62 #[.pointer r4] w26 fun e w28 => ∃ (r13 : Value), e = .returned (r13) ∧ (Same w26 w28 [b1, b3, b4, b5] ∧ (∃ (S1 Sp1 : List (Int × Int × Int) → Prop) (keep1 : List Nat), XR.IsFn Try.prog r13 ∧ XR.Iterates Try.prog r13 (fun x : Int × Int × Int => #[.agg #[.int .i64 x.1, .int .i64 x.2.1], .int .u32 x.2.2]) S1 Sp1 keep1 w28 ∧ (∀ i_ ∈ keep1, i_ < w28.heap.size) ∧ ∃ (I2 : List Nat → List (Int × Int × Int) → World → Prop) (X1 : Bool → List Nat → List (Int × Int × Int) → World → Prop), (∀ (pre_ : List (Int × Int × Int)), XR.Stab w28 (fun O_ w_ => I2 O_ pre_ w_)) ∧ (∀ (c1 : Bool) (pre_ : List (Int × Int × Int)), XR.Stab w28 (fun O_ w_ => X1 c1 O_ pre_ w_)) ∧ (∀ (O1 : List Nat) (w29 : World), Chg [] w28 w29 → XR.InO w28 O1 w29 → I2 O1 ([]) w29) ∧ (∀ (l2 : Nat) (O1 : List Nat) (pre1 : List (Int × Int × Int)) (x1 : Int) (x2 : Int) (x3 : Int) (w29 : World), XR.InO w28 O1 w29 → l2 ∈ O1 → Sp1 (pre1 ++ [(x1, x2, x3)]) → I2 O1 pre1 w29 → (∀ (b6 : Nat) (w32 : World), (w29.heap.size ≤ b6 ∧ b6 < w32.heap.size) → Chg [l2] w29 w32 → (Calls Try.prog 28 #[.pointer r6, .agg #[.int .i64 x1, .int .i64 x2]] w32 fun e w33 => ∃ (r14 : Int) (r15 : Int), e = .returned (.tuple #[.int .u32 r14, .int .i64 r15]) ∧ (Same w32 w33 [b1, b3, b4, b5] ∧ (∃ J2 : Bool → World → Prop, (∀ (b7 : Bool) (w34 : World), J2 b7 w34 → (b7 = true → ∀ (w35 : World), Chg [b1] w34 w35 → ((w32.heap.size ≤ w35.heap.size ∧ X1 false O1 (pre1 ++ [(x1, x2, x3)]) w35 ∧ Same w32 w35 (keep1 ++ O1)))) ∧ (b7 = false → (w32.heap.size ≤ w34.heap.size ∧ I2 O1 (pre1 ++ [(x1, x2, x3)]) w34 ∧ Same w32 w34 (keep1 ++ O1)))) ∧ (((!(r15 == 0)) = false → J2 (!(r14 == (bits .andNot .u32 x3 t1))) w33) ∧ ((!(r15 == 0)) = true → J2 true w33))))))) ∧ (∀ (d1 : Nat) (O2 : List Nat) (xs1 : List (Int × Int × Int)) (w36 : World), XR.InO w28 O2 w36 → d1 ∈ O2 → S1 xs1 → I2 O2 xs1 w36 → (Calls Try.prog 62 #[.pointer r6] w36 fun e w37 => ∃ (r16 : Value), e = .returned (r16) ∧ (Same w36 w37 [b1, b3, b5, d1] ∧ (∃ (S2 Sp2 : List (Int × Int × Int) → Prop) (keep2 : List Nat), XR.IsFn Try.prog r16 ∧ XR.Iterates Try.prog r16 (fun x : Int × Int × Int => #[.agg #[.int .i64 x.1, .int .i64 x.2.1], .int .u32 x.2.2]) S2 Sp2 keep2 w37 ∧ (∀ i_ ∈ keep2, i_ < w37.heap.size) ∧ ∃ (I3 : List Nat → List (Int × Int × Int) → World → Prop) (X2 : Bool → List Nat → List (Int × Int × Int) → World → Prop), (∀ (pre_ : List (Int × Int × Int)), XR.Stab w37 (fun O_ w_ => I3 O_ pre_ w_)) ∧ (∀ (c2 : Bool) (pre_ : List (Int × Int × Int)), XR.Stab w37 (fun O_ w_ => X2 c2 O_ pre_ w_)) ∧ (∀ (O3 : List Nat) (w38 : World), Chg [] w37 w38 → XR.InO w37 O3 w38 → I3 O3 ([]) w38) ∧ (∀ (l3 : Nat) (O3 : List Nat) (pre2 : List (Int × Int × Int)) (x4 : Int) (x5 : Int) (x6 : Int) (w38 : World), XR.InO w37 O3 w38 → l3 ∈ O3 → Sp2 (pre2 ++ [(x4, x5, x6)]) → I3 O3 pre2 w38 → (∀ (b8 : Nat) (w41 : World), (w38.heap.size ≤ b8 ∧ b8 < w41.heap.size) → Chg [l3] w38 w41 → (Calls Try.prog 28 #[.pointer r4, .agg #[.int .i64 x4, .int .i64 x5]] w41 fun e w42 => ∃ (r17 : Int) (r18 : Int), e = .returned (.tuple #[.int .u32 r17, .int .i64 r18]) ∧ (Same w41 w42 [b1, b3, b5, d1] ∧ (∃ J3 : Bool → World → Prop, (∀ (b9 : Bool) (w43 : World), J3 b9 w43 → (b9 = true → ∀ (w44 : World), Chg [b1] w43 w44 → ((w41.heap.size ≤ w44.heap.size ∧ X2 false O3 (pre2 ++ [(x4, x5, x6)]) w44 ∧ Same w41 w44 (keep2 ++ O3)))) ∧ (b9 = false → (w41.heap.size ≤ w43.heap.size ∧ I3 O3 (pre2 ++ [(x4, x5, x6)]) w43 ∧ Same w41 w43 (keep2 ++ O3)))) ∧ (((!(r18 == 0)) = false → J3 (!((bits .andNot .u32 r17 t1) == x6)) w42) ∧ ((!(r18 == 0)) = true → J3 true w42))))))) ∧ (∀ (d2 : Nat) (O4 : List Nat) (xs2 : List (Int × Int × Int)) (w45 : World), XR.InO w37 O4 w45 → d2 ∈ O4 → S2 xs2 → I3 O4 xs2 w45 → (Calls Try.prog 24 #[] w45 fun e w46 => ∃ (r19 : Bool), e = .returned (.bool r19) ∧ (Same w45 w46 [b1, d2, d1] ∧ (∀ (w47 : World), Chg [b1] w46 w47 → (∀ w48 : World, Chg [d2, d1] w47 w48 → (R r19 w48)))))) ∧ (∀ (d3 : Nat) (O5 : List Nat) (xs3 : List (Int × Int × Int)) (c2 : Bool) (w49 : World), XR.InO w37 O5 w49 → d3 ∈ O5 → Sp2 xs3 → X2 c2 O5 xs3 w49 → (∀ w50 : World, Chg [d3, d1] w49 w50 → (R c2 w50))))))) ∧ (∀ (d4 : Nat) (O6 : List Nat) (xs4 : List (Int × Int × Int)) (c1 : Bool) (w51 : World), XR.InO w28 O6 w51 → d4 ∈ O6 → Sp1 xs4 → X1 c1 O6 xs4 w51 → (∀ w52 : World, Chg [d4] w51 w52 → (R c1 w52))))))))))))))))))))))
set_option maxRecDepth 100000 in
theorem go_pomanderlaw12_FlowLess (l1 : Option Addr) (l1n : Nat) (l1c : Nat) (label1 : Int) (w : World) (R : Bool → World → Prop) (h : W_pomanderlaw12_FlowLess l1 l1n l1c label1 w R) : Calls Try.prog 16 #[.slice l1 l1n l1c, .int .i64 label1] w (fun e w' => ∃ (r1 : Bool), e = .returned (.bool r1) ∧ R r1 w') := by
  unfold W_pomanderlaw12_FlowLess at h
  refine XR.enterM (N := 152) Try.func16 rfl rfl ?_
  refine CW.seq ?_
  refine CW.region fun L hL => ?_
  obtain ⟨b1, hb_b1⟩ : ∃ b1, b1 = World.size w := ⟨_, rfl⟩
  obtain ⟨w1, hw_w1⟩ : ∃ w1, w1 = World.alloc w (.cells #[.bool false] 4) := ⟨_, rfl⟩
  refine LW.val hL rfl (Wants.free rfl) rfl (boxE hb_b1 hw_w1 (Vl.alloc (z := .bool false) (by kernel_rfl))) ?_
  have hB := Boxes.alloc (cs := [.bool false]) (T := 4) (Boxes.nil w) hb_b1 hw_w1
  have hlo_b1 := sil_lo (Chg.refl [] w) hb_b1
  have hc_w1 := sil_alloc (Chg.refl [] w) hw_w1
  refine LW.nil hL rfl ?_
  refine NW.then ?_
  refine CW.seq ?_
  refine CW.seq ?_
  refine CW.region fun L hL => ?_
  refine LW.rd hL rfl (Wants.free rfl) rfl (Rd.move (v := .slice l1 l1n l1c) rfl) ?_
  replace h := h b1 w1 ⟨hlo_b1, lt_of_heap (hB.at (i := 0) rfl)⟩ hc_w1
  refine LW.call hL rfl (Wants.free rfl) rfl (Cl.fn (f := 23) rfl Try.func23 (by kernel_rfl) rfl) h (fun e w2 h_ => ?_)
  clear h
  obtain ⟨r2, rfl, h⟩ := h_
  obtain ⟨hsm1, h⟩ := h
  replace hB := Boxes.sameS hB hsm1 (by simp)
  refine ⟨_, rfl, ?_⟩
  refine LW.rd hL rfl (Wants.free rfl) rfl (Rd.move (v := .bool r2) rfl) ?_
  suffices K1 : L 6 [(0, .slice l1 l1n l1c), (1, .int .i64 label1), (4, .pointer (some (⟨b1, 0, none⟩ : Addr))), (28, .bool (r2 || decide (label1 < 0)))] w2 by
    rcases Bool.eq_false_or_eq_true r2 with hb2 | hb2
    · skip
      refine LW.skip hL rfl (Skips.on rfl rfl rfl rfl rfl hb2) rfl ?_
      refine LW.skip hL rfl (Skips.on rfl rfl rfl rfl rfl hb2) rfl ?_
      refine LW.rd hL rfl (Wants.free rfl) rfl (Rd.pickT rfl hb2 rfl) ?_
      exact LW.sub hL (by exact ⟨rfl, rfl, rfl, (by rw [hb2]; rfl), trivial⟩) K1
    · skip
      refine LW.rd hL rfl (Wants.on rfl rfl rfl rfl rfl hb2) rfl (Rd.move (v := .int .i64 label1) rfl) ?_
      refine LW.rd hL rfl (Wants.on rfl rfl rfl rfl rfl hb2) rfl (Rd.bin (v := .bool (decide (label1 < 0))) rfl rfl (fun w => by kernel_rfl)) ?_
      refine LW.rd hL rfl (Wants.free rfl) rfl (Rd.pickF rfl hb2 rfl) ?_
      exact LW.sub hL (by exact ⟨rfl, rfl, rfl, (by rw [hb2]; rfl), trivial⟩) K1
  refine LW.rd hL rfl (Wants.free rfl) rfl (Rd.move (v := .bool (r2 || decide (label1 < 0))) rfl) ?_
  suffices K2 : L 10 [(0, .slice l1 l1n l1c), (1, .int .i64 label1), (4, .pointer (some (⟨b1, 0, none⟩ : Addr))), (32, .bool ((r2 || decide (label1 < 0)) || decide (label1 ≥ 16)))] w2 by
    rcases Bool.eq_false_or_eq_true (r2 || decide (label1 < 0)) with hb4 | hb4
    · skip
      refine LW.skip hL rfl (Skips.on rfl rfl rfl rfl rfl hb4) rfl ?_
      refine LW.skip hL rfl (Skips.on rfl rfl rfl rfl rfl hb4) rfl ?_
      refine LW.rd hL rfl (Wants.free rfl) rfl (Rd.pickT rfl hb4 rfl) ?_
      exact LW.sub hL (by exact ⟨rfl, rfl, rfl, (by rw [hb4]; rfl), trivial⟩) K2
    · skip
      refine LW.rd hL rfl (Wants.on rfl rfl rfl rfl rfl hb4) rfl (Rd.move (v := .int .i64 label1) rfl) ?_
      refine LW.rd hL rfl (Wants.on rfl rfl rfl rfl rfl hb4) rfl (Rd.bin (v := .bool (decide (label1 ≥ 16))) rfl rfl (fun w => by kernel_rfl)) ?_
      refine LW.rd hL rfl (Wants.free rfl) rfl (Rd.pickF rfl hb4 rfl) ?_
      exact LW.sub hL (by exact ⟨rfl, rfl, rfl, (by rw [hb4]; rfl), trivial⟩) K2
  refine LW.nil hL rfl ?_
  refine NW.then ?_
  refine CW.cond rfl (fun hb5 => ?_) (fun hb5 => ?_)
  · replace h := h.1 hb5
    refine CW.seq ?_
    refine CW.region fun L hL => ?_
    refine LW.call hL rfl (Wants.free rfl) rfl (Cl.fn (f := 24) rfl Try.func24 (by kernel_rfl) rfl) h (fun e w3 h_ => ?_)
    clear h
    obtain ⟨r3, rfl, h⟩ := h_
    obtain ⟨hsm2, h⟩ := h
    replace hB := Boxes.sameS hB hsm2 (by simp)
    refine ⟨_, rfl, ?_⟩
    obtain ⟨w4, hw_w4⟩ : ∃ x, x = World.setCell w3 (⟨b1, 0, none⟩ : Addr) (.bool r3) := ⟨_, rfl⟩
    refine LW.eff hL rfl (Wants.free rfl) rfl (stE hw_w4 (Ef.st rfl rfl rfl (by kernel_rfl) (box_cell (v := .bool false) (hB.at (i := 0) rfl) rfl) (free_of (hB.at (i := 0) rfl) 0))) ?_
    replace hB : Boxes w4 [(b1, [.bool r3], 4)] := Boxes.store1  (i := 0) (o := 0) hB rfl rfl rfl rfl hw_w4
    have hc_w4 : Chg [b1] w3 w4 := sil_more (Chg.refl [] w3) (sil_c1 hw_w4)
    refine LW.nil hL rfl ?_
    refine NW.then ?_
    replace h := h  w4  hc_w4
    refine CW.ret ?_
    refine RW.then ?_
    exact XR.res0M (vs := [.bool r3]) (by exact (ResOK.c rfl (lv1 (by kernel_rfl) (box_cell (Boxes.at (i := 0) hB rfl) rfl)) ResOK.nil)) rfl ⟨r3, rfl, h⟩
  · replace h := h.2 hb5
    refine CW.skip ?_
    refine NW.then ?_
    refine CW.seq ?_
    refine CW.region fun L hL => ?_
    refine LW.rd hL rfl (Wants.free rfl) rfl (Rd.build (v := .agg #[.int .i64 2, .int .i64 2]) rfl (fun _ => by kernel_rfl)) ?_
    obtain ⟨b2, hb_b2⟩ : ∃ b2, b2 = World.size w2 := ⟨_, rfl⟩
    obtain ⟨w5, hw_w5⟩ : ∃ w5, w5 = World.alloc w2 (.cells #[.int .i64 0, .int .i64 0] 30) := ⟨_, rfl⟩
    refine LW.val hL rfl (Wants.free rfl) rfl (boxE hb_b2 hw_w5 (Vl.alloc (z := .agg #[.int .i64 0, .int .i64 0]) (by kernel_rfl))) ?_
    replace hB := Boxes.alloc (cs := [.int .i64 0, .int .i64 0]) (T := 30) hB hb_b2 hw_w5
    have hlo_b2 := sil_lo (Chg.refl [] w2) hb_b2
    have hc_w5 := sil_alloc (Chg.refl [] w2) hw_w5
    obtain ⟨w6, hw_w6⟩ : ∃ x, x = setCells w5 (⟨b2, 0, none⟩ : Addr) 0 [.int .i64 2, .int .i64 2] := ⟨_, rfl⟩
    refine LW.eff hL rfl (Wants.free rfl) rfl (stNE hw_w6 (Ef.stN (cs := [.int .i64 2, .int .i64 2]) rfl rfl (by kernel_rfl) (List.forall_mem_cons.2 ⟨rfl, (List.forall_mem_cons.2 ⟨rfl, (List.forall_mem_nil _)⟩)⟩) (has_of (hB.at (i := 0) rfl) (by simp)) (free_of' (hB.at (i := 0) rfl)))) ?_
    replace hB : Boxes w6 [(b2, [.int .i64 2, .int .i64 2], 30), (b1, [.bool false], 4)] := Boxes.store (vs := [.int .i64 2, .int .i64 2]) (i := 0) (o := 0) hB rfl rfl rfl rfl hw_w6
    have hc_w6 := sil_new hc_w5 (sil_cN hw_w6) hlo_b2
    refine LW.nil hL rfl ?_
    refine NW.then ?_
    refine CW.seq ?_
    refine CW.region fun L hL => ?_
    refine LW.rd hL rfl (Wants.free rfl) rfl (Rd.ldN (cs := [.int .i64 2, .int .i64 2]) rfl (by kernel_rfl) (by kernel_rfl) (cellsS (box_cells (hB.at (i := 0) rfl) rfl))) ?_
    replace h := h b2 w6 ⟨hlo_b2, lt_of_heap (hB.at (i := 0) rfl)⟩ hc_w6
    refine LW.call hL rfl (Wants.free rfl) rfl (Cl.fn (f := 25) rfl Try.func25 (by kernel_rfl) rfl) h (fun e w7 h_ => ?_)
    clear h
    obtain ⟨r4, r5, rfl, h⟩ := h_
    obtain ⟨hsm3, h⟩ := h
    replace hB := Boxes.sameS hB hsm3 (by simp)
    refine ⟨_, rfl, ?_⟩
    refine LW.rd hL rfl (Wants.free rfl) rfl (Rd.move (v := .tuple #[.pointer r4, .int .i64 r5]) rfl) ?_
    refine LW.rd hL rfl (Wants.free rfl) rfl (Rd.extract (v := .pointer r4) rfl rfl) ?_
    refine LW.rd hL rfl (Wants.free rfl) rfl (Rd.extract (v := .int .i64 r5) rfl rfl) ?_
    obtain ⟨b3, hb_b3⟩ : ∃ b3, b3 = World.size w7 := ⟨_, rfl⟩
    obtain ⟨w8, hw_w8⟩ : ∃ w8, w8 = World.alloc w7 (.cells #[.pointer none] 28) := ⟨_, rfl⟩
    refine LW.val hL rfl (Wants.free rfl) rfl (boxE hb_b3 hw_w8 (Vl.alloc (z := .pointer none) (by kernel_rfl))) ?_
    replace hB := Boxes.alloc (cs := [.pointer none]) (T := 28) hB hb_b3 hw_w8
    have hlo_b3 := sil_lo (Chg.refl [] w7) hb_b3
    have hc_w8 := sil_alloc (Chg.refl [] w7) hw_w8
    obtain ⟨w9, hw_w9⟩ : ∃ x, x = World.setCell w8 (⟨b3, 0, none⟩ : Addr) (.pointer r4) := ⟨_, rfl⟩
    refine LW.eff hL rfl (Wants.free rfl) rfl (stE hw_w9 (Ef.st rfl rfl rfl (by kernel_rfl) (box_cell (v := .pointer none) (hB.at (i := 0) rfl) rfl) (free_of (hB.at (i := 0) rfl) 0))) ?_
    replace hB : Boxes w9 [(b3, [.pointer r4], 28), (b2, [.int .i64 2, .int .i64 2], 30), (b1, [.bool false], 4)] := Boxes.store1  (i := 0) (o := 0) hB rfl rfl rfl rfl hw_w9
    have hc_w9 := sil_new hc_w8 (sil_c1 hw_w9) hlo_b3
    refine LW.rd hL rfl (Wants.free rfl) rfl (Rd.assign (v := .int .i64 r5) rfl) ?_
    refine LW.nil hL rfl ?_
    refine NW.then ?_
    refine CW.seq ?_
    refine CW.region fun L hL => ?_
    refine LW.rd hL rfl (Wants.free rfl) rfl (Rd.ldN (cs := [.int .i64 2, .int .i64 2]) rfl (by kernel_rfl) (by kernel_rfl) (cellsS (box_cells (hB.at (i := 1) rfl) rfl))) ?_
    replace h := h b3 w9 ⟨hlo_b3, lt_of_heap (hB.at (i := 0) rfl)⟩ hc_w9
    refine LW.call hL rfl (Wants.free rfl) rfl (Cl.fn (f := 25) rfl Try.func25 (by kernel_rfl) rfl) h (fun e w10 h_ => ?_)
    clear h
    obtain ⟨r6, r7, rfl, h⟩ := h_
    obtain ⟨hsm4, h⟩ := h
    replace hB := Boxes.sameS (hB.sel [0, 2] (by decide) rfl) hsm4 (by simp)
    refine ⟨_, rfl, ?_⟩
    refine LW.rd hL rfl (Wants.free rfl) rfl (Rd.move (v := .tuple #[.pointer r6, .int .i64 r7]) rfl) ?_
    refine LW.rd hL rfl (Wants.free rfl) rfl (Rd.extract (v := .pointer r6) rfl rfl) ?_
    refine LW.rd hL rfl (Wants.free rfl) rfl (Rd.extract (v := .int .i64 r7) rfl rfl) ?_
    obtain ⟨b4, hb_b4⟩ : ∃ b4, b4 = World.size w10 := ⟨_, rfl⟩
    obtain ⟨w11, hw_w11⟩ : ∃ w11, w11 = World.alloc w10 (.cells #[.pointer none] 28) := ⟨_, rfl⟩
    refine LW.val hL rfl (Wants.free rfl) rfl (boxE hb_b4 hw_w11 (Vl.alloc (z := .pointer none) (by kernel_rfl))) ?_
    replace hB := Boxes.alloc (cs := [.pointer none]) (T := 28) hB hb_b4 hw_w11
    have hlo_b4 := sil_lo (Chg.refl [] w10) hb_b4
    have hc_w11 := sil_alloc (Chg.refl [] w10) hw_w11
    obtain ⟨w12, hw_w12⟩ : ∃ x, x = World.setCell w11 (⟨b4, 0, none⟩ : Addr) (.pointer r6) := ⟨_, rfl⟩
    refine LW.eff hL rfl (Wants.free rfl) rfl (stE hw_w12 (Ef.st rfl rfl rfl (by kernel_rfl) (box_cell (v := .pointer none) (hB.at (i := 0) rfl) rfl) (free_of (hB.at (i := 0) rfl) 0))) ?_
    replace hB : Boxes w12 [(b4, [.pointer r6], 28), (b3, [.pointer r4], 28), (b1, [.bool false], 4)] := Boxes.store1  (i := 0) (o := 0) hB rfl rfl rfl rfl hw_w12
    have hc_w12 := sil_new hc_w11 (sil_c1 hw_w12) hlo_b4
    refine LW.rd hL rfl (Wants.free rfl) rfl (Rd.assign (v := .int .i64 r7) rfl) ?_
    refine LW.nil hL rfl ?_
    refine NW.then ?_
    refine CW.seq ?_
    refine CW.region fun L hL => ?_
    refine LW.rd hL rfl (Wants.free rfl) rfl (Rd.move (v := .int .i64 label1) rfl) ?_
    refine LW.rd hL rfl (Wants.free rfl) rfl (Rd.conv (v := .int .u64 (IntKind.wrap .u64 label1)) rfl (fun _ => by kernel_rfl)) ?_
    obtain ⟨t1, hx1, h⟩ := h
    refine LW.rd hL rfl (Wants.free rfl) rfl (Rd.bin (v := .int .u32 t1) rfl rfl hx1) ?_
    obtain ⟨b5, hb_b5⟩ : ∃ b5, b5 = World.size w12 := ⟨_, rfl⟩
    obtain ⟨w13, hw_w13⟩ : ∃ w13, w13 = World.alloc w12 (.cells #[.int .u32 0] 22) := ⟨_, rfl⟩
    refine LW.val hL rfl (Wants.free rfl) rfl (boxE hb_b5 hw_w13 (Vl.alloc (z := .int .u32 0) (by kernel_rfl))) ?_
    replace hB := Boxes.alloc (cs := [.int .u32 0]) (T := 22) hB hb_b5 hw_w13
    have hlo_b5 := sil_lo hc_w12 hb_b5
    have hc_w13 := sil_alloc hc_w12 hw_w13
    obtain ⟨w14, hw_w14⟩ : ∃ x, x = World.setCell w13 (⟨b5, 0, none⟩ : Addr) (.int .u32 t1) := ⟨_, rfl⟩
    refine LW.eff hL rfl (Wants.free rfl) rfl (stE hw_w14 (Ef.st rfl rfl rfl (by kernel_rfl) (box_cell (v := .int .u32 0) (hB.at (i := 0) rfl) rfl) (free_of (hB.at (i := 0) rfl) 0))) ?_
    replace hB : Boxes w14 [(b5, [.int .u32 t1], 22), (b4, [.pointer r6], 28), (b3, [.pointer r4], 28), (b1, [.bool false], 4)] := Boxes.store1  (i := 0) (o := 0) hB rfl rfl rfl rfl hw_w14
    have hc_w14 := sil_new hc_w13 (sil_c1 hw_w14) hlo_b5
    refine LW.nil hL rfl ?_
    refine NW.then ?_
    refine CW.seq ?_
    refine CW.seq ?_
    refine CW.region fun L hL => ?_
    refine LW.rd hL rfl (Wants.free rfl) rfl (Rd.assign (v := .int .i64 0) rfl) ?_
    refine LW.nil hL rfl ?_
    refine NW.then ?_
    refine CW.block ?_
    replace h := h b5 b4 w14 ⟨hlo_b5, lt_of_heap (hB.at (i := 0) rfl)⟩ ⟨hlo_b4, lt_of_heap (hB.at (i := 1) rfl)⟩ hc_w14
    obtain ⟨I1, m1, hI1, h⟩ := h
    refine CW.loop (S := Int) (fun i1 => [(0, .slice l1 l1n l1c), (4, .pointer (some (⟨b1, 0, none⟩ : Addr))), (6, .pointer (some (⟨b3, 0, none⟩ : Addr))), (8, .pointer (some (⟨b4, 0, none⟩ : Addr))), (10, .pointer (some (⟨b5, 0, none⟩ : Addr))), (11, .int .i64 i1)]) (fun i1 w15 => I1 i1 w15 ∧ ∃ (u1 : Value), Boxes w15 [(b1, [u1], 4), (b3, [.pointer r4], 28), (b4, [.pointer r6], 28), (b5, [.int .u32 t1], 22)]) (fun i1 w15 => m1 i1 w15) 0 (by exact ⟨rfl, rfl, rfl, rfl, rfl, rfl, trivial⟩) ⟨hI1, .bool false, (hB.sel [3, 2, 1, 0] (by decide) rfl)⟩ (fun i1 w15 hI1 => ?_)
    obtain ⟨hI1, u1, hB⟩ := hI1
    replace h := h i1 w15 hI1
    refine CW.seq ?_
    refine CW.seq ?_
    refine CW.region fun L hL => ?_
    refine LW.rd hL rfl (Wants.free rfl) rfl (Rd.move (v := .int .i64 i1) rfl) ?_
    refine LW.rd hL rfl (Wants.free rfl) rfl (Rd.move (v := .slice l1 l1n l1c) rfl) ?_
    refine LW.rd hL rfl (Wants.free rfl) rfl (Rd.builtin (v := .int .i64 (l1n : Int)) rfl (fun _ _ => by kernel_rfl)) ?_
    refine LW.rd hL rfl (Wants.free rfl) rfl (Rd.bin (v := .bool (decide (i1 < (l1n : Int)))) rfl rfl (fun w => by kernel_rfl)) ?_
    refine LW.nil hL rfl ?_
    refine NW.then ?_
    refine CW.cond rfl (fun hb6 => ?_) (fun hb6 => ?_)
    · replace h := h.1 hb6
      refine CW.skip ?_
      refine NW.then ?_
      refine CW.seq ?_
      refine CW.block ?_
      refine CW.seq ?_
      refine CW.region fun L hL => ?_
      refine LW.rd hL rfl (Wants.free rfl) rfl (Rd.assign (v := .int .i64 0) rfl) ?_
      refine LW.rd hL rfl (Wants.free rfl) rfl (Rd.assign (v := .int .i64 0) rfl) ?_
      refine LW.nil hL rfl ?_
      refine NW.then ?_
      obtain ⟨J1, hJ1, h⟩ := h
      refine CW.cut (S := Int × Int) (fun s1 => [(0, .slice l1 l1n l1c), (4, .pointer (some (⟨b1, 0, none⟩ : Addr))), (6, .pointer (some (⟨b3, 0, none⟩ : Addr))), (8, .pointer (some (⟨b4, 0, none⟩ : Addr))), (10, .pointer (some (⟨b5, 0, none⟩ : Addr))), (11, .int .i64 i1), (12, .int .i64 s1.1), (13, .int .i64 s1.2)]) (fun s1 w16 => J1 s1.1 s1.2 w16 ∧ Boxes w16 [(b1, [u1], 4), (b3, [.pointer r4], 28), (b4, [.pointer r6], 28), (b5, [.int .u32 t1], 22)]) (fun s1 w16 h_ => ?_) ?_
      · obtain ⟨h_, hB⟩ := h_; obtain ⟨ev1, hv1⟩ := s1; replace h := hJ1 ev1 hv1 w16 h_; clear h_
        refine CW.seq ?_
        refine CW.region fun L hL => ?_
        refine LW.rd hL rfl (Wants.free rfl) rfl (Rd.move (v := .int .i64 ev1) rfl) ?_
        refine LW.rd hL rfl (Wants.free rfl) rfl (Rd.move (v := .int .i64 hv1) rfl) ?_
        refine LW.rd hL rfl (Wants.free rfl) rfl (Rd.bin (v := .bool (!(ev1 == hv1))) rfl rfl (fun w => by kernel_rfl)) ?_
        refine LW.nil hL rfl ?_
        refine NW.then ?_
        refine CW.cond rfl (fun hb7 => ?_) (fun hb7 => ?_)
        · replace h := h.1 hb7
          refine CW.seq ?_
          refine CW.region fun L hL => ?_
          obtain ⟨w17, hw_w17⟩ : ∃ x, x = World.setCell w16 (⟨b1, 0, none⟩ : Addr) (.bool false) := ⟨_, rfl⟩
          refine LW.eff hL rfl (Wants.free rfl) rfl (stE hw_w17 (Ef.st rfl rfl rfl (by kernel_rfl) (box_cell (v := u1) (hB.at (i := 0) rfl) rfl) (free_of (hB.at (i := 0) rfl) 0))) ?_
          replace hB : Boxes w17 [(b1, [.bool false], 4), (b3, [.pointer r4], 28), (b4, [.pointer r6], 28), (b5, [.int .u32 t1], 22)] := Boxes.store1  (i := 0) (o := 0) hB rfl rfl rfl rfl hw_w17
          have hc_w17 : Chg [b1] w16 w17 := sil_more (Chg.refl [] w16) (sil_c1 hw_w17)
          refine LW.nil hL rfl ?_
          refine NW.then ?_
          replace h := h  w17  hc_w17
          refine CW.ret ?_
          refine RW.block ?_
          refine RW.then ?_
          refine RW.then ?_
          refine RW.block ?_
          refine RW.then ?_
          exact XR.res0M (vs := [.bool false]) (by exact (ResOK.c rfl (lv1 (by kernel_rfl) (box_cell (Boxes.at (i := 0) hB rfl) rfl)) ResOK.nil)) rfl ⟨false, rfl, h⟩
        · replace h := h.2 hb7
          refine CW.skip ?_
          refine NW.block ?_
          refine NW.then ?_
          refine CW.region fun L hL => ?_
          refine LW.rd hL rfl (Wants.free rfl) rfl (Rd.move (v := .int .i64 i1) rfl) ?_
          refine LW.rd hL rfl (Wants.free rfl) rfl (Rd.bin (v := .int .i64 (IntKind.wrap .i64 (i1 + 1))) rfl rfl (fun w => by kernel_rfl)) ?_
          refine LW.rd hL rfl (Wants.free rfl) rfl (Rd.assign (v := .int .i64 (IntKind.wrap .i64 (i1 + 1))) rfl) ?_
          refine LW.nil hL rfl ?_
          exact NW.loop (S := Int) (Ek := fun i1 => [(0, .slice l1 l1n l1c), (4, .pointer (some (⟨b1, 0, none⟩ : Addr))), (6, .pointer (some (⟨b3, 0, none⟩ : Addr))), (8, .pointer (some (⟨b4, 0, none⟩ : Addr))), (10, .pointer (some (⟨b5, 0, none⟩ : Addr))), (11, .int .i64 i1)]) (IntKind.wrap .i64 (i1 + 1)) (by exact ⟨rfl, rfl, rfl, rfl, rfl, rfl, trivial⟩) ⟨⟨h.1, u1, hB⟩, h.2⟩
      · skip
        refine CW.seq ?_
        refine CW.region fun L hL => ?_
        refine LW.rd hL rfl (Wants.free rfl) rfl (Rd.move (v := .slice l1 l1n l1c) rfl) ?_
        refine LW.rd hL rfl (Wants.free rfl) rfl (Rd.move (v := .int .i64 i1) rfl) ?_
        obtain ⟨a1, he1, hi1, hi2, h⟩ := h
        refine LW.rd hL rfl (Wants.free rfl) rfl (Rd.iaS (q := a1) (sz := 6) (by rw [← he1]; rfl) rfl Try.underlying46 (by kernel_rfl) hi1 hi2) ?_
        refine LW.rd hL rfl (Wants.free rfl) rfl (Rd.fa (v := .pointer (some (a1.add (Int.toNat i1 * 6)))) rfl (fun _ => by kernel_rfl)) ?_
        obtain ⟨t2, hc1, h⟩ := h
        refine LW.rd hL rfl (Wants.free rfl) rfl (Rd.ld (v := .int .i64 t2) rfl (by kernel_rfl) (eqs hc1)) ?_
        refine LW.rd hL rfl (Wants.free rfl) rfl (Rd.bin (v := .bool (t2 == 1)) rfl rfl (fun w => by kernel_rfl)) ?_
        refine LW.nil hL rfl ?_
        refine NW.then ?_
        refine CW.cond rfl (fun hb8 => ?_) (fun hb8 => ?_)
        · replace h := h.1 hb8
          refine CW.seq ?_
          refine CW.region fun L hL => ?_
          refine LW.rd hL rfl (Wants.free rfl) rfl (Rd.move (v := .slice l1 l1n l1c) rfl) ?_
          refine LW.rd hL rfl (Wants.free rfl) rfl (Rd.move (v := .int .i64 i1) rfl) ?_
          refine LW.rd hL rfl (Wants.free rfl) rfl (Rd.iaS (q := a1) (sz := 6) (by rw [← he1]; rfl) rfl Try.underlying46 (by kernel_rfl) hi1 hi2) ?_
          refine LW.rd hL rfl (Wants.free rfl) rfl (Rd.fa (v := .pointer (some ((a1.add (Int.toNat i1 * 6)).add 4))) rfl (fun _ => by kernel_rfl)) ?_
          obtain ⟨t3, hc2, h⟩ := h
          refine LW.rd hL rfl (Wants.free rfl) rfl (Rd.ld (v := .int .u32 t3) rfl (by kernel_rfl) (eqs hc2)) ?_
          refine LW.rd hL rfl (Wants.free rfl) rfl (Rd.assign (v := .int .u32 t3) rfl) ?_
          refine LW.nil hL rfl ?_
          refine NW.then ?_
          refine CW.seq ?_
          obtain ⟨w18, hw_w18⟩ : ∃ x, x = World.drew w15 := ⟨_, rfl⟩
          have hc_w18 := sil_drew (Chg.refl [] w15) hw_w18
          replace hB := hB.drew hw_w18
          refine CW.drawn (fun w => w = w18) 12 (by kernel_rfl) fun H hH => ?_
          rw [← hw_w18]
          refine HW.take (i := 0) hH rfl (by kernel_rfl) (by kernel_rfl) (Wants.free rfl) rfl (fun _ => rfl) (Rd.ld (v := .pointer r4) rfl (by kernel_rfl) (eqs (box_cell (hB.at (i := 1) rfl) rfl))) ?_
          refine HW.pure (i := 1) hH rfl (by kernel_rfl) (Wants.free rfl) rfl (fun _ => rfl) (Rd.move (v := .slice l1 l1n l1c) rfl) ?_
          refine HW.pure (i := 2) hH rfl (by kernel_rfl) (Wants.free rfl) rfl (fun _ => rfl) (Rd.move (v := .int .i64 i1) rfl) ?_
          refine HW.pure (i := 3) hH rfl (by kernel_rfl) (Wants.free rfl) rfl (fun _ => rfl) (Rd.iaS (q := a1) (sz := 6) (by rw [← he1]; rfl) rfl Try.underlying46 (by kernel_rfl) hi1 hi2) ?_
          refine HW.pure (i := 4) hH rfl (by kernel_rfl) (Wants.free rfl) rfl (fun _ => rfl) (Rd.fa (v := .pointer (some ((a1.add (Int.toNat i1 * 6)).add 2))) rfl (fun _ => by kernel_rfl)) ?_
          replace h := h  w18  hc_w18
          obtain ⟨t4, t5, hc3, h⟩ := h
          refine HW.take (i := 5) hH rfl (by kernel_rfl) (by kernel_rfl) (Wants.free rfl) rfl (fun _ => rfl) (Rd.ldN (cs := [.int .i64 t4, .int .i64 t5]) rfl (by kernel_rfl) (by kernel_rfl) (cellsS hc3)) ?_
          refine HW.pure (i := 6) hH rfl (by kernel_rfl) (Wants.free rfl) rfl (fun _ => rfl) (Rd.move (v := .slice l1 l1n l1c) rfl) ?_
          refine HW.pure (i := 7) hH rfl (by kernel_rfl) (Wants.free rfl) rfl (fun _ => rfl) (Rd.move (v := .int .i64 i1) rfl) ?_
          refine HW.pure (i := 8) hH rfl (by kernel_rfl) (Wants.free rfl) rfl (fun _ => rfl) (Rd.iaS (q := a1) (sz := 6) (by rw [← he1]; rfl) rfl Try.underlying46 (by kernel_rfl) hi1 hi2) ?_
          refine HW.pure (i := 9) hH rfl (by kernel_rfl) (Wants.free rfl) rfl (fun _ => rfl) (Rd.fa (v := .pointer (some ((a1.add (Int.toNat i1 * 6)).add 1))) rfl (fun _ => by kernel_rfl)) ?_
          obtain ⟨t6, hc4, h⟩ := h
          refine HW.take (i := 10) hH rfl (by kernel_rfl) (by kernel_rfl) (Wants.free rfl) rfl (fun _ => rfl) (Rd.ld (v := .int .i64 t6) rfl (by kernel_rfl) (eqs hc4)) ?_
          refine HW.pure (i := 11) hH rfl (by kernel_rfl) (Wants.free rfl) rfl (fun _ => rfl) (Rd.move (v := .int .u32 t3) rfl) ?_
          refine HW.call (i := 12) hH (by kernel_rfl) rfl (Wants.free rfl) rfl (Cl.fn (f := 36) rfl Try.func36 (by kernel_rfl) rfl) h (fun e w19 h_ => ?_)
          clear h
          obtain ⟨r8, rfl, h⟩ := h_
          obtain ⟨hsm5, h⟩ := h
          replace hB := Boxes.sameS hB hsm5 (by simp)
          refine ⟨_, rfl, (fun hc => by cases hc), ?_⟩
          refine HW.pure (i := 13) hH rfl (by kernel_rfl) (Wants.free rfl) rfl (fun hc => by cases hc) (Rd.assign (v := .int .i64 r8) rfl) ?_
          refine HW.done hH (by kernel_rfl) ?_
          refine NW.then ?_
          obtain ⟨w20, hw_w20⟩ : ∃ x, x = World.drew w19 := ⟨_, rfl⟩
          have hc_w20 := sil_drew (Chg.refl [] w19) hw_w20
          replace hB := hB.drew hw_w20
          refine CW.drawn (fun w => w = w20) 14 (by kernel_rfl) fun H hH => ?_
          rw [← hw_w20]
          refine HW.take (i := 0) hH rfl (by kernel_rfl) (by kernel_rfl) (Wants.free rfl) rfl (fun _ => rfl) (Rd.ld (v := .pointer r6) rfl (by kernel_rfl) (eqs (box_cell (hB.at (i := 2) rfl) rfl))) ?_
          refine HW.pure (i := 1) hH rfl (by kernel_rfl) (Wants.free rfl) rfl (fun _ => rfl) (Rd.move (v := .slice l1 l1n l1c) rfl) ?_
          refine HW.pure (i := 2) hH rfl (by kernel_rfl) (Wants.free rfl) rfl (fun _ => rfl) (Rd.move (v := .int .i64 i1) rfl) ?_
          refine HW.pure (i := 3) hH rfl (by kernel_rfl) (Wants.free rfl) rfl (fun _ => rfl) (Rd.iaS (q := a1) (sz := 6) (by rw [← he1]; rfl) rfl Try.underlying46 (by kernel_rfl) hi1 hi2) ?_
          refine HW.pure (i := 4) hH rfl (by kernel_rfl) (Wants.free rfl) rfl (fun _ => rfl) (Rd.fa (v := .pointer (some ((a1.add (Int.toNat i1 * 6)).add 2))) rfl (fun _ => by kernel_rfl)) ?_
          replace h := h  w20  hc_w20
          obtain ⟨t7, t8, hc5, h⟩ := h
          refine HW.take (i := 5) hH rfl (by kernel_rfl) (by kernel_rfl) (Wants.free rfl) rfl (fun _ => rfl) (Rd.ldN (cs := [.int .i64 t7, .int .i64 t8]) rfl (by kernel_rfl) (by kernel_rfl) (cellsS hc5)) ?_
          refine HW.pure (i := 6) hH rfl (by kernel_rfl) (Wants.free rfl) rfl (fun _ => rfl) (Rd.move (v := .slice l1 l1n l1c) rfl) ?_
          refine HW.pure (i := 7) hH rfl (by kernel_rfl) (Wants.free rfl) rfl (fun _ => rfl) (Rd.move (v := .int .i64 i1) rfl) ?_
          refine HW.pure (i := 8) hH rfl (by kernel_rfl) (Wants.free rfl) rfl (fun _ => rfl) (Rd.iaS (q := a1) (sz := 6) (by rw [← he1]; rfl) rfl Try.underlying46 (by kernel_rfl) hi1 hi2) ?_
          refine HW.pure (i := 9) hH rfl (by kernel_rfl) (Wants.free rfl) rfl (fun _ => rfl) (Rd.fa (v := .pointer (some ((a1.add (Int.toNat i1 * 6)).add 1))) rfl (fun _ => by kernel_rfl)) ?_
          obtain ⟨t9, hc6, h⟩ := h
          refine HW.take (i := 10) hH rfl (by kernel_rfl) (by kernel_rfl) (Wants.free rfl) rfl (fun _ => rfl) (Rd.ld (v := .int .i64 t9) rfl (by kernel_rfl) (eqs hc6)) ?_
          refine HW.pure (i := 11) hH rfl (by kernel_rfl) (Wants.free rfl) rfl (fun _ => rfl) (Rd.move (v := .int .u32 t3) rfl) ?_
          refine HW.take (i := 12) hH rfl (by kernel_rfl) (by kernel_rfl) (Wants.free rfl) rfl (fun _ => rfl) (Rd.ld (v := .int .u32 t1) rfl (by kernel_rfl) (eqs (box_cell (hB.at (i := 3) rfl) rfl))) ?_
          refine HW.pure (i := 13) hH rfl (by kernel_rfl) (Wants.free rfl) rfl (fun _ => rfl) (Rd.bin (v := .int .u32 (bits .andNot .u32 t3 t1)) rfl rfl (fun w => by kernel_rfl)) ?_
          refine HW.call (i := 14) hH (by kernel_rfl) rfl (Wants.free rfl) rfl (Cl.fn (f := 36) rfl Try.func36 (by kernel_rfl) rfl) h (fun e w21 h_ => ?_)
          clear h
          obtain ⟨r9, rfl, h⟩ := h_
          obtain ⟨hsm6, h⟩ := h
          replace hB := Boxes.sameS hB hsm6 (by simp)
          refine ⟨_, rfl, (fun hc => by cases hc), ?_⟩
          refine HW.pure (i := 15) hH rfl (by kernel_rfl) (Wants.free rfl) rfl (fun hc => by cases hc) (Rd.assign (v := .int .i64 r9) rfl) ?_
          refine HW.done hH (by kernel_rfl) ?_
          exact NW.cut (S := Int × Int) (Ek := fun s1 => [(0, .slice l1 l1n l1c), (4, .pointer (some (⟨b1, 0, none⟩ : Addr))), (6, .pointer (some (⟨b3, 0, none⟩ : Addr))), (8, .pointer (some (⟨b4, 0, none⟩ : Addr))), (10, .pointer (some (⟨b5, 0, none⟩ : Addr))), (11, .int .i64 i1), (12, .int .i64 s1.1), (13, .int .i64 s1.2)]) (r8, r9) (by exact ⟨rfl, rfl, rfl, rfl, rfl, rfl, rfl, rfl, trivial⟩) ⟨h, hB⟩
        · replace h := h.2 hb8
          refine CW.seq ?_
          obtain ⟨w22, hw_w22⟩ : ∃ x, x = World.drew w15 := ⟨_, rfl⟩
          have hc_w22 := sil_drew (Chg.refl [] w15) hw_w22
          replace hB := hB.drew hw_w22
          refine CW.drawn (fun w => w = w22) 6 (by kernel_rfl) fun H hH => ?_
          rw [← hw_w22]
          refine HW.take (i := 0) hH rfl (by kernel_rfl) (by kernel_rfl) (Wants.free rfl) rfl (fun _ => rfl) (Rd.ld (v := .pointer r4) rfl (by kernel_rfl) (eqs (box_cell (hB.at (i := 1) rfl) rfl))) ?_
          refine HW.pure (i := 1) hH rfl (by kernel_rfl) (Wants.free rfl) rfl (fun _ => rfl) (Rd.move (v := .slice l1 l1n l1c) rfl) ?_
          refine HW.pure (i := 2) hH rfl (by kernel_rfl) (Wants.free rfl) rfl (fun _ => rfl) (Rd.move (v := .int .i64 i1) rfl) ?_
          refine HW.pure (i := 3) hH rfl (by kernel_rfl) (Wants.free rfl) rfl (fun _ => rfl) (Rd.iaS (q := a1) (sz := 6) (by rw [← he1]; rfl) rfl Try.underlying46 (by kernel_rfl) hi1 hi2) ?_
          refine HW.pure (i := 4) hH rfl (by kernel_rfl) (Wants.free rfl) rfl (fun _ => rfl) (Rd.fa (v := .pointer (some ((a1.add (Int.toNat i1 * 6)).add 5))) rfl (fun _ => by kernel_rfl)) ?_
          replace h := h  w22  hc_w22
          obtain ⟨t10, t10n, t10c, hc7, h⟩ := h
          refine HW.take (i := 5) hH rfl (by kernel_rfl) (by kernel_rfl) (Wants.free rfl) rfl (fun _ => rfl) (Rd.ld (v := .slice t10 t10n t10c) rfl (by kernel_rfl) (eqs hc7)) ?_
          refine HW.call (i := 6) hH (by kernel_rfl) rfl (Wants.free rfl) rfl (Cl.fn (f := 38) rfl Try.func38 (by kernel_rfl) rfl) h (fun e w23 h_ => ?_)
          clear h
          obtain ⟨r10, rfl, h⟩ := h_
          obtain ⟨hsm7, h⟩ := h
          replace hB := Boxes.sameS hB hsm7 (by simp)
          refine ⟨_, rfl, (fun hc => by cases hc), ?_⟩
          refine HW.pure (i := 7) hH rfl (by kernel_rfl) (Wants.free rfl) rfl (fun hc => by cases hc) (Rd.assign (v := .int .i64 r10) rfl) ?_
          refine HW.done hH (by kernel_rfl) ?_
          refine NW.then ?_
          obtain ⟨w24, hw_w24⟩ : ∃ x, x = World.drew w23 := ⟨_, rfl⟩
          have hc_w24 := sil_drew (Chg.refl [] w23) hw_w24
          replace hB := hB.drew hw_w24
          refine CW.drawn (fun w => w = w24) 6 (by kernel_rfl) fun H hH => ?_
          rw [← hw_w24]
          refine HW.take (i := 0) hH rfl (by kernel_rfl) (by kernel_rfl) (Wants.free rfl) rfl (fun _ => rfl) (Rd.ld (v := .pointer r6) rfl (by kernel_rfl) (eqs (box_cell (hB.at (i := 2) rfl) rfl))) ?_
          refine HW.pure (i := 1) hH rfl (by kernel_rfl) (Wants.free rfl) rfl (fun _ => rfl) (Rd.move (v := .slice l1 l1n l1c) rfl) ?_
          refine HW.pure (i := 2) hH rfl (by kernel_rfl) (Wants.free rfl) rfl (fun _ => rfl) (Rd.move (v := .int .i64 i1) rfl) ?_
          refine HW.pure (i := 3) hH rfl (by kernel_rfl) (Wants.free rfl) rfl (fun _ => rfl) (Rd.iaS (q := a1) (sz := 6) (by rw [← he1]; rfl) rfl Try.underlying46 (by kernel_rfl) hi1 hi2) ?_
          refine HW.pure (i := 4) hH rfl (by kernel_rfl) (Wants.free rfl) rfl (fun _ => rfl) (Rd.fa (v := .pointer (some ((a1.add (Int.toNat i1 * 6)).add 5))) rfl (fun _ => by kernel_rfl)) ?_
          replace h := h  w24  hc_w24
          obtain ⟨t11, t11n, t11c, hc8, h⟩ := h
          refine HW.take (i := 5) hH rfl (by kernel_rfl) (by kernel_rfl) (Wants.free rfl) rfl (fun _ => rfl) (Rd.ld (v := .slice t11 t11n t11c) rfl (by kernel_rfl) (eqs hc8)) ?_
          refine HW.call (i := 6) hH (by kernel_rfl) rfl (Wants.free rfl) rfl (Cl.fn (f := 38) rfl Try.func38 (by kernel_rfl) rfl) h (fun e w25 h_ => ?_)
          clear h
          obtain ⟨r11, rfl, h⟩ := h_
          obtain ⟨hsm8, h⟩ := h
          replace hB := Boxes.sameS hB hsm8 (by simp)
          refine ⟨_, rfl, (fun hc => by cases hc), ?_⟩
          refine HW.pure (i := 7) hH rfl (by kernel_rfl) (Wants.free rfl) rfl (fun hc => by cases hc) (Rd.assign (v := .int .i64 r11) rfl) ?_
          refine HW.done hH (by kernel_rfl) ?_
          exact NW.cut (S := Int × Int) (Ek := fun s1 => [(0, .slice l1 l1n l1c), (4, .pointer (some (⟨b1, 0, none⟩ : Addr))), (6, .pointer (some (⟨b3, 0, none⟩ : Addr))), (8, .pointer (some (⟨b4, 0, none⟩ : Addr))), (10, .pointer (some (⟨b5, 0, none⟩ : Addr))), (11, .int .i64 i1), (12, .int .i64 s1.1), (13, .int .i64 s1.2)]) (r10, r11) (by exact ⟨rfl, rfl, rfl, rfl, rfl, rfl, rfl, rfl, trivial⟩) ⟨h, hB⟩
    · replace h := h.2 hb6
      refine CW.exit ?_
      refine XW.then ?_
      refine XW.then ?_
      refine XW.hit ?_
      refine NW.then ?_
      refine CW.seq ?_
      refine CW.seq ?_
      refine CW.region fun L hL => ?_
      refine LW.rd hL rfl (Wants.free rfl) rfl (Rd.ld (v := .pointer r4) rfl (by kernel_rfl) (eqs (box_cell (hB.at (i := 1) rfl) rfl))) ?_
      refine LW.call hL rfl (Wants.free rfl) rfl (Cl.fn (f := 62) rfl Try.func62 (by kernel_rfl) rfl) h (fun e w26 h_ => ?_)
      clear h
      obtain ⟨r12, rfl, h⟩ := h_
      obtain ⟨hsm9, h⟩ := h
      replace hB := Boxes.sameS hB hsm9 (by simp)
      refine ⟨_, rfl, ?_⟩
      obtain ⟨t12, hx2, h⟩ := h
      refine LW.rd hL rfl (Wants.free rfl) rfl (Rd.bin (v := .bool t12) rfl rfl hx2) ?_
      refine LW.nil hL rfl ?_
      refine NW.then ?_
      refine CW.cond rfl (fun hb9 => ?_) (fun hb9 => ?_)
      · replace h := h.1 hb9
        refine CW.seq ?_
        refine CW.region fun L hL => ?_
        obtain ⟨w27, hw_w27⟩ : ∃ x, x = World.setCell w26 (⟨b1, 0, none⟩ : Addr) (.bool false) := ⟨_, rfl⟩
        refine LW.eff hL rfl (Wants.free rfl) rfl (stE hw_w27 (Ef.st rfl rfl rfl (by kernel_rfl) (box_cell (v := u1) (hB.at (i := 0) rfl) rfl) (free_of (hB.at (i := 0) rfl) 0))) ?_
        replace hB : Boxes w27 [(b1, [.bool false], 4), (b3, [.pointer r4], 28), (b4, [.pointer r6], 28), (b5, [.int .u32 t1], 22)] := Boxes.store1  (i := 0) (o := 0) hB rfl rfl rfl rfl hw_w27
        have hc_w27 : Chg [b1] w26 w27 := sil_more (Chg.refl [] w26) (sil_c1 hw_w27)
        refine LW.nil hL rfl ?_
        refine NW.then ?_
        replace h := h  w27  hc_w27
        refine CW.ret ?_
        refine RW.then ?_
        exact XR.res0M (vs := [.bool false]) (by exact (ResOK.c rfl (lv1 (by kernel_rfl) (box_cell (Boxes.at (i := 0) hB rfl) rfl)) ResOK.nil)) rfl ⟨false, rfl, h⟩
      · replace h := h.2 hb9
        refine CW.skip ?_
        refine NW.then ?_
        refine CW.seq ?_
        refine CW.seq ?_
        refine CW.region fun L hL => ?_
        refine LW.rd hL rfl (Wants.free rfl) rfl (Rd.ld (v := .pointer r4) rfl (by kernel_rfl) (eqs (box_cell (hB.at (i := 1) rfl) rfl))) ?_
        refine LW.call hL rfl (Wants.free rfl) rfl (Cl.fn (f := 62) rfl Try.func62 (by kernel_rfl) rfl) h (fun e w28 h_ => ?_)
        clear h
        obtain ⟨r13, rfl, h⟩ := h_
        obtain ⟨hsm10, h⟩ := h
        replace hB := Boxes.sameS hB hsm10 (by simp)
        refine ⟨_, rfl, ?_⟩
        refine LW.nil hL rfl ?_
        refine NW.then ?_
        refine CW.block ?_
        obtain ⟨S1, Sp1, keep1, hfn_, hit_, hkp_, I2, X1, hst_I2, hst_X1, h0_, hrd_, hdn_, hso_X1⟩ := h
        refine XR.CW.rangeV (α := Int × Int × Int) (enc := (fun x : Int × Int × Int => #[.agg #[.int .i64 x.1, .int .i64 x.2.1], .int .u32 x.2.2])) (S := S1) (Sp := Sp1) (keep := keep1) rfl hfn_ (fun _ => rfl) (by decide) hit_ (fun (O_ : List Nat) (pre_ : List (Int × Int × Int)) (w_ : World) => I2 O_ pre_ w_ ∧ ∃ (u2 : Value), Boxes w_ [(b1, [u2], 4), (b3, [.pointer r4], 28), (b4, [.pointer r6], 28), (b5, [.int .u32 t1], 22)]) (fun (c_ : Code) (O_ : List Nat) (pre_ : List (Int × Int × Int)) (w_ : World) => (c_ = Code.ret ∧ ∃ (c1 : Bool), X1 c1 O_ pre_ w_ ∧ Boxes w_ [(b1, [.bool c1], 4), (b3, [.pointer r4], 28), (b4, [.pointer r6], 28), (b5, [.int .u32 t1], 22)])) ?_ ?_ ?_ hkp_ ?_ ?_ ?_
        · intro pre_ O_ O2_ A_ B_ hi_ hO_ hc_ hO2_ hg_
          have hB0_ := hB
          obtain ⟨hi_, u2, hB⟩ := hi_
          exact ⟨hst_I2  pre_ O_ O2_ A_ B_ hi_ hO_ hc_ hO2_ hg_, u2, hB.stab hB0_ rfl hO_ hc_⟩
        · intro c_ pre_ O_ O2_ A_ B_ hi_ hO_ hc_ hO2_ hg_
          have hB0_ := hB
          rcases hi_ with ⟨hcc_, c1, hi_, hB⟩
          · exact ⟨hcc_, c1, hst_X1 c1 pre_ O_ O2_ A_ B_ hi_ hO_ hc_ hO2_ hg_, hB.stab hB0_ rfl hO_ hc_⟩
        · intro O_ A_ hc_ hO_
          exact ⟨h0_ O_ A_ hc_ hO_, u1, Boxes.chg hB hc_ (by simp)⟩
        · intro l2 O1 pre1 x_ w29 hO_ hl_ hSp_ hi_
          obtain ⟨x1, x2, x3⟩ := x_
          obtain ⟨hi_, u2, hB⟩ := hi_
          have h := hrd_ l2 O1 pre1 x1 x2 x3 w29 hO_ hl_ hSp_ hi_
          refine XR.CW.seq ?_
          refine XR.CW.region fun L hL => ?_
          obtain ⟨b6, hb_b6⟩ : ∃ b6, b6 = World.size w29 := ⟨_, rfl⟩
          obtain ⟨w30, hw_w30⟩ : ∃ w30, w30 = World.alloc w29 (.cells #[.int .i64 0, .int .i64 0] 56) := ⟨_, rfl⟩
          refine XR.LW.val hL rfl (Wants.free rfl) rfl (boxE hb_b6 hw_w30 (Vl.alloc (z := .agg #[.int .i64 0, .int .i64 0]) (by kernel_rfl))) ?_
          replace hB := Boxes.alloc (cs := [.int .i64 0, .int .i64 0]) (T := 56) hB hb_b6 hw_w30
          have hlo_b6 := sil_lo (Chg.refl [] w29) hb_b6
          have hc_w30 := sil_alloc (Chg.refl [] w29) hw_w30
          obtain ⟨w31, hw_w31⟩ : ∃ x, x = setCells w30 (⟨b6, 0, none⟩ : Addr) 0 [.int .i64 x1, .int .i64 x2] := ⟨_, rfl⟩
          refine XR.LW.eff hL rfl (Wants.free rfl) rfl (stNE hw_w31 (Ef.stN (cs := [.int .i64 x1, .int .i64 x2]) rfl rfl (by kernel_rfl) (List.forall_mem_cons.2 ⟨rfl, (List.forall_mem_cons.2 ⟨rfl, (List.forall_mem_nil _)⟩)⟩) (has_of (hB.at (i := 0) rfl) (by simp)) (free_of' (hB.at (i := 0) rfl)))) ?_
          replace hB : Boxes w31 [(b6, [.int .i64 x1, .int .i64 x2], 56), (b1, [u2], 4), (b3, [.pointer r4], 28), (b4, [.pointer r6], 28), (b5, [.int .u32 t1], 22)] := Boxes.store (vs := [.int .i64 x1, .int .i64 x2]) (i := 0) (o := 0) hB rfl rfl rfl rfl hw_w31
          have hc_w31 := sil_new hc_w30 (sil_cN hw_w31) hlo_b6
          refine XR.LW.nil hL rfl ?_
          refine XR.NW.then ?_
          refine XR.CW.region fun L hL => ?_
          refine XR.LW.rd hL rfl (Wants.free rfl) rfl (Rd.assign (v := .int .u32 x3) rfl) ?_
          refine XR.LW.nil hL rfl ?_
          refine XR.NW.begin hc_w31 (fun w32 hcb_w32 hlp_ hib_ => ?_)
          have hc_w32 : Chg [l2] w29 w32 := sil_more hc_w31 hcb_w32
          replace hB := hB.notloop hlp_ hcb_w32
          replace h := h b6 w32 ⟨hlo_b6, lt_of_heap (hB.at (i := 0) rfl)⟩ hc_w32
          refine XR.CW.block ?_
          refine XR.CW.seq ?_
          refine XR.CW.region fun L hL => ?_
          refine XR.LW.rd hL rfl (Wants.free rfl) rfl (Rd.ld (v := .pointer r6) rfl (by kernel_rfl) (eqs (box_cell (hB.at (i := 3) rfl) rfl))) ?_
          refine XR.LW.rd hL rfl (Wants.free rfl) rfl (Rd.ldN (cs := [.int .i64 x1, .int .i64 x2]) rfl (by kernel_rfl) (by kernel_rfl) (cellsS (box_cells (hB.at (i := 0) rfl) rfl))) ?_
          refine XR.LW.call hL rfl (Wants.free rfl) rfl (Cl.fn (f := 28) rfl Try.func28 (by kernel_rfl) rfl) h (fun e w33 h_ => ?_)
          clear h
          obtain ⟨r14, r15, rfl, h⟩ := h_
          obtain ⟨hsm11, h⟩ := h
          replace hB := Boxes.sameS (hB.sel [1, 2, 3, 4] (by decide) rfl) hsm11 (by simp)
          refine ⟨_, rfl, ?_⟩
          refine XR.LW.rd hL rfl (Wants.free rfl) rfl (Rd.move (v := .tuple #[.int .u32 r14, .int .i64 r15]) rfl) ?_
          refine XR.LW.rd hL rfl (Wants.free rfl) rfl (Rd.extract (v := .int .u32 r14) rfl rfl) ?_
          refine XR.LW.rd hL rfl (Wants.free rfl) rfl (Rd.extract (v := .int .i64 r15) rfl rfl) ?_
          refine XR.LW.rd hL rfl (Wants.free rfl) rfl (Rd.assign (v := .int .u32 r14) rfl) ?_
          refine XR.LW.rd hL rfl (Wants.free rfl) rfl (Rd.assign (v := .int .i64 r15) rfl) ?_
          refine XR.LW.nil hL rfl ?_
          refine XR.NW.then ?_
          refine XR.CW.seq ?_
          refine XR.CW.region fun L hL => ?_
          refine XR.LW.rd hL rfl (Wants.free rfl) rfl (Rd.move (v := .int .i64 r15) rfl) ?_
          refine XR.LW.rd hL rfl (Wants.free rfl) rfl (Rd.bin (v := .bool (!(r15 == 0))) rfl rfl (fun w => by kernel_rfl)) ?_
          refine XR.LW.rd hL rfl (Wants.free rfl) rfl (Rd.move (v := .bool (!(r15 == 0))) rfl) ?_
          obtain ⟨J2, hJ2, h1_J2, h0_J2⟩ := h
          suffices K3 : ∀ (b7 : Bool) (w34 : World), Boxes w34 [(b1, [u2], 4), (b3, [.pointer r4], 28), (b4, [.pointer r6], 28), (b5, [.int .u32 t1], 22)] → J2 b7 w34 → L 9 [(4, .pointer (some (⟨b1, 0, none⟩ : Addr))), (6, .pointer (some (⟨b3, 0, none⟩ : Addr))), (8, .pointer (some (⟨b4, 0, none⟩ : Addr))), (10, .pointer (some (⟨b5, 0, none⟩ : Addr))), (115, .agg #[.int .i64 x1, .int .i64 x2]), (116, .int .u32 x3), (131, .bool b7)] w34 by
            rcases Bool.eq_false_or_eq_true (!(r15 == 0)) with hb10 | hb10
            · have h := h0_J2 hb10
              refine XR.LW.skip hL rfl (Skips.on rfl rfl rfl rfl rfl hb10) rfl ?_
              refine XR.LW.skip hL rfl (Skips.on rfl rfl rfl rfl rfl hb10) rfl ?_
              refine XR.LW.skip hL rfl (Skips.on rfl rfl rfl rfl rfl hb10) rfl ?_
              refine XR.LW.skip hL rfl (Skips.on rfl rfl rfl rfl rfl hb10) rfl ?_
              refine XR.LW.skip hL rfl (Skips.on rfl rfl rfl rfl rfl hb10) rfl ?_
              refine XR.LW.rd hL rfl (Wants.free rfl) rfl (Rd.pickT rfl hb10 rfl) ?_
              exact XR.LW.sub hL (by exact ⟨rfl, rfl, rfl, rfl, rfl, rfl, rfl, trivial⟩) (K3 true w33 (by exact hB) h)
            · have h := h1_J2 hb10
              refine XR.LW.rd hL rfl (Wants.on rfl rfl rfl rfl rfl hb10) rfl (Rd.move (v := .int .u32 r14) rfl) ?_
              refine XR.LW.rd hL rfl (Wants.on rfl rfl rfl rfl rfl hb10) rfl (Rd.move (v := .int .u32 x3) rfl) ?_
              refine XR.LW.rd hL rfl (Wants.on rfl rfl rfl rfl rfl hb10) rfl (Rd.ld (v := .int .u32 t1) rfl (by kernel_rfl) (eqs (box_cell (hB.at (i := 3) rfl) rfl))) ?_
              refine XR.LW.rd hL rfl (Wants.on rfl rfl rfl rfl rfl hb10) rfl (Rd.bin (v := .int .u32 (bits .andNot .u32 x3 t1)) rfl rfl (fun w => by kernel_rfl)) ?_
              refine XR.LW.rd hL rfl (Wants.on rfl rfl rfl rfl rfl hb10) rfl (Rd.bin (v := .bool (!(r14 == (bits .andNot .u32 x3 t1)))) rfl rfl (fun w => by kernel_rfl)) ?_
              refine XR.LW.rd hL rfl (Wants.free rfl) rfl (Rd.pickF rfl hb10 rfl) ?_
              exact XR.LW.sub hL (by exact ⟨rfl, rfl, rfl, rfl, rfl, rfl, rfl, trivial⟩) (K3 (!(r14 == (bits .andNot .u32 x3 t1))) w33 (by exact hB) h)
          intro b7 w34 hB h_
          have h := hJ2 b7 w34 h_; clear h_
          refine XR.LW.nil hL rfl ?_
          refine XR.NW.then ?_
          refine XR.CW.cond rfl (fun hb11 => ?_) (fun hb11 => ?_)
          · replace h := h.1 hb11
            refine XR.CW.seq ?_
            refine XR.CW.region fun L hL => ?_
            obtain ⟨w35, hw_w35⟩ : ∃ x, x = World.setCell w34 (⟨b1, 0, none⟩ : Addr) (.bool false) := ⟨_, rfl⟩
            refine XR.LW.eff hL rfl (Wants.free rfl) rfl (stE hw_w35 (Ef.st rfl rfl rfl (by kernel_rfl) (box_cell (v := u2) (hB.at (i := 0) rfl) rfl) (free_of (hB.at (i := 0) rfl) 0))) ?_
            replace hB : Boxes w35 [(b1, [.bool false], 4), (b3, [.pointer r4], 28), (b4, [.pointer r6], 28), (b5, [.int .u32 t1], 22)] := Boxes.store1  (i := 0) (o := 0) hB rfl rfl rfl rfl hw_w35
            have hc_w35 : Chg [b1] w34 w35 := sil_more (Chg.refl [] w34) (sil_c1 hw_w35)
            refine XR.LW.nil hL rfl ?_
            refine XR.NW.then ?_
            refine XR.CW.ret ?_
            refine RW.block ?_
            replace h := h  w35  hc_w35
            exact fun a_ ha_ => ⟨h.1, (⟨rfl, false, h.2.1, hB⟩), h.2.2⟩
          · replace h := h.2 hb11
            refine XR.CW.skip ?_
            refine NW.block ?_
            exact fun a_ ha_ => ⟨h.1, ⟨h.2.1, u2, hB⟩, h.2.2⟩
        · intro d1 O2 xs1 w36 hO_ hd_ hdh_ hS_ hi_
          obtain ⟨hi_, u2, hB⟩ := hi_
          have h := hdn_ d1 O2 xs1 w36 hO_ hd_ hS_ hi_
          have hK := XR.Marks.cons (XR.Marks.nil _) hdh_ (by simp)
          refine NW.block ?_
          refine NW.then ?_
          refine CW.seq ?_
          refine CW.seq ?_
          refine CW.region fun L hL => ?_
          refine LW.rd hL rfl (Wants.free rfl) rfl (Rd.ld (v := .pointer r6) rfl (by kernel_rfl) (eqs (box_cell (hB.at (i := 2) rfl) rfl))) ?_
          refine LW.call hL rfl (Wants.free rfl) rfl (Cl.fn (f := 62) rfl Try.func62 (by kernel_rfl) rfl) h (fun e w37 h_ => ?_)
          clear h
          obtain ⟨r16, rfl, h⟩ := h_
          obtain ⟨hsm12, h⟩ := h
          replace hB := Boxes.sameS (hB.sel [0, 1, 3] (by decide) rfl) hsm12 (by simp)
          replace hK := XR.Marks.same hK hsm12 (by simp)
          refine ⟨_, rfl, ?_⟩
          refine LW.nil hL rfl ?_
          refine NW.then ?_
          refine CW.block ?_
          obtain ⟨S2, Sp2, keep2, hfn_, hit_, hkp_, I3, X2, hst_I3, hst_X2, h0_, hrd_, hdn_, hso_X2⟩ := h
          refine XR.CW.rangeV (α := Int × Int × Int) (enc := (fun x : Int × Int × Int => #[.agg #[.int .i64 x.1, .int .i64 x.2.1], .int .u32 x.2.2])) (S := S2) (Sp := Sp2) (keep := keep2) rfl hfn_ (fun _ => rfl) (by decide) hit_ (fun (O_ : List Nat) (pre_ : List (Int × Int × Int)) (w_ : World) => I3 O_ pre_ w_ ∧ XR.Marks w_ [d1] ∧ ∃ (u3 : Value), Boxes w_ [(b1, [u3], 4), (b3, [.pointer r4], 28), (b5, [.int .u32 t1], 22)]) (fun (c_ : Code) (O_ : List Nat) (pre_ : List (Int × Int × Int)) (w_ : World) => (c_ = Code.ret ∧ ∃ (c2 : Bool), X2 c2 O_ pre_ w_ ∧ XR.Marks w_ [d1] ∧ Boxes w_ [(b1, [.bool c2], 4), (b3, [.pointer r4], 28), (b5, [.int .u32 t1], 22)])) ?_ ?_ ?_ hkp_ ?_ ?_ ?_
          · intro pre_ O_ O2_ A_ B_ hi_ hO_ hc_ hO2_ hg_
            have hB0_ := hB
            have hK0_ := hK
            obtain ⟨hi_, hK, u3, hB⟩ := hi_
            exact ⟨hst_I3  pre_ O_ O2_ A_ B_ hi_ hO_ hc_ hO2_ hg_, hK.stab hK0_ hO_ hc_, u3, hB.stab hB0_ rfl hO_ hc_⟩
          · intro c_ pre_ O_ O2_ A_ B_ hi_ hO_ hc_ hO2_ hg_
            have hB0_ := hB
            have hK0_ := hK
            rcases hi_ with ⟨hcc_, c2, hi_, hK, hB⟩
            · exact ⟨hcc_, c2, hst_X2 c2 pre_ O_ O2_ A_ B_ hi_ hO_ hc_ hO2_ hg_, hK.stab hK0_ hO_ hc_, hB.stab hB0_ rfl hO_ hc_⟩
          · intro O_ A_ hc_ hO_
            exact ⟨h0_ O_ A_ hc_ hO_, hK.chg hc_ (by simp), u2, Boxes.chg hB hc_ (by simp)⟩
          · intro l3 O3 pre2 x_ w38 hO_ hl_ hSp_ hi_
            obtain ⟨x4, x5, x6⟩ := x_
            obtain ⟨hi_, hK, u3, hB⟩ := hi_
            have h := hrd_ l3 O3 pre2 x4 x5 x6 w38 hO_ hl_ hSp_ hi_
            refine XR.CW.seq ?_
            refine XR.CW.region fun L hL => ?_
            obtain ⟨b8, hb_b8⟩ : ∃ b8, b8 = World.size w38 := ⟨_, rfl⟩
            obtain ⟨w39, hw_w39⟩ : ∃ w39, w39 = World.alloc w38 (.cells #[.int .i64 0, .int .i64 0] 56) := ⟨_, rfl⟩
            refine XR.LW.val hL rfl (Wants.free rfl) rfl (boxE hb_b8 hw_w39 (Vl.alloc (z := .agg #[.int .i64 0, .int .i64 0]) (by kernel_rfl))) ?_
            replace hB := Boxes.alloc (cs := [.int .i64 0, .int .i64 0]) (T := 56) hB hb_b8 hw_w39
            replace hK := XR.Marks.grow hK hw_w39
            have hlo_b8 := sil_lo (Chg.refl [] w38) hb_b8
            have hc_w39 := sil_alloc (Chg.refl [] w38) hw_w39
            obtain ⟨w40, hw_w40⟩ : ∃ x, x = setCells w39 (⟨b8, 0, none⟩ : Addr) 0 [.int .i64 x4, .int .i64 x5] := ⟨_, rfl⟩
            refine XR.LW.eff hL rfl (Wants.free rfl) rfl (stNE hw_w40 (Ef.stN (cs := [.int .i64 x4, .int .i64 x5]) rfl rfl (by kernel_rfl) (List.forall_mem_cons.2 ⟨rfl, (List.forall_mem_cons.2 ⟨rfl, (List.forall_mem_nil _)⟩)⟩) (has_of (hB.at (i := 0) rfl) (by simp)) (free_of' (hB.at (i := 0) rfl)))) ?_
            replace hK := XR.Marks.set hK (hB.at (i := 0) rfl) (sil_cN hw_w40)
            replace hB : Boxes w40 [(b8, [.int .i64 x4, .int .i64 x5], 56), (b1, [u3], 4), (b3, [.pointer r4], 28), (b5, [.int .u32 t1], 22)] := Boxes.store (vs := [.int .i64 x4, .int .i64 x5]) (i := 0) (o := 0) hB rfl rfl rfl rfl hw_w40
            have hc_w40 := sil_new hc_w39 (sil_cN hw_w40) hlo_b8
            refine XR.LW.nil hL rfl ?_
            refine XR.NW.then ?_
            refine XR.CW.region fun L hL => ?_
            refine XR.LW.rd hL rfl (Wants.free rfl) rfl (Rd.assign (v := .int .u32 x6) rfl) ?_
            refine XR.LW.nil hL rfl ?_
            refine XR.NW.begin hc_w40 (fun w41 hcb_w41 hlp_ hib_ => ?_)
            have hc_w41 : Chg [l3] w38 w41 := sil_more hc_w40 hcb_w41
            replace hB := hB.notloop hlp_ hcb_w41
            replace hK := hK.notloop hlp_ hcb_w41
            replace h := h b8 w41 ⟨hlo_b8, lt_of_heap (hB.at (i := 0) rfl)⟩ hc_w41
            refine XR.CW.block ?_
            refine XR.CW.seq ?_
            refine XR.CW.region fun L hL => ?_
            refine XR.LW.rd hL rfl (Wants.free rfl) rfl (Rd.ld (v := .pointer r4) rfl (by kernel_rfl) (eqs (box_cell (hB.at (i := 2) rfl) rfl))) ?_
            refine XR.LW.rd hL rfl (Wants.free rfl) rfl (Rd.ldN (cs := [.int .i64 x4, .int .i64 x5]) rfl (by kernel_rfl) (by kernel_rfl) (cellsS (box_cells (hB.at (i := 0) rfl) rfl))) ?_
            refine XR.LW.call hL rfl (Wants.free rfl) rfl (Cl.fn (f := 28) rfl Try.func28 (by kernel_rfl) rfl) h (fun e w42 h_ => ?_)
            clear h
            obtain ⟨r17, r18, rfl, h⟩ := h_
            obtain ⟨hsm13, h⟩ := h
            replace hB := Boxes.sameS (hB.sel [1, 2, 3] (by decide) rfl) hsm13 (by simp)
            replace hK := XR.Marks.same hK hsm13 (by simp)
            refine ⟨_, rfl, ?_⟩
            refine XR.LW.rd hL rfl (Wants.free rfl) rfl (Rd.move (v := .tuple #[.int .u32 r17, .int .i64 r18]) rfl) ?_
            refine XR.LW.rd hL rfl (Wants.free rfl) rfl (Rd.extract (v := .int .u32 r17) rfl rfl) ?_
            refine XR.LW.rd hL rfl (Wants.free rfl) rfl (Rd.extract (v := .int .i64 r18) rfl rfl) ?_
            refine XR.LW.rd hL rfl (Wants.free rfl) rfl (Rd.assign (v := .int .u32 r17) rfl) ?_
            refine XR.LW.rd hL rfl (Wants.free rfl) rfl (Rd.assign (v := .int .i64 r18) rfl) ?_
            refine XR.LW.nil hL rfl ?_
            refine XR.NW.then ?_
            refine XR.CW.seq ?_
            refine XR.CW.region fun L hL => ?_
            refine XR.LW.rd hL rfl (Wants.free rfl) rfl (Rd.move (v := .int .i64 r18) rfl) ?_
            refine XR.LW.rd hL rfl (Wants.free rfl) rfl (Rd.bin (v := .bool (!(r18 == 0))) rfl rfl (fun w => by kernel_rfl)) ?_
            refine XR.LW.rd hL rfl (Wants.free rfl) rfl (Rd.move (v := .bool (!(r18 == 0))) rfl) ?_
            obtain ⟨J3, hJ3, h1_J3, h0_J3⟩ := h
            suffices K4 : ∀ (b9 : Bool) (w43 : World), XR.Marks w43 [d1] → Boxes w43 [(b1, [u3], 4), (b3, [.pointer r4], 28), (b5, [.int .u32 t1], 22)] → J3 b9 w43 → L 9 [(4, .pointer (some (⟨b1, 0, none⟩ : Addr))), (6, .pointer (some (⟨b3, 0, none⟩ : Addr))), (10, .pointer (some (⟨b5, 0, none⟩ : Addr))), (134, .agg #[.int .i64 x4, .int .i64 x5]), (135, .int .u32 x6), (150, .bool b9)] w43 by
              rcases Bool.eq_false_or_eq_true (!(r18 == 0)) with hb12 | hb12
              · have h := h0_J3 hb12
                refine XR.LW.skip hL rfl (Skips.on rfl rfl rfl rfl rfl hb12) rfl ?_
                refine XR.LW.skip hL rfl (Skips.on rfl rfl rfl rfl rfl hb12) rfl ?_
                refine XR.LW.skip hL rfl (Skips.on rfl rfl rfl rfl rfl hb12) rfl ?_
                refine XR.LW.skip hL rfl (Skips.on rfl rfl rfl rfl rfl hb12) rfl ?_
                refine XR.LW.skip hL rfl (Skips.on rfl rfl rfl rfl rfl hb12) rfl ?_
                refine XR.LW.rd hL rfl (Wants.free rfl) rfl (Rd.pickT rfl hb12 rfl) ?_
                exact XR.LW.sub hL (by exact ⟨rfl, rfl, rfl, rfl, rfl, rfl, trivial⟩) (K4 true w42 hK (by exact hB) h)
              · have h := h1_J3 hb12
                refine XR.LW.rd hL rfl (Wants.on rfl rfl rfl rfl rfl hb12) rfl (Rd.move (v := .int .u32 r17) rfl) ?_
                refine XR.LW.rd hL rfl (Wants.on rfl rfl rfl rfl rfl hb12) rfl (Rd.ld (v := .int .u32 t1) rfl (by kernel_rfl) (eqs (box_cell (hB.at (i := 2) rfl) rfl))) ?_
                refine XR.LW.rd hL rfl (Wants.on rfl rfl rfl rfl rfl hb12) rfl (Rd.bin (v := .int .u32 (bits .andNot .u32 r17 t1)) rfl rfl (fun w => by kernel_rfl)) ?_
                refine XR.LW.rd hL rfl (Wants.on rfl rfl rfl rfl rfl hb12) rfl (Rd.move (v := .int .u32 x6) rfl) ?_
                refine XR.LW.rd hL rfl (Wants.on rfl rfl rfl rfl rfl hb12) rfl (Rd.bin (v := .bool (!((bits .andNot .u32 r17 t1) == x6))) rfl rfl (fun w => by kernel_rfl)) ?_
                refine XR.LW.rd hL rfl (Wants.free rfl) rfl (Rd.pickF rfl hb12 rfl) ?_
                exact XR.LW.sub hL (by exact ⟨rfl, rfl, rfl, rfl, rfl, rfl, trivial⟩) (K4 (!((bits .andNot .u32 r17 t1) == x6)) w42 hK (by exact hB) h)
            intro b9 w43 hK hB h_
            have h := hJ3 b9 w43 h_; clear h_
            refine XR.LW.nil hL rfl ?_
            refine XR.NW.then ?_
            refine XR.CW.cond rfl (fun hb13 => ?_) (fun hb13 => ?_)
            · replace h := h.1 hb13
              refine XR.CW.seq ?_
              refine XR.CW.region fun L hL => ?_
              obtain ⟨w44, hw_w44⟩ : ∃ x, x = World.setCell w43 (⟨b1, 0, none⟩ : Addr) (.bool false) := ⟨_, rfl⟩
              refine XR.LW.eff hL rfl (Wants.free rfl) rfl (stE hw_w44 (Ef.st rfl rfl rfl (by kernel_rfl) (box_cell (v := u3) (hB.at (i := 0) rfl) rfl) (free_of (hB.at (i := 0) rfl) 0))) ?_
              replace hK := XR.Marks.set hK (hB.at (i := 0) rfl) (sil_c1 hw_w44)
              replace hB : Boxes w44 [(b1, [.bool false], 4), (b3, [.pointer r4], 28), (b5, [.int .u32 t1], 22)] := Boxes.store1  (i := 0) (o := 0) hB rfl rfl rfl rfl hw_w44
              have hc_w44 : Chg [b1] w43 w44 := sil_more (Chg.refl [] w43) (sil_c1 hw_w44)
              refine XR.LW.nil hL rfl ?_
              refine XR.NW.then ?_
              refine XR.CW.ret ?_
              refine RW.block ?_
              replace h := h  w44  hc_w44
              exact fun a_ ha_ => ⟨h.1, (⟨rfl, false, h.2.1, hK, hB⟩), h.2.2⟩
            · replace h := h.2 hb13
              refine XR.CW.skip ?_
              refine NW.block ?_
              exact fun a_ ha_ => ⟨h.1, ⟨h.2.1, hK, u3, hB⟩, h.2.2⟩
          · intro d2 O4 xs2 w45 hO_ hd_ hdh_ hS_ hi_
            have hK0_ := hK
            obtain ⟨hi_, hK, u3, hB⟩ := hi_
            have h := hdn_ d2 O4 xs2 w45 hO_ hd_ hS_ hi_
            have hK := XR.Marks.cons2 hK hK0_ (hO_ _ hd_).1 hdh_
            refine NW.block ?_
            refine NW.then ?_
            refine CW.seq ?_
            refine CW.region fun L hL => ?_
            refine LW.call hL rfl (Wants.free rfl) rfl (Cl.fn (f := 24) rfl Try.func24 (by kernel_rfl) rfl) h (fun e w46 h_ => ?_)
            clear h
            obtain ⟨r19, rfl, h⟩ := h_
            obtain ⟨hsm14, h⟩ := h
            replace hB := Boxes.sameS (hB.sel [0] (by decide) rfl) hsm14 (by simp)
            replace hK := XR.Marks.same hK hsm14 (by simp)
            refine ⟨_, rfl, ?_⟩
            obtain ⟨w47, hw_w47⟩ : ∃ x, x = World.setCell w46 (⟨b1, 0, none⟩ : Addr) (.bool r19) := ⟨_, rfl⟩
            refine LW.eff hL rfl (Wants.free rfl) rfl (stE hw_w47 (Ef.st rfl rfl rfl (by kernel_rfl) (box_cell (v := u3) (hB.at (i := 0) rfl) rfl) (free_of (hB.at (i := 0) rfl) 0))) ?_
            replace hK := XR.Marks.set hK (hB.at (i := 0) rfl) (sil_c1 hw_w47)
            replace hB : Boxes w47 [(b1, [.bool r19], 4)] := Boxes.store1  (i := 0) (o := 0) hB rfl rfl rfl rfl hw_w47
            have hc_w47 : Chg [b1] w46 w47 := sil_more (Chg.refl [] w46) (sil_c1 hw_w47)
            refine LW.nil hL rfl ?_
            refine NW.then ?_
            replace h := h  w47  hc_w47
            refine CW.ret ?_
            exact XR.resM (ms := [d2, d1]) (vs := [.bool r19]) hK rfl (fun w_ hc_ => ⟨(ResOK.c rfl (lv1 (by kernel_rfl) (box_cell (Boxes.at (i := 0) (hB.marks hK hc_) rfl) rfl)) ResOK.nil), r19, rfl, h w_ hc_⟩)
          · intro d3 c_ O5 xs3 w49 hO_ hd_ hdh_ hS_ hi_
            have hK0_ := hK
            rcases hi_ with ⟨rfl, c2, hi_, hK, hB⟩
            · have h := hso_X2 d3 O5 xs3 c2 w49 hO_ hd_ hS_ hi_
              have hK := XR.Marks.cons2 hK hK0_ (hO_ _ hd_).1 hdh_
              refine CW.ret ?_
              refine RW.block ?_
              refine RW.then ?_
              exact XR.resM (ms := [d3, d1]) (vs := [.bool c2]) hK rfl (fun w_ hc_ => ⟨(ResOK.c rfl (lv1 (by kernel_rfl) (box_cell (Boxes.at (i := 0) (hB.marks hK hc_) rfl) rfl)) ResOK.nil), c2, rfl, h w_ hc_⟩)
        · intro d4 c_ O6 xs4 w51 hO_ hd_ hdh_ hS_ hi_
          rcases hi_ with ⟨rfl, c1, hi_, hB⟩
          · have h := hso_X1 d4 O6 xs4 c1 w51 hO_ hd_ hS_ hi_
            have hK := XR.Marks.cons (XR.Marks.nil _) hdh_ (by simp)
            refine CW.ret ?_
            refine RW.block ?_
            refine RW.then ?_
            exact XR.resM (ms := [d4]) (vs := [.bool c1]) hK rfl (fun w_ hc_ => ⟨(ResOK.c rfl (lv1 (by kernel_rfl) (box_cell (Boxes.at (i := 0) (hB.marks hK hc_) rfl) rfl)) ResOK.nil), c1, rfl, h w_ hc_⟩)

end Go.Proofs.Ytkfncibmfcdokaa
end
