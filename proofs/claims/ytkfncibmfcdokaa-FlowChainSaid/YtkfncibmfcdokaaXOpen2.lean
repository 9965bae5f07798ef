/- Arguments that came in, opened: places, touches, marks. -/
import Derived.Test.YtkfncibmfcdokaaXRef4
import Derived.Test.YtkfncibmfcdokaaXOpen
set_option linter.unusedVariables false
set_option linter.unusedSimpArgs false
namespace Go.Proofs.Ytkfncibmfcdokaa
open Go Go.RowKit Go.X

theorem len1 {α : Type} {l : List α} (h : l.length = 1) : ∃ a, l = [a] := by
  cases l with
  | nil => simp at h
  | cons a l => exact ⟨a, by rw [List.eq_nil_of_length_eq_zero (l := l) (by simpa using h)]⟩
theorem len2 {α : Type} {l : List α} (h : l.length = 2) : ∃ a b, l = [a, b] := by
  cases l with
  | nil => simp at h
  | cons a l => obtain ⟨b, rfl⟩ := len1 (l := l) (by simpa using h); exact ⟨a, b, rfl⟩
theorem len3 {α : Type} {l : List α} (h : l.length = 3) : ∃ a b c, l = [a, b, c] := by
  cases l with
  | nil => simp at h
  | cons a l => obtain ⟨b, c, rfl⟩ := len2 (l := l) (by simpa using h); exact ⟨a, b, c, rfl⟩
section
variable {H : Type} {enc : TypeId × Value → H} {w : World} {base : Nat} {spare : Nat → Bool} {held : Bool} {fuel : Nat} {x : DataW H × List MemPlace} {cs : List Value}
theorem cells56 : Try.prog.cellsOf 56 = 2 := by kernel_rfl
theorem cells81 : Try.prog.cellsOf 81 = 3 := by kernel_rfl
theorem cells3 : Try.prog.cellsOf 3 = 1 := by kernel_rfl
theorem cells54 : Try.prog.cellsOf 54 = 1 := by kernel_rfl
theorem cells22 : Try.prog.cellsOf 22 = 1 := by kernel_rfl
theorem cells47 : Try.prog.cellsOf 47 = 1 := by kernel_rfl
theorem un54 : Try.prog.underlying 54 = some (.int .i64) := by kernel_rfl
theorem un3 : Try.prog.underlying 3 = some (.int .i64) := by kernel_rfl
theorem un22 : Try.prog.underlying 22 = some (.int .u32) := by kernel_rfl

theorem open_place (h : DataW.trod enc Try.prog w base spare held fuel 56 cs = some x) : ∃ p : Int × Int, cs = [.int .i64 p.1, .int .i64 p.2] ∧ i64s p.1 ∧ i64s p.2 := by
  obtain ⟨xs, n, _, _, hl, hlen, hf⟩ := DataW.trod_struct Try.underlying56 h
  have h0 : DataW.trod enc Try.prog w base spare held n 54 ((cs.drop 0).take (Try.prog.cellsOf 54)) = xs[0]? := hf 0 _ rfl
  have h1 : DataW.trod enc Try.prog w base spare held n 3 ((cs.drop 1).take (Try.prog.cellsOf 3)) = xs[1]? := hf 1 _ rfl
  simp only [cells54, cells3] at h0 h1
  rw [cells56] at hl
  rw [List.getElem?_eq_getElem (by rw [hlen]; decide)] at h0 h1
  obtain ⟨a, e0, _, w0⟩ := DataW.trod_int un54 h0
  obtain ⟨b, e1, _, w1⟩ := DataW.trod_int un3 h1
  obtain ⟨c0, c1, rfl⟩ := len2 hl
  simp at e0 e1
  subst e0 e1
  exact ⟨(a, b), rfl, wf_i64 w0, wf_i64 w1⟩

/-- What lies in the heap's old part. -/
def oldS (w : World) (i : Nat) : Prop := i < w.heap.size

theorem cellsAt_lt {a : Addr} {i : Nat} {c : Value} {cs : List Value} (h : CellsAt w a i (c :: cs)) : a.block < w.heap.size := by
  have := World.block_lt_of_cell? w _ h.1
  rwa [add_block] at this

theorem open_places (h : DataW.trod enc Try.prog w base spare held fuel 47 cs = some x) : ∃ p n c ps, cs = [.slice p n c] ∧ n ≤ maxLen ∧ PlacesAt w (oldS w) p n ps := by
  obtain ⟨p, n, c, rfl, hn, hel⟩ := open_slice Try.underlying47 h
  obtain ⟨l, hl, hq⟩ := list_of (Q := fun j (x : Int × Int) => i64s x.1 ∧ i64s x.2 ∧ ∃ a, p = some a ∧ oldS w a.block ∧ CellsAt w (a.add (j * 2)) 0 [.int .i64 x.1, .int .i64 x.2]) (n := n) (fun i hi => by
    obtain ⟨a, cs', m, y, ha, hc, _, hy⟩ := hel i hi
    obtain ⟨q, rfl, k1, k2⟩ := open_place hy
    rw [cells56] at hc
    exact ⟨q, k1, k2, a, ha, by have := cellsAt_lt hc; rwa [add_block] at this, hc⟩)
  exact ⟨p, n, c, l, rfl, hn, hl, hq⟩

theorem open_touch (h : DataW.trod enc Try.prog w base spare held fuel 81 cs = some x) : ∃ (t : Tch) (q : Option Addr) (qn qc : Nat), cs = [.int .i64 t.1.1, .int .i64 t.1.2, .slice q qn qc] ∧ i64s t.1.1 ∧ i64s t.1.2 ∧ qn ≤ maxLen ∧ PlacesAt w (oldS w) q qn t.2 := by
  obtain ⟨xs, n, _, _, hl, hlen, hf⟩ := DataW.trod_struct Try.underlying81 h
  have h0 : DataW.trod enc Try.prog w base spare held n 56 ((cs.drop 0).take (Try.prog.cellsOf 56)) = xs[0]? := hf 0 _ rfl
  have h1 : DataW.trod enc Try.prog w base spare held n 47 ((cs.drop 2).take (Try.prog.cellsOf 47)) = xs[1]? := hf 1 _ rfl
  simp only [cells56, cells47] at h0 h1
  rw [cells81] at hl
  rw [List.getElem?_eq_getElem (by rw [hlen]; decide)] at h0 h1
  obtain ⟨p, e0, k1, k2⟩ := open_place h0
  obtain ⟨q, qn, qc, ps, e1, hq, hps⟩ := open_places h1
  obtain ⟨c0, c1, c2, rfl⟩ := len3 hl
  simp at e0 e1
  obtain ⟨rfl, rfl⟩ := e0
  subst e1
  exact ⟨(p, ps), q, qn, qc, rfl, k1, k2, hq, hps⟩

theorem open_touches (h : DataW.trod enc Try.prog w base spare held fuel 25 cs = some x) : ∃ p n c ts, cs = [.slice p n c] ∧ n ≤ maxLen ∧ TouchesAt w (oldS w) p n ts ∧ ∀ t ∈ ts, t.2.length ≤ maxLen := by
  obtain ⟨p, n, c, rfl, hn, hel⟩ := open_slice Try.underlying25 h
  obtain ⟨l, hl, hq⟩ := list_of (Q := fun j (t : Tch) => (i64s t.1.1 ∧ i64s t.1.2 ∧ ∃ a q qn qc, p = some a ∧ oldS w a.block ∧ CellsAt w (a.add (j * 3)) 0 [.int .i64 t.1.1, .int .i64 t.1.2, .slice q qn qc] ∧ PlacesAt w (oldS w) q qn t.2) ∧ t.2.length ≤ maxLen) (n := n) (fun i hi => by
    obtain ⟨a, cs', m, y, ha, hc, _, hy⟩ := hel i hi
    obtain ⟨t, q, qn, qc, rfl, k1, k2, k3, k4⟩ := open_touch hy
    rw [cells81] at hc
    exact ⟨t, ⟨k1, k2, a, q, qn, qc, ha, by have := cellsAt_lt hc; rwa [add_block] at this, hc, k4⟩, by rw [k4.length]; exact k3⟩)
  refine ⟨p, n, c, l, rfl, hn, ⟨hl, fun j t ht => (hq j t ht).1⟩, fun t ht => ?_⟩
  obtain ⟨j, hj⟩ := List.getElem?_of_mem ht
  exact (hq j t hj).2

/-- Places with sets. -/
structure MarksAt (w : World) (S : Nat → Prop) (p : Option Addr) (n : Nat) (ms : List Pr) : Prop where
  length : ms.length = n
  each : ∀ (j : Nat) (x : Pr), ms[j]? = some x → i64s x.1.2 ∧ 0 ≤ x.2 ∧ x.2 < 4294967296 ∧ ∃ a, p = some a ∧ S a.block ∧ CellsAt w (a.add (j * 3)) 0 [.int .i64 x.1.1, .int .i64 x.1.2, .int .u32 x.2]
theorem MarksAt.chg {w w' : World} {S : Nat → Prop} {p : Option Addr} {n : Nat} {ps : List Pr} {f : List Nat} (h : MarksAt w S p n ps) (hc : Chg f w w') (hf : ∀ i ∈ f, ¬ S i) : MarksAt w' S p n ps :=
  ⟨h.length, fun j x hx => let ⟨h1, h2, h3, a, h4, h5, h6⟩ := h.each j x hx; ⟨h1, h2, h3, a, h4, h5, hc.cells (by rw [add_block]; exact fun hm => hf _ hm h5) h6⟩⟩
theorem open_mark (h : DataW.trod enc Try.prog w base spare held fuel 134 cs = some x) : ∃ m : Pr, cs = [.int .i64 m.1.1, .int .i64 m.1.2, .int .u32 m.2] ∧ i64s m.1.2 ∧ 0 ≤ m.2 ∧ m.2 < 4294967296 := by
  obtain ⟨xs, n, _, _, hl, hlen, hf⟩ := DataW.trod_struct Try.underlying134 h
  have h0 : DataW.trod enc Try.prog w base spare held n 56 ((cs.drop 0).take (Try.prog.cellsOf 56)) = xs[0]? := hf 0 _ rfl
  have h1 : DataW.trod enc Try.prog w base spare held n 22 ((cs.drop 2).take (Try.prog.cellsOf 22)) = xs[1]? := hf 1 _ rfl
  simp only [cells56, cells22] at h0 h1
  rw [show Try.prog.cellsOf 134 = 3 by kernel_rfl] at hl
  rw [List.getElem?_eq_getElem (by rw [hlen]; decide)] at h0 h1
  obtain ⟨p, e0, k1, k2⟩ := open_place h0
  obtain ⟨st, e1, _, w1⟩ := DataW.trod_int un22 h1
  obtain ⟨c0, c1, c2, rfl⟩ := len3 hl
  simp at e0 e1
  obtain ⟨rfl, rfl⟩ := e0
  subst e1
  exact ⟨(p, st), rfl, k2, wf_u32 w1⟩
theorem open_marks (h : DataW.trod enc Try.prog w base spare held fuel 24 cs = some x) : ∃ p n c ms, cs = [.slice p n c] ∧ n ≤ maxLen ∧ MarksAt w (oldS w) p n ms := by
  obtain ⟨p, n, c, rfl, hn, hel⟩ := open_slice Try.underlying24 h
  obtain ⟨l, hl, hq⟩ := list_of (Q := fun j (x : Pr) => i64s x.1.2 ∧ 0 ≤ x.2 ∧ x.2 < 4294967296 ∧ ∃ a, p = some a ∧ oldS w a.block ∧ CellsAt w (a.add (j * 3)) 0 [.int .i64 x.1.1, .int .i64 x.1.2, .int .u32 x.2]) (n := n) (fun i hi => by
    obtain ⟨a, cs', m, y, ha, hc, _, hy⟩ := hel i hi
    obtain ⟨q, rfl, k1, k2, k3⟩ := open_mark hy
    rw [show Try.prog.cellsOf 134 = 3 by kernel_rfl] at hc
    exact ⟨q, k1, k2, k3, a, ha, by have := cellsAt_lt hc; rwa [add_block] at this, hc⟩)
  exact ⟨p, n, c, l, rfl, hn, hl, hq⟩
theorem open_two (h : DataW.trod enc Try.prog w base spare held fuel 23 cs = some x) : ∃ a b : Int, cs = [.int .u32 a, .int .u32 b] ∧ (0 ≤ a ∧ a < 4294967296) ∧ (0 ≤ b ∧ b < 4294967296) := by
  obtain ⟨xs, n, _, _, hl, hlen, hf⟩ := DataW.trod_array Try.underlying23 h
  have h0 := hf 0 (by omega)
  have h1 := hf 1 (by omega)
  simp only [cells22] at h0 h1
  rw [show Try.prog.cellsOf 23 = 2 by kernel_rfl] at hl
  rw [List.getElem?_eq_getElem (by omega)] at h0 h1
  obtain ⟨a, e0, _, w0⟩ := DataW.trod_int un22 h0
  obtain ⟨b, e1, _, w1⟩ := DataW.trod_int un22 h1
  obtain ⟨c0, c1, rfl⟩ := len2 hl
  simp at e0 e1
  subst e0 e1
  exact ⟨a, b, rfl, wf_u32 w0, wf_u32 w1⟩
end
end Go.Proofs.Ytkfncibmfcdokaa
