/- What a row's step of the shadow's laws needs: calls on a shadow that came in, opened. -/
import Derived.Test.YtkfncibmfcdokaaRows
import Derived.Test.YtkfncibmfcdokaaXOpen
import Derived.Test.YtkfncibmfcdokaaXPlayed
set_option linter.unusedVariables false
set_option linter.unusedSimpArgs false
namespace Go.Proofs.Ytkfncibmfcdokaa
open Go Go.RowKit Go.X Go.ChangeShapes Go.WideShapes Go.ChangeAt
theorem ownX : ownKnob Try.prog.godebug = none := by kernel_rfl
theorem laidOutX : laidOutB Try.prog = true := by kernel_rfl
theorem un3 : Try.prog.underlying 3 = some (.int .i64) := by kernel_rfl
theorem un22 : Try.prog.underlying 22 = some (.int .u32) := by kernel_rfl
theorem cells3 : Try.prog.cellsOf 3 = 1 := by kernel_rfl
theorem cells22 : Try.prog.cellsOf 22 = 1 := by kernel_rfl
theorem cells94 : Try.prog.cellsOf 94 = 4 := by kernel_rfl
theorem len4 {α : Type} {l : List α} (h : l.length = 4) : ∃ a b c d, l = [a, b, c, d] := by
  match l, h with
  | [a, b, c, d], _ => exact ⟨a, b, c, d, rfl⟩
section
variable {H : Type} {enc : TypeId × Value → H} {w : World} {base : Nat} {spare : Nat → Bool} {held : Bool} {fuel : Nat} {cs : List Value} {x : DataW H × List MemPlace}
theorem open_act3 (h : DataW.trod enc Try.prog w base spare held fuel 94 cs = some x) : ∃ a : Act3, cs = [.int .i64 a.what, .int .i64 a.at1, .int .i64 a.n, .int .u32 a.set] ∧ (-9223372036854775808 ≤ a.at1 ∧ a.at1 ≤ 9223372036854775807) ∧ 0 ≤ a.set := by
  obtain ⟨xs, n, _, _, hl, hlen, hf⟩ := DataW.trod_struct Try.underlying94 h
  have h0 : DataW.trod enc Try.prog w base spare held n 3 ((cs.drop 0).take (Try.prog.cellsOf 3)) = xs[0]? := hf 0 _ rfl
  have h1 : DataW.trod enc Try.prog w base spare held n 3 ((cs.drop 1).take (Try.prog.cellsOf 3)) = xs[1]? := hf 1 _ rfl
  have h2 : DataW.trod enc Try.prog w base spare held n 3 ((cs.drop 2).take (Try.prog.cellsOf 3)) = xs[2]? := hf 2 _ rfl
  have h3 : DataW.trod enc Try.prog w base spare held n 22 ((cs.drop 3).take (Try.prog.cellsOf 22)) = xs[3]? := hf 3 _ rfl
  simp only [cells3, cells22] at h0 h1 h2 h3
  rw [cells94] at hl
  rw [List.getElem?_eq_getElem (by rw [hlen]; decide)] at h0 h1 h2 h3
  obtain ⟨k, e0, _, w0⟩ := DataW.trod_int un3 h0
  obtain ⟨m, e1, _, w1⟩ := DataW.trod_int un3 h1
  obtain ⟨q, e2, _, w2⟩ := DataW.trod_int un3 h2
  obtain ⟨st, e3, _, w3⟩ := DataW.trod_int un22 h3
  obtain ⟨c0, c1, c2, c3, rfl⟩ := len4 hl
  simp at e0 e1 e2 e3
  subst e0 e1 e2 e3
  exact ⟨⟨k, m, q, st⟩, rfl, wf_i64 w1, (wf_u32 w3).1⟩
theorem open_acts3 (h : DataW.trod enc Try.prog w base spare held fuel 95 cs = some x) : ∃ p n c acts, cs = [.slice p n c] ∧ n ≤ maxLen ∧ Acts3At w p n acts := by
  obtain ⟨p, n, c, rfl, hn, hel⟩ := open_slice Try.underlying95 h
  obtain ⟨l, hl, hq⟩ := list_of (Q := fun j (a : Act3) => (-9223372036854775808 ≤ a.at1 ∧ a.at1 ≤ 9223372036854775807) ∧ 0 ≤ a.set ∧ ∃ b, p = some b ∧ b.block < w.heap.size ∧ CellsAt w (b.add (j * 4)) 0 [.int .i64 a.what, .int .i64 a.at1, .int .i64 a.n, .int .u32 a.set]) (n := n) (fun i hi => by
    obtain ⟨a, cs', m, y, ha, hc, _, hy⟩ := hel i hi
    obtain ⟨v, rfl, k1, k2⟩ := open_act3 hy
    rw [cells94] at hc
    exact ⟨v, k1, k2, a, ha, by have := World.block_lt_of_cell? w _ hc.1; rwa [add_block, add_block] at this, hc⟩)
  exact ⟨p, n, c, l, rfl, hn, hl, hq⟩
end
theorem acts_one {w : World} {b : Nat} {a : Act3} (hb : w.heap[b]? = some (.cells #[.int .i64 a.what, .int .i64 a.at1, .int .i64 a.n, .int .u32 a.set] 94 (0, 0))) (h1 : -9223372036854775808 ≤ a.at1 ∧ a.at1 ≤ 9223372036854775807) (h2 : 0 ≤ a.set) : Acts3At w (some ⟨b, 0, none⟩) 1 [a] := by
  refine ⟨rfl, fun j a' hj => ?_⟩
  cases j with
  | zero =>
    simp at hj; subst hj
    refine ⟨h1, h2, _, rfl, lt_of_heap hb, ?_⟩
    rw [Nat.zero_mul, add_at]
    exact cellsAt_of (cs := [.int .i64 a.what, .int .i64 a.at1, .int .i64 a.n, .int .u32 a.set]) hb
  | succ j => simp at hj
theorem is_both {w0 w : World} {pages : Int} {g : Int → Int} {s l : Option Addr} {n c : Nat} {fp : List Nat} (h : Both w0 w pages g s l n c fp) :
    Calls Try.prog 45 #[.pointer s, .slice l n c] w fun e w' => ∃ r : Bool, e = .returned (.bool r) ∧ (r = true ∧ Chg [] w w') := by
  obtain ⟨b, rfl, hS⟩ := h.shadow
  exact is_true hS h.row h.len
/-- What stands behind a last part that is all true. -/
theorem works_last {w0 w : World} (h : Chg [] w0 w) : Calls Try.prog 40 #[] w fun e w' => ∃ r : Bool, e = .returned (.bool r) ∧ (r = true ∧ Chg [] w0 w') :=
  (works_true w).mono fun e w' ⟨r, h1, h2, h3⟩ => ⟨r, h1, h2, h.trans0 h3⟩
end Go.Proofs.Ytkfncibmfcdokaa
