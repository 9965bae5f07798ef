/- Arguments that came in, opened: acts on flows. -/
import Derived.Test.YtkfncibmfcdokaaXActs
set_option linter.unusedVariables false
set_option linter.unusedSimpArgs false
namespace Go.Proofs.Ytkfncibmfcdokaa
open Go Go.RowKit Go.X Go.ChangeShapes Go.WideShapes Go.ChangeAt
theorem len6 {α : Type} {l : List α} (h : l.length = 6) : ∃ a b c d e f, l = [a, b, c, d, e, f] := by
  match l, h with
  | [a, b, c, d, e, f], _ => exact ⟨a, b, c, d, e, f, rfl⟩
section
variable {H : Type} {enc : TypeId × Value → H} {w : World} {base : Nat} {spare : Nat → Bool} {held : Bool} {fuel : Nat} {cs : List Value} {x : DataW H × List MemPlace}
theorem cells25 : Try.prog.cellsOf 25 = 1 := by kernel_rfl
theorem open_act (h : DataW.trod enc Try.prog w base spare held fuel 58 cs = some x) : ∃ (a : ActV) (q : Option Addr) (qn qc : Nat), cs = [.int .i64 a.kind, .int .i64 a.n, .int .i64 a.p.1, .int .i64 a.p.2, .int .u32 a.set, .slice q qn qc] ∧ ActAt w (oldS w) q qn qc a := by
  obtain ⟨xs, n, _, _, hl, hlen, hf⟩ := DataW.trod_struct Try.underlying58 h
  have h0 : DataW.trod enc Try.prog w base spare held n 3 ((cs.drop 0).take (Try.prog.cellsOf 3)) = xs[0]? := hf 0 _ rfl
  have h1 : DataW.trod enc Try.prog w base spare held n 3 ((cs.drop 1).take (Try.prog.cellsOf 3)) = xs[1]? := hf 1 _ rfl
  have h2 : DataW.trod enc Try.prog w base spare held n 56 ((cs.drop 2).take (Try.prog.cellsOf 56)) = xs[2]? := hf 2 _ rfl
  have h3 : DataW.trod enc Try.prog w base spare held n 22 ((cs.drop 4).take (Try.prog.cellsOf 22)) = xs[3]? := hf 3 _ rfl
  have h4 : DataW.trod enc Try.prog w base spare held n 25 ((cs.drop 5).take (Try.prog.cellsOf 25)) = xs[4]? := hf 4 _ rfl
  simp only [cells3, cells56, cells22, cells25] at h0 h1 h2 h3 h4
  rw [show Try.prog.cellsOf 58 = 6 by kernel_rfl] at hl
  rw [List.getElem?_eq_getElem (by rw [hlen]; decide)] at h0 h1 h2 h3 h4
  obtain ⟨k, e0, _, w0⟩ := DataW.trod_int un3 h0
  obtain ⟨m, e1, _, w1⟩ := DataW.trod_int un3 h1
  obtain ⟨p, e2, k1, k2⟩ := open_place h2
  obtain ⟨st, e3, _, w3⟩ := DataW.trod_int un22 h3
  obtain ⟨q, qn, qc, ts, e4, hq, hT, hTin⟩ := open_touches h4
  obtain ⟨c0, c1, c2, c3, c4, c5, rfl⟩ := len6 hl
  simp at e0 e1 e2 e3 e4
  obtain ⟨rfl, rfl⟩ := e2
  subst e0 e1 e3 e4
  exact ⟨⟨k, m, p, st, ts⟩, q, qn, qc, rfl, ⟨k1, k2⟩, wf_u32 w3, wf_i64 w1, hT, hq, hTin⟩
theorem open_acts (h : DataW.trod enc Try.prog w base spare held fuel 46 cs = some x) : ∃ p n c acts, cs = [.slice p n c] ∧ n ≤ maxLen ∧ ActsAt w (oldS w) p n acts := by
  obtain ⟨p, n, c, rfl, hn, hel⟩ := open_slice Try.underlying46 h
  obtain ⟨l, hl, hq⟩ := list_of (Q := fun j (a : ActV) => ∃ b q qn qc, p = some b ∧ oldS w b.block ∧ CellsAt w (b.add (j * 6)) 0 [.int .i64 a.kind, .int .i64 a.n, .int .i64 a.p.1, .int .i64 a.p.2, .int .u32 a.set, .slice q qn qc] ∧ ActAt w (oldS w) q qn qc a) (n := n) (fun i hi => by
    obtain ⟨a, cs', m, y, ha, hc, _, hy⟩ := hel i hi
    obtain ⟨v, q, qn, qc, rfl, hv⟩ := open_act hy
    rw [show Try.prog.cellsOf 58 = 6 by kernel_rfl] at hc
    exact ⟨v, a, q, qn, qc, ha, by have := cellsAt_lt hc; rwa [add_block] at this, hc, hv⟩)
  exact ⟨p, n, c, l, rfl, hn, hl, hq⟩
end
end Go.Proofs.Ytkfncibmfcdokaa
