/- Arguments that came in, opened: rules. -/
import Derived.Test.YtkfncibmfcdokaaXOpen2
set_option linter.unusedVariables false
set_option linter.unusedSimpArgs false
set_option maxRecDepth 100000
namespace Go.Proofs.Ytkfncibmfcdokaa
open Go Go.RowKit Go.X
theorem len5 {α : Type} {l : List α} (h : l.length = 5) : ∃ a b c d e, l = [a, b, c, d, e] := by
  obtain ⟨a1, l, rfl⟩ := List.exists_cons_of_length_eq_add_one h
  obtain ⟨a2, l, rfl⟩ := List.exists_cons_of_length_eq_add_one (by simpa using h)
  obtain ⟨a9, a10, a11, rfl⟩ := len3 (l := l) (by simpa using h)
  exact ⟨a1, a2, a9, a10, a11, rfl⟩
section
variable {H : Type} {enc : TypeId × Value → H} {w : World} {base : Nat} {spare : Nat → Bool} {held : Bool} {fuel : Nat} {x : DataW H × List MemPlace} {cs : List Value}
theorem cells64 : Try.prog.cellsOf 64 = 5 := by kernel_rfl
def u32s (n : Int) : Prop := 0 ≤ n ∧ n < 4294967296
theorem open_five (h : DataW.trod enc Try.prog w base spare held fuel 64 cs = some x) : ∃ a b c d e : Int, cs = [.int .u32 a, .int .u32 b, .int .u32 c, .int .u32 d, .int .u32 e] ∧ u32s a ∧ u32s b ∧ u32s c ∧ u32s d ∧ u32s e := by
  obtain ⟨xs, n, _, _, hl, hlen, hf⟩ := DataW.trod_array (n := 5) (e := 22) (by kernel_rfl) h
  have h0 := hf 0 (by omega)
  have h1 := hf 1 (by omega)
  have h2 := hf 2 (by omega)
  have h3 := hf 3 (by omega)
  have h4 := hf 4 (by omega)
  simp only [cells22] at h0 h1 h2 h3 h4
  rw [cells64] at hl
  rw [List.getElem?_eq_getElem (by omega)] at h0 h1 h2 h3 h4
  obtain ⟨a, e0, _, w0⟩ := DataW.trod_int un22 h0
  obtain ⟨b, e1, _, w1⟩ := DataW.trod_int un22 h1
  obtain ⟨c, e2, _, w2⟩ := DataW.trod_int un22 h2
  obtain ⟨d, e3, _, w3⟩ := DataW.trod_int un22 h3
  obtain ⟨e, e4, _, w4⟩ := DataW.trod_int un22 h4
  obtain ⟨c0, c1, c2, c3, c4, rfl⟩ := len5 hl
  simp at e0 e1 e2 e3 e4
  subst e0 e1 e2 e3 e4
  exact ⟨a, b, c, d, e, rfl, wf_u32 w0, wf_u32 w1, wf_u32 w2, wf_u32 w3, wf_u32 w4⟩
theorem open_rules (h : DataW.trod enc Try.prog w base spare held fuel 66 cs = some x) : ∃ a1 a2 a3 a4 a5 a6 a7 a8 a9 a10 a11 : Int, cs = [.int .u32 a1, .int .u32 a2, .int .u32 a3, .int .u32 a4, .int .u32 a5, .int .u32 a6, .int .u32 a7, .int .u32 a8, .int .u32 a9, .int .u32 a10, .int .u32 a11] ∧
    ∀ n ∈ [a1, a2, a3, a4, a5, a6, a7, a8, a9, a10, a11], u32s n := by
  obtain ⟨xs, n, _, _, hl, hlen, hf⟩ := DataW.trod_struct Try.underlying66 h
  have h0 : DataW.trod enc Try.prog w base spare held n 64 ((cs.drop 0).take (Try.prog.cellsOf 64)) = xs[0]? := hf 0 _ rfl
  have h1 : DataW.trod enc Try.prog w base spare held n 64 ((cs.drop 5).take (Try.prog.cellsOf 64)) = xs[1]? := hf 1 _ rfl
  have h2 : DataW.trod enc Try.prog w base spare held n 22 ((cs.drop 10).take (Try.prog.cellsOf 22)) = xs[2]? := hf 2 _ rfl
  simp only [cells64, cells22] at h0 h1 h2
  rw [show Try.prog.cellsOf 66 = 11 by kernel_rfl] at hl
  rw [List.getElem?_eq_getElem (by rw [hlen]; decide)] at h0 h1 h2
  obtain ⟨a1, a2, a3, a4, a5, e0, k1, k2, k3, k4, k5⟩ := open_five h0
  obtain ⟨a6, a7, a8, a9, a10, e1, k6, k7, k8, k9, k10⟩ := open_five h1
  obtain ⟨a11, e2, _, w2⟩ := DataW.trod_int un22 h2
  refine ⟨a1, a2, a3, a4, a5, a6, a7, a8, a9, a10, a11, ?_, ?_⟩
  · have hs : cs = cs.take 5 ++ ((cs.drop 5).take 5 ++ (cs.drop 10).take 1) := by
      have t1 := (List.take_append_drop 5 cs).symm
      have t2 := (List.take_append_drop 5 (cs.drop 5)).symm
      rw [List.drop_drop] at t2
      have t3 : (cs.drop 10).take 1 = cs.drop 10 := List.take_of_length_le (by rw [List.length_drop, hl]; omega)
      rw [t3]
      calc cs = cs.take 5 ++ cs.drop 5 := t1
        _ = cs.take 5 ++ ((cs.drop 5).take 5 ++ cs.drop 10) := by rw [← t2]
    rw [hs, e2, e1]
    rw [List.drop_zero] at e0
    rw [e0]
    rfl
  · have := wf_u32 w2
    simp only [List.mem_cons, List.not_mem_nil, or_false]
    rintro n (rfl | rfl | rfl | rfl | rfl | rfl | rfl | rfl | rfl | rfl | rfl) <;> assumption
end
end Go.Proofs.Ytkfncibmfcdokaa
