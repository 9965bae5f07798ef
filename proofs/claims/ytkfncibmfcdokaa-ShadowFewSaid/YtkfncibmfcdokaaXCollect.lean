/- slices.AppendSeq, slices.Collect over iterators of ints. -/
import Derived.Test.YtkfncibmfcdokaaXMapIter
import Derived.Test.YtkfncibmfcdokaaXG6
set_option linter.unusedVariables false
set_option linter.unusedSimpArgs false
namespace Go.Proofs.Ytkfncibmfcdokaa
open Go Go.RowKit Go.X Go.XR

theorem _root_.Go.XR.Iterates.later {α : Type} {P : Program} {fv : Value} {enc : α → Array Value} {S Sp : List α → Prop} {keep : List Nat} {w w1 : World} (h : Iterates P fv enc S Sp keep w) (hc : Chg [] w w1) : Iterates P fv enc S Sp keep w1 :=
  fun W yv I Ix hW => h W yv I Ix (hc.trans0 hW)

theorem append_seq {w : World} {fv : Value} {S Sp : List Int → Prop} {keep : List Nat} (hf : IsFn Try.prog fv) (hi : Iterates Try.prog fv (fun x : Int => #[.int .i64 x]) S Sp keep w) (hk : ∀ i ∈ keep, i < w.heap.size)
    (hle : ∀ pre, Sp pre → pre.length ≤ 1000000) :
    Calls Try.prog 134 #[.slice none 0 0, fv] w fun e w' => ∃ (p : Option Addr) (n c : Nat), e = .returned (.slice p n c) ∧ ∃ xs, S xs ∧ n = xs.length ∧ RowAt w' 3 1 p n c (xs.map (Value.int .i64)) ∧ Chg [] w w' ∧ ∀ b ∈ rowB p, w.heap.size ≤ b := by
  refine go_slices_AppendSeq_577 _ _ _ _ _ _ ?_
  unfold W_slices_AppendSeq_577
  rintro b1 w1 ⟨hb1, hb2⟩ c1
  have s1 := c1.size
  refine ⟨S, Sp, keep, hf, hi.later c1, fun i h => Nat.lt_of_lt_of_le (hk i h) s1,
    fun p n c O pre w' => n = pre.length ∧ RowAt w' 3 1 p n c (pre.map (Value.int .i64)) ∧ (∀ b ∈ rowB p, b ∉ O ∧ w1.heap.size ≤ b) ∧ Chg [] w w' ∧ w1.heap.size ≤ w'.heap.size, ?_, ?_, ?_, ?_⟩
  · rintro p n c pre O O' A B ⟨k1, k2, k3, k4, k5⟩ hO hc hO' hg
    have hsz := hc.size
    refine ⟨k1, k2.chg hc (fun b hb => (k3 b hb).1), fun b hb => ⟨fun hm => ?_, (k3 b hb).2⟩, k4.trans hc (fun i hi hlt => by have := (hO i hi).1; omega), by omega⟩
    rcases hg _ hm with h | h
    · exact (k3 b hb).1 h
    · have := k2.lt b hb; omega
  · intro O w2 c2 hO
    exact ⟨rfl, RowAt.nil, by simp [rowB], c1.trans0 c2, c2.size⟩
  · rintro l1 O pre x p n c w2 hO hl1 hsp ⟨k1, k2, k3, k4, k5⟩ w3 c3
    have s3 := c3.size
    have hl := hO l1 hl1
    have hlp : ∀ b ∈ rowB p, b ∉ [l1] := fun b hb hm => by simp at hm; subst hm; exact (k3 _ hb).1 hl1
    refine v_alloc fun b2 w4 e2 hb2' c4 => ?_
    have s4 := c4.size
    have hlen := hle _ hsp
    simp at hlen
    have hr4 : RowAt w4 3 1 p n c (pre.map (Value.int .i64)) := (k2.chg c3 hlp).chg c4 (by simp)
    obtain ⟨p', c', w5, hrun, hr5, c5, hnew⟩ := hr4.append (P := Try.prog) (t := 168) (ty := 168) (i := Try.t3) (z := .int .i64 0) (bytes := 8) (by kernel_rfl) (by kernel_rfl) (by kernel_rfl) (by kernel_rfl) (by kernel_rfl) rfl (by omega) (a := ⟨b2, 0, none⟩) (m := 1) (mc := 1) (news := [Value.int .i64 x]) (by simp)
      (fun j u hj => by
        cases j with
        | zero => simp at hj; subst hj; rw [add_at, cell_of hb2']; rfl
        | succ j => simp at hj) (by simp; rfl) (by subst k1; unfold maxLen; omega) (by omega)
    have s5 := c5.size
    refine ⟨p', n + 1, c', w5, hrun, Same.of c5 (fun b hb => ⟨by simp at hb; omega, fun hm => by simp at hb; have := (k3 _ hm).2; omega⟩), fun w6 c6 => ?_⟩
    have s6 := c6.size
    have hnew' : ∀ b ∈ rowB p', b ∉ O ∧ w1.heap.size ≤ b := fun b hb => by
      rcases hnew b hb with h | h
      · exact k3 b h
      · exact ⟨fun hm => by have := (hO _ hm).2; omega, by omega⟩
    have c46 : Chg (b1 :: rowB p) w4 w6 := (c5.mono (fun i hi _ => List.mem_cons_of_mem _ hi)).trans c6 (fun i hi _ => by simp at hi; simp [hi])
    have c36 : Chg (b1 :: rowB p) w3 w6 := (c4.nil (f := b1 :: rowB p)).trans c46 (fun i hi _ => hi)
    refine ⟨by omega, ⟨by simp [k1], ?_, hnew', ?_, by omega⟩, ?_⟩
    · rw [List.map_append]
      exact hr5.chg c6 (fun b hb hm => by simp at hm; have := (hnew' b hb).2; omega)
    · have c03 : Chg [] w w3 := k4.trans c3 (fun i hi hlt => by simp at hi; omega)
      exact c03.trans c36 (fun i hi hlt => by
        rcases List.mem_cons.1 hi with h | h
        · omega
        · have := (k3 i h).2; omega)
    · refine Same.of c36 (fun b hb => ?_)
      rcases List.mem_append.1 hb with h | h
      · have := hk b h
        refine ⟨by omega, fun hm => ?_⟩
        rcases List.mem_cons.1 hm with h | h
        · omega
        · have := (k3 b h).2; omega
      · have := hO b h
        refine ⟨by omega, fun hm => ?_⟩
        rcases List.mem_cons.1 hm with h' | h'
        · omega
        · exact (k3 b h').1 h
  · rintro d O xs p n c w7 hO hd hS ⟨k1, k2, k3, k4, k5⟩ w8 c8
    exact ⟨xs, hS, k1, k2.chg c8 (fun b hb hm => by simp at hm; subst hm; exact (k3 _ hb).1 hd), k4.trans c8 (fun i hi hlt => by simp at hi; subst hi; have := (hO _ hd).1; omega), fun b hb => by have := (k3 b hb).2; omega⟩

theorem collect {w : World} {fv : Value} {S Sp : List Int → Prop} {keep : List Nat} (hf : IsFn Try.prog fv) (hi : Iterates Try.prog fv (fun x : Int => #[.int .i64 x]) S Sp keep w) (hk : ∀ i ∈ keep, i < w.heap.size)
    (hle : ∀ pre, Sp pre → pre.length ≤ 1000000) :
    Calls Try.prog 115 #[fv] w fun e w' => ∃ (p : Option Addr) (n c : Nat), e = .returned (.slice p n c) ∧ ∃ xs, S xs ∧ n = xs.length ∧ RowAt w' 3 1 p n c (xs.map (Value.int .i64)) ∧ Chg [] w w' ∧ ∀ b ∈ rowB p, w.heap.size ≤ b := by
  refine go_slices_Collect_61 _ _ _ ?_
  unfold W_slices_Collect_61
  refine (append_seq hf hi hk hle).mono ?_
  rintro _ w1 ⟨p, n, c, rfl, xs, h⟩
  exact ⟨p, n, c, rfl, xs, h⟩
end Go.Proofs.Ytkfncibmfcdokaa
