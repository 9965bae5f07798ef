/- Iterators over maps: maps.All, maps.Keys over the pages of a shadow. -/
import Derived.Test.YtkfncibmfcdokaaXIter
import Derived.Test.YtkfncibmfcdokaaXShadow2
import Derived.Test.YtkfncibmfcdokaaXG3
set_option linter.unusedVariables false
set_option linter.unusedSimpArgs false
namespace Go.Proofs.Ytkfncibmfcdokaa
open Go Go.RowKit Go.X Go.XR

theorem _root_.Go.X.IterAt.eq {K V : Type} [DecidableEq K] {ke : K → Value} {ve : V → Value} {w w' : World} {it m : Nat} {l done : List (K × V)} (h : IterAt w it m ke ve l done) (h1 : w'.heap[it]? = w.heap[it]?) (h2 : w'.heap[m]? = w.heap[m]?) : IterAt w' it m ke ve l done := by
  obtain ⟨es, clk, since, c0, seen, ds, a, b, b', c, rest⟩ := h
  exact ⟨es, clk, since, c0, seen, ds, h1.trans a, b, b', h2.trans c, rest⟩
theorem _root_.Go.X.IterAt.lt {K V : Type} [DecidableEq K] {ke : K → Value} {ve : V → Value} {w : World} {it m : Nat} {l done : List (K × V)} (h : IterAt w it m ke ve l done) : it < w.heap.size := by
  obtain ⟨es, clk, since, c0, seen, ds, a, _⟩ := h
  exact lt_of_heap a

def allS {K V α : Type} (f : K × V → α) (l : List (K × V)) (xs : List α) : Prop := ∃ done : List (K × V), xs = done.map f ∧ (done.map Prod.fst).Nodup ∧ (∀ x ∈ done, x ∈ l) ∧ ∀ x ∈ l, x ∈ done
def allSp {K V α : Type} (f : K × V → α) (l : List (K × V)) (xs : List α) : Prop := ∃ done : List (K × V), xs = done.map f ∧ (done.map Prod.fst).Nodup ∧ ∀ x ∈ done, x ∈ l

def pgF (x : Int × Nat) : Int × Option Addr := (x.1, some ⟨x.2, 0, none⟩)

theorem isFn118 (cb : Nat) : IsFn Try.prog (.func (.func 118) #[] #[.pointer (some ⟨cb, 0, none⟩)]) := ⟨118, Try.f118, _, rfl, Try.func118, by kernel_rfl, by kernel_rfl⟩
theorem iterates_all {w : World} {cb m : Nat} {l : List (Int × Nat)} (hcb : w.heap[cb]? = some (.cells #[.map (some m)] 173 (0, 0))) (hm : MapIs w m (fun n : Int => .int .i64 n) encPg l) :
    Iterates Try.prog (.func (.func 118) #[] #[.pointer (some ⟨cb, 0, none⟩)]) (fun x : Int × Option Addr => #[.int .i64 x.1, .pointer x.2]) (allS pgF l) (allSp pgF l) [cb, m] w := by
  intro W yv I Ix hW hI hIx h0 hround
  refine ⟨118, #[.pointer (some ⟨cb, 0, none⟩)], Try.f118, rfl, Try.func118, by kernel_rfl, by kernel_rfl, ?_⟩
  have hcW := hW.obj (by simp) hcb
  have hmW := hm.chg hW (by simp)
  have hlm := hmW.lt
  refine (go_maps_All_0_1 yv ⟨cb, 0, none⟩ W (fun w' => ∃ Own, InO W Own w' ∧ ((∃ xs, allS pgF l xs ∧ I Own xs w') ∨ ∃ pre, allSp pgF l pre ∧ Ix Own pre w')) ?_).mono (fun e w' h => ⟨⟨_, h.1⟩, h.2⟩)
  unfold W_maps_All_0_1
  obtain ⟨it, w1, hrg, c1, hit, hI1⟩ := iter_range (P := Try.prog) (T := 173) hmW u173
  refine ⟨_, by rw [cell_of hcW]; rfl, _, w1, hrg, ?_⟩
  have hne : it ≠ m := by omega
  have s1 := c1.size
  have hitlt := hI1.lt
  refine ⟨fun w2 => ∃ done, I [it] (done.map pgF) w2 ∧ IterAt w2 it m (fun n : Int => .int .i64 n) encPg l done ∧ w1.heap.size ≤ w2.heap.size, fun w2 => l.length - seenN w2 it, ⟨[], ?_, hI1, Nat.le_refl _⟩, ?_⟩
  · exact hI [] [] [it] W w1 h0 (by intro i hi; cases hi) c1 (by intro i hi; simp at hi; omega) (by intro i hi; simp at hi; omega)
  rintro w2 ⟨done, hi, hIt, s2⟩
  have hin : ∀ {A : World}, w1.heap.size ≤ A.heap.size → InO W [it] A := fun hA i hi => by simp at hi; omega
  rcases iter_next (P := Try.prog) hIt hne keyInt.inj 0 with ⟨hnx, hall⟩ | ⟨k, v, w3, hkl, hnew, hrun, c3, hI3, hent⟩
  · exact ⟨_, false, w2, hnx, rfl, fun h => by simp at h, fun _ => ⟨[it], hin s2, .inl ⟨_, ⟨done, rfl, hIt.sub.2.1, hIt.sub.1, hall⟩, hi⟩⟩⟩
  · have s3 := c3.size
    refine ⟨_, true, w3, hrun, rfl, fun _ => ⟨k, some ⟨v, 0, none⟩, hent, ?_⟩, fun h => by simp at h⟩
    have hi3 := hI (done.map pgF) [it] [it] w2 w3 hi (hin s2) c3 (hin (by omega)) (fun i h => .inl h)
    have e1 : done.map pgF ++ [(k, some ⟨v, 0, none⟩)] = (done ++ [(k, v)]).map pgF := by simp [pgF]
    refine (hround [it] (done.map pgF) (k, some ⟨v, 0, none⟩) w3 (hin (by omega)) ⟨done ++ [(k, v)], e1, hI3.sub.2.1, hI3.sub.1⟩ hi3).mono ?_
    rintro e w4 ⟨s4, ⟨rfl, hi4, hs4⟩ | ⟨rfl, hx4⟩⟩
    · refine ⟨true, rfl, fun h => by simp at h, fun _ => ⟨⟨done ++ [(k, v)], by rw [← e1]; exact hi4, hI3.eq (hs4 it (by simp)) (hs4 m (by simp)), by omega⟩, ?_⟩⟩
      have a1 := hIt.count
      have a2 := hI3.count
      have a3 := hIt.more hkl hnew
      have a4 : seenN w4 it = seenN w3 it := by unfold seenN; rw [hs4 it (by simp)]
      simp at a2
      simp only []
      omega
    · exact ⟨false, rfl, fun _ => ⟨[it], hin (by omega), .inr ⟨_, ⟨done ++ [(k, v)], e1, hI3.sub.2.1, hI3.sub.1⟩, hx4⟩⟩, fun h => by simp at h⟩

theorem isFn117 (cb : Nat) : IsFn Try.prog (.func (.func 117) #[] #[.pointer (some ⟨cb, 0, none⟩)]) := ⟨117, Try.f117, _, rfl, Try.func117, by kernel_rfl, by kernel_rfl⟩
theorem iterates_keys {w : World} {cb m : Nat} {l : List (Int × Nat)} (hcb : w.heap[cb]? = some (.cells #[.map (some m)] 173 (0, 0))) (hm : MapIs w m (fun n : Int => .int .i64 n) encPg l) :
    Iterates Try.prog (.func (.func 117) #[] #[.pointer (some ⟨cb, 0, none⟩)]) (fun x : Int => #[.int .i64 x]) (allS Prod.fst l) (allSp Prod.fst l) [cb, m] w := by
  intro W yv I Ix hW hI hIx h0 hround
  refine ⟨117, #[.pointer (some ⟨cb, 0, none⟩)], Try.f117, rfl, Try.func117, by kernel_rfl, by kernel_rfl, ?_⟩
  have hcW := hW.obj (by simp) hcb
  have hmW := hm.chg hW (by simp)
  have hlm := hmW.lt
  refine (go_maps_Keys_0_1 yv ⟨cb, 0, none⟩ W (fun w' => ∃ Own, InO W Own w' ∧ ((∃ xs, allS Prod.fst l xs ∧ I Own xs w') ∨ ∃ pre, allSp Prod.fst l pre ∧ Ix Own pre w')) ?_).mono (fun e w' h => ⟨⟨_, h.1⟩, h.2⟩)
  unfold W_maps_Keys_0_1
  obtain ⟨it, w1, hrg, c1, hit, hI1⟩ := iter_range (P := Try.prog) (T := 173) hmW u173
  refine ⟨_, by rw [cell_of hcW]; rfl, _, w1, hrg, ?_⟩
  have hne : it ≠ m := by omega
  have s1 := c1.size
  have hitlt := hI1.lt
  refine ⟨fun w2 => ∃ done, I [it] (done.map Prod.fst) w2 ∧ IterAt w2 it m (fun n : Int => .int .i64 n) encPg l done ∧ w1.heap.size ≤ w2.heap.size, fun w2 => l.length - seenN w2 it, ⟨[], ?_, hI1, Nat.le_refl _⟩, ?_⟩
  · exact hI [] [] [it] W w1 h0 (by intro i hi; cases hi) c1 (by intro i hi; simp at hi; omega) (by intro i hi; simp at hi; omega)
  rintro w2 ⟨done, hi, hIt, s2⟩
  have hin : ∀ {A : World}, w1.heap.size ≤ A.heap.size → InO W [it] A := fun hA i hi => by simp at hi; omega
  rcases iter_next (P := Try.prog) hIt hne keyInt.inj 0 with ⟨hnx, hall⟩ | ⟨k, v, w3, hkl, hnew, hrun, c3, hI3, hent⟩
  · exact ⟨_, false, w2, hnx, rfl, fun h => by simp at h, fun _ => ⟨[it], hin s2, .inl ⟨_, ⟨done, rfl, hIt.sub.2.1, hIt.sub.1, hall⟩, hi⟩⟩⟩
  · have s3 := c3.size
    refine ⟨_, true, w3, hrun, rfl, fun _ => ⟨k, some ⟨v, 0, none⟩, hent, ?_⟩, fun h => by simp at h⟩
    have hi3 := hI (done.map Prod.fst) [it] [it] w2 w3 hi (hin s2) c3 (hin (by omega)) (fun i h => .inl h)
    have e1 : done.map Prod.fst ++ [k] = (done ++ [(k, v)]).map Prod.fst := by simp
    refine (hround [it] (done.map Prod.fst) k w3 (hin (by omega)) ⟨done ++ [(k, v)], e1, hI3.sub.2.1, hI3.sub.1⟩ hi3).mono ?_
    rintro e w4 ⟨s4, ⟨rfl, hi4, hs4⟩ | ⟨rfl, hx4⟩⟩
    · refine ⟨true, rfl, fun h => by simp at h, fun _ => ⟨⟨done ++ [(k, v)], by rw [← e1]; exact hi4, hI3.eq (hs4 it (by simp)) (hs4 m (by simp)), by omega⟩, ?_⟩⟩
      have a1 := hIt.count
      have a2 := hI3.count
      have a3 := hIt.more hkl hnew
      have a4 : seenN w4 it = seenN w3 it := by unfold seenN; rw [hs4 it (by simp)]
      simp at a2
      simp only []
      omega
    · exact ⟨false, rfl, fun _ => ⟨[it], hin (by omega), .inr ⟨_, ⟨done ++ [(k, v)], e1, hI3.sub.2.1, hI3.sub.1⟩, hx4⟩⟩, fun h => by simp at h⟩
end Go.Proofs.Ytkfncibmfcdokaa
