/- slices.Sort over ints (by the shelf's contract), slices.Sorted. -/
import Derived.Test.YtkfncibmfcdokaaXCollect
import Derived.Shelf.SortM.Plain
import Derived.Shelf.SortM.SortNone
import Derived.Sort.OwnSortedInts
set_option linter.unusedVariables false
set_option linter.unusedSimpArgs false
namespace Go.Proofs.Ytkfncibmfcdokaa
open Go Go.RowKit Go.X Go.XR Go.Shelf

/-! The shelf's laying of slices.Sort (written by the kit's lay-plain) -/
def sortA_ren : Go.Shelf.Ren := ⟨fun | 5 => 116 | 8 => 136 | 7 => 135 | 19 => 150 | 20 => 151 | 10 => 141 | 11 => 142 | 12 => 143 | 13 => 144 | 14 => 145 | 15 => 146 | 16 => 147 | 17 => 148 | 18 => 149 | 30 => 160 | 31 => 161 | 32 => 162 | 33 => 163 | 34 => 164 | 35 => 140 | 40 => 168 | n => n, fun | 23 => 168 | 25 => 3 | 3 => 3 | 32 => 128 | 22 => 168 | 0 => 0 | 44 => 22 | 46 => 237 | 4 => 4 | 36 => 230 | 35 => 229 | 41 => 221 | 5 => 5 | 9 => 9 | 53 => 243 | 57 => 247 | 63 => 251 | 64 => 252 | n => n, fun | n => n⟩
theorem sortA : Go.Proofs.SlLaysM.n5 Try.prog sortA_ren := {
  mixed := by kernel_rfl
  f5 := ⟨Try.f116.name, by decide, Try.func116.trans (congrArg some (by kernel_rfl))⟩
  f7 := ⟨Try.f135.name, by decide, Try.func135.trans (congrArg some (by kernel_rfl))⟩
  f8 := Try.func136.trans (congrArg some (by kernel_rfl))
  f10 := ⟨Try.f141.name, by decide, Try.func141.trans (congrArg some (by kernel_rfl))⟩
  f11 := ⟨Try.f142.name, by decide, Try.func142.trans (congrArg some (by kernel_rfl))⟩
  f12 := ⟨Try.f143.name, by decide, Try.func143.trans (congrArg some (by kernel_rfl))⟩
  f13 := ⟨Try.f144.name, by decide, Try.func144.trans (congrArg some (by kernel_rfl))⟩
  f14 := ⟨Try.f145.name, by decide, Try.func145.trans (congrArg some (by kernel_rfl))⟩
  f15 := ⟨Try.f146.name, by decide, Try.func146.trans (congrArg some (by kernel_rfl))⟩
  f16 := ⟨Try.f147.name, by decide, Try.func147.trans (congrArg some (by kernel_rfl))⟩
  f17 := ⟨Try.f148.name, by decide, Try.func148.trans (congrArg some (by kernel_rfl))⟩
  f18 := ⟨Try.f149.name, by decide, Try.func149.trans (congrArg some (by kernel_rfl))⟩
  f19 := Try.func150.trans (congrArg some (by kernel_rfl))
  f20 := Try.func151.trans (congrArg some (by kernel_rfl))
  f30 := ⟨Try.f160.name, by decide, Try.func160.trans (congrArg some (by kernel_rfl))⟩
  f31 := Try.func161.trans (congrArg some (by kernel_rfl))
  f32 := Try.func162.trans (congrArg some (by kernel_rfl))
  f33 := ⟨Try.f163.name, by decide, Try.func163.trans (congrArg some (by kernel_rfl))⟩
  f34 := ⟨Try.f164.name, by decide, Try.func164.trans (congrArg some (by kernel_rfl))⟩
  f35 := ⟨Try.f140.name, by decide, Try.func140.trans (congrArg some (by kernel_rfl))⟩
  f40 := ⟨Try.f168.name, by decide, Try.func168.trans (congrArg some (by kernel_rfl))⟩
  t0 := Try.underlying0
  a0 := Try.isAgg0
  z0 := Try.sizeOf0
  v0 := Try.zeroValue0
  t3 := Try.underlying3
  a3 := Try.isAgg3
  z3 := Try.sizeOf3
  v3 := Try.zeroValue3
  t4 := Try.underlying4
  a4 := Try.isAgg4
  z4 := Try.sizeOf4
  v4 := Try.zeroValue4
  t5 := Try.underlying5
  a5 := Try.isAgg5
  z5 := Try.sizeOf5
  v5 := Try.zeroValue5
  t9 := Try.underlying9
  a9 := Try.isAgg9
  z9 := Try.sizeOf9
  v9 := Try.zeroValue9
  t22 := Try.underlying168
  a22 := Try.isAgg168
  z22 := Try.sizeOf168
  v22 := Try.zeroValue168
  t23 := Try.underlying168
  a23 := Try.isAgg168
  z23 := Try.sizeOf168
  v23 := Try.zeroValue168
  t25 := Try.underlying3
  a25 := Try.isAgg3
  z25 := Try.sizeOf3
  v25 := Try.zeroValue3
  t32 := Try.underlying128
  a32 := Try.isAgg128
  z32 := Try.sizeOf128
  v32 := Try.zeroValue128
  t35 := Try.underlying229
  a35 := Try.isAgg229
  z35 := Try.sizeOf229
  v35 := Try.zeroValue229
  t36 := Try.underlying230
  a36 := Try.isAgg230
  z36 := Try.sizeOf230
  v36 := Try.zeroValue230
  t41 := Try.underlying221
  a41 := Try.isAgg221
  z41 := Try.sizeOf221
  v41 := Try.zeroValue221
  t44 := Try.underlying22
  a44 := Try.isAgg22
  z44 := Try.sizeOf22
  v44 := Try.zeroValue22
  t46 := Try.underlying237
  a46 := Try.isAgg237
  z46 := Try.sizeOf237
  v46 := Try.zeroValue237
  t53 := Try.underlying243
  a53 := Try.isAgg243
  z53 := Try.sizeOf243
  v53 := Try.zeroValue243
  t57 := Try.underlying247
  a57 := Try.isAgg247
  z57 := Try.sizeOf247
  v57 := Try.zeroValue247
  t63 := Try.underlying251
  a63 := Try.isAgg251
  z63 := Try.sizeOf251
  v63 := Try.zeroValue251
  t64 := Try.underlying252
  a64 := Try.isAgg252
  z64 := Try.sizeOf252
  v64 := Try.zeroValue252 }

theorem sort_ints {w : World} {p : Option Addr} {n c : Nat} {xs : List Int} (h : RowAt w 3 1 p n c (xs.map (Value.int .i64))) (hn : n = xs.length) (hle : n ≤ 1000000) :
    Calls Try.prog 116 #[.slice p n c] w fun e w' => e = .returned (.tuple #[]) ∧ RowAt w' 3 1 p n c ((xs.mergeSort fun x y => decide (x ≤ y)).map (Value.int .i64)) ∧ Chg (rowB p) w w' := by
  subst hn
  rcases h.2 with ⟨hv, hz⟩ | ⟨g, cap, cur, hv, hb, hg, h1, h2, h3, h4⟩
  · obtain rfl : xs = [] := List.eq_nil_of_length_eq_zero hz
    cases hv
    refine (AnyM.slices_Sort_int_none sortA none 0 w).mono ?_
    rintro e w' ⟨rfl, rfl⟩
    exact ⟨rfl, by simpa using h, Chg.refl _ _⟩
  · cases hv
    refine (AnyM.slices_Sort_int sortA g 0 c xs w (holds_of_blockI hg (by simpa using h4)) (lt_of_heap hg) (by omega)).mono ?_
    rintro e w' ⟨rfl, nn, os, rfl⟩
    refine ⟨rfl, ?_, ?_⟩
    · exact ownsRow_sortedI (by simp) (Nat.zero_le _) hg h1 h2 h3
    · obtain ⟨k1, k2, k3, k4, k5⟩ := grownBy_sortedI (w := w) (g := g) (n := nn) (os := os) (xs.mergeSort fun x y => decide (x ≤ y)).toArray
      exact ⟨k1, k2, k3, k4, fun k hk hf => k5 k hk (fun e => hf (by simp [rowB] at e ⊢; omega))⟩

theorem sorted {w : World} {fv : Value} {S Sp : List Int → Prop} {keep : List Nat} (hf : IsFn Try.prog fv) (hi : Iterates Try.prog fv (fun x : Int => #[.int .i64 x]) S Sp keep w) (hk : ∀ i ∈ keep, i < w.heap.size)
    (hle : ∀ pre, Sp pre → pre.length ≤ 1000000) (hSp : ∀ xs, S xs → Sp xs) :
    Calls Try.prog 94 #[fv] w fun e w' => ∃ (p : Option Addr) (n c : Nat), e = .returned (.slice p n c) ∧ ∃ xs, S xs ∧ n = xs.length ∧ RowAt w' 3 1 p n c ((xs.mergeSort fun x y => decide (x ≤ y)).map (Value.int .i64)) ∧ Chg [] w w' ∧ ∀ b ∈ rowB p, w.heap.size ≤ b := by
  refine go_slices_Sorted_61 _ _ _ ?_
  unfold W_slices_Sorted_61
  refine (collect hf hi hk hle).mono ?_
  rintro _ w1 ⟨p, n, c, rfl, xs, hS, hn, hr, c1, hb⟩
  refine ⟨p, n, c, rfl, ?_⟩
  refine (sort_ints hr hn (by have := hle _ (hSp _ hS); omega)).mono ?_
  rintro _ w2 ⟨rfl, hr2, c2⟩
  exact ⟨rfl, xs, hS, hn, hr2, c1.trans c2 (fun i hi hlt => by have := hb i hi; omega), hb⟩
end Go.Proofs.Ytkfncibmfcdokaa
