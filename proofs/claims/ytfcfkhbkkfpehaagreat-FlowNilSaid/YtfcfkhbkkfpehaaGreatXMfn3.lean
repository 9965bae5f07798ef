/- Texts of the claim, merged: XPSort XPCollect XDrawn XGfall XFAll XFlow3 XGz1 XGz3 XFSame XRef1 XRef2 XRef3 XRef4 XRel XOpen XOpen2 XPol1 XG1 XApply XPol2 XActs XGood XPages XMisc XSame12 XHfnil. -/
import Derived.Test.YtfcfkhbkkfpehaaGreatXMfn2
import Derived.Shelf.SlSortCmp.NoneTotal
import Derived.OrdersIn
import Derived.Test.YtfcfkhbkkfpehaaGreatProg
import Derived.WalkKit
import Derived.ProofKit
import Derived.OpenShut
import Derived.ChangeOld
import Derived.Carry

/- XPSort -/
section
/- slices.SortFunc over places (by the shelf's contract). -/
set_option linter.unusedVariables false
set_option linter.unusedSimpArgs false
namespace Go.Proofs.YtfcfkhbkkfpehaaGreat
open Go Go.RowKit Go.X Go.Shelf Go.Sort

/-! The shelf's laying of slices.SortFunc (written by the kit's lay-plain) -/
def sortP_ren : Go.Shelf.Ren := ⟨fun | 6 => 93 | 15 => 114 | 14 => 113 | 28 => 132 | 29 => 133 | 20 => 124 | 21 => 125 | 22 => 126 | 23 => 127 | 24 => 128 | 25 => 129 | 26 => 130 | 27 => 131 | 46 => 139 | 47 => 140 | 48 => 141 | 49 => 142 | 50 => 143 | 57 => 153 | n => n, fun | 22 => 63 | 24 => 62 | 25 => 141 | 3 => 3 | 39 => 198 | 0 => 0 | 53 => 22 | 55 => 214 | 4 => 4 | 46 => 208 | 45 => 207 | 50 => 193 | 5 => 5 | 9 => 9 | 66 => 219 | 70 => 223 | 76 => 231 | 77 => 92 | n => n, fun | n => n⟩
theorem sortP : Go.Proofs.SlLaysF0.n6 Tryz.prog sortP_ren := {
  mixed := by kernel_rfl
  f6 := ⟨Tryz.f93.name, by decide, Tryz.func93.trans (congrArg some (by kernel_rfl))⟩
  f14 := ⟨Tryz.f113.name, by decide, Tryz.func113.trans (congrArg some (by kernel_rfl))⟩
  f15 := Tryz.func114.trans (congrArg some (by kernel_rfl))
  f20 := ⟨Tryz.f124.name, by decide, Tryz.func124.trans (congrArg some (by kernel_rfl))⟩
  f21 := ⟨Tryz.f125.name, by decide, Tryz.func125.trans (congrArg some (by kernel_rfl))⟩
  f22 := ⟨Tryz.f126.name, by decide, Tryz.func126.trans (congrArg some (by kernel_rfl))⟩
  f23 := ⟨Tryz.f127.name, by decide, Tryz.func127.trans (congrArg some (by kernel_rfl))⟩
  f24 := ⟨Tryz.f128.name, by decide, Tryz.func128.trans (congrArg some (by kernel_rfl))⟩
  f25 := ⟨Tryz.f129.name, by decide, Tryz.func129.trans (congrArg some (by kernel_rfl))⟩
  f26 := ⟨Tryz.f130.name, by decide, Tryz.func130.trans (congrArg some (by kernel_rfl))⟩
  f27 := ⟨Tryz.f131.name, by decide, Tryz.func131.trans (congrArg some (by kernel_rfl))⟩
  f28 := Tryz.func132.trans (congrArg some (by kernel_rfl))
  f29 := Tryz.func133.trans (congrArg some (by kernel_rfl))
  f46 := ⟨Tryz.f139.name, by decide, Tryz.func139.trans (congrArg some (by kernel_rfl))⟩
  f47 := Tryz.func140.trans (congrArg some (by kernel_rfl))
  f48 := Tryz.func141.trans (congrArg some (by kernel_rfl))
  f49 := ⟨Tryz.f142.name, by decide, Tryz.func142.trans (congrArg some (by kernel_rfl))⟩
  f50 := ⟨Tryz.f143.name, by decide, Tryz.func143.trans (congrArg some (by kernel_rfl))⟩
  f57 := ⟨Tryz.f153.name, by decide, Tryz.func153.trans (congrArg some (by kernel_rfl))⟩
  t0 := Tryz.underlying0
  a0 := Tryz.isAgg0
  z0 := Tryz.sizeOf0
  v0 := Tryz.zeroValue0
  t3 := Tryz.underlying3
  a3 := Tryz.isAgg3
  z3 := Tryz.sizeOf3
  v3 := Tryz.zeroValue3
  t4 := Tryz.underlying4
  a4 := Tryz.isAgg4
  z4 := Tryz.sizeOf4
  v4 := Tryz.zeroValue4
  t5 := Tryz.underlying5
  a5 := Tryz.isAgg5
  z5 := Tryz.sizeOf5
  v5 := Tryz.zeroValue5
  t9 := Tryz.underlying9
  a9 := Tryz.isAgg9
  z9 := Tryz.sizeOf9
  v9 := Tryz.zeroValue9
  t22 := Tryz.underlying63
  a22 := Tryz.isAgg63
  z22 := Tryz.sizeOf63
  v22 := Tryz.zeroValue63
  t25 := Tryz.underlying141
  a25 := Tryz.isAgg141
  z25 := Tryz.sizeOf141
  v25 := Tryz.zeroValue141
  t39 := Tryz.underlying198
  a39 := Tryz.isAgg198
  z39 := Tryz.sizeOf198
  v39 := Tryz.zeroValue198
  t45 := Tryz.underlying207
  a45 := Tryz.isAgg207
  z45 := Tryz.sizeOf207
  v45 := Tryz.zeroValue207
  t46 := Tryz.underlying208
  a46 := Tryz.isAgg208
  z46 := Tryz.sizeOf208
  v46 := Tryz.zeroValue208
  t50 := Tryz.underlying193
  a50 := Tryz.isAgg193
  z50 := Tryz.sizeOf193
  v50 := Tryz.zeroValue193
  t53 := Tryz.underlying22
  a53 := Tryz.isAgg22
  z53 := Tryz.sizeOf22
  v53 := Tryz.zeroValue22
  t55 := Tryz.underlying214
  a55 := Tryz.isAgg214
  z55 := Tryz.sizeOf214
  v55 := Tryz.zeroValue214
  t66 := Tryz.underlying219
  a66 := Tryz.isAgg219
  z66 := Tryz.sizeOf219
  v66 := Tryz.zeroValue219
  t70 := Tryz.underlying223
  a70 := Tryz.isAgg223
  z70 := Tryz.sizeOf223
  v70 := Tryz.zeroValue223
  t76 := Tryz.underlying231
  a76 := Tryz.isAgg231
  z76 := Tryz.sizeOf231
  v76 := Tryz.zeroValue231
  t77 := Tryz.underlying92
  a77 := Tryz.isAgg92
  z77 := Tryz.sizeOf92
  v77 := Tryz.zeroValue92 }

def encPl (x : Int × Int) : List Value := [.int .i64 x.1, .int .i64 x.2]
def ltPl (x y : Int × Int) : Prop := x.1 < y.1 ∨ (x.1 = y.1 ∧ x.2 < y.2)
instance (x y : Int × Int) : Decidable (ltPl x y) := by unfold ltPl; exact inferInstance
theorem lt_cmpP (x y : Int × Int) : ltOf cmpP x y = decide (ltPl x y) := by
  unfold ltOf cmpP cmpI ltPl
  refine decide_eq_decide.2 ?_
  by_cases h1 : x.1 < y.1
  · simp [h1]
  · by_cases h2 : y.1 < x.1
    · simp [h1, h2]; omega
    · by_cases h3 : x.2 < y.2
      · simp [h1, h2, h3]; omega
      · by_cases h4 : y.2 < x.2
        · simp [h1, h2, h3, h4]
        · simp [h1, h2, h3, h4]
theorem swoP : SWO (ltOf cmpP) where
  irrefl x := by rw [lt_cmpP]; exact decide_eq_false (by unfold ltPl; omega)
  trans x y z h1 h2 := by rw [lt_cmpP] at *; have a := of_decide_eq_true h1; have b := of_decide_eq_true h2; exact decide_eq_true (by unfold ltPl at *; omega)
  ntrans x y z h1 h2 := by rw [lt_cmpP] at *; have a := of_decide_eq_false h1; have b := of_decide_eq_false h2; exact decide_eq_false (by unfold ltPl at *; omega)
theorem cmpLays103 (blk off size : Nat) (w : World) : CmpLays Tryz.prog 72 #[] encPl 2 cmpP blk off size w :=
  fun _ _ _ _ x y => order103 x y _

theorem flat_length2 (xs : List (Int × Int)) : (xs.flatMap encPl).length = xs.length * 2 := by
  induction xs with
  | nil => rfl
  | cons a l ih => rw [List.flatMap_cons, List.length_append, ih]; simp [encPl]; omega
theorem flat_get2 : ∀ (xs : List (Int × Int)) (j : Nat) (x : Int × Int), xs[j]? = some x → (xs.flatMap encPl)[j * 2]? = some (.int .i64 x.1) ∧ (xs.flatMap encPl)[j * 2 + 1]? = some (.int .i64 x.2)
  | [], j, x, h => by simp at h
  | a :: l, 0, x, h => by simp at h; subst h; simp [encPl]
  | a :: l, j + 1, x, h => by
    have := flat_get2 l j x (by simpa using h)
    simp only [List.flatMap_cons, encPl, List.cons_append, List.nil_append]
    rw [show (j + 1) * 2 = j * 2 + 1 + 1 by omega]
    simpa using this
theorem flatK_eq (xs : List (Int × Int)) : flatK encPl 2 xs.toArray = (xs.flatMap encPl).toArray := by
  refine ext_get! (by rw [size_flatK, List.size_toArray, List.size_toArray, flat_length2]) fun t ht => ?_
  have ht' : t < xs.length * 2 := by simpa using ht
  rw [get_flatK _ _ _ t (by simpa using ht')]
  have hj : t / 2 < xs.length := by omega
  have hx : xs[t / 2]? = some xs[t / 2] := List.getElem?_eq_getElem hj
  obtain ⟨g0, g1⟩ := flat_get2 xs (t / 2) _ hx
  have e1 : (xs.toArray[t / 2]!) = xs[t / 2] := by simp [hj]
  rw [e1]
  have hl : t < (xs.flatMap encPl).length := by rw [flat_length2]; exact ht'
  have e2 : (xs.flatMap encPl).toArray[t]! = (xs.flatMap encPl)[t] := by rw [getElem!_pos _ t (by simpa using hl)]; simp
  rw [e2]
  rcases Nat.mod_two_eq_zero_or_one t with h | h
  · rw [h]
    have : t / 2 * 2 = t := by omega
    rw [this, List.getElem?_eq_getElem hl] at g0
    rw [Option.some.inj g0]; rfl
  · rw [h]
    have : t / 2 * 2 + 1 = t := by omega
    rw [this, List.getElem?_eq_getElem hl] at g1
    rw [Option.some.inj g1]; rfl

theorem heap_sortedV {w : World} {g n : Nat} {os : Array Obj} {cur : Array Value} {e : TypeId} {fr : Nat × Nat} (F : Array Value) (hb : w.heap[g]? = some (.cells cur e fr)) :
    (grow (putRow id (Sort.ahead w n) g 0 F) os).heap[g]? = some (.cells (putCells id 0 F cur) e fr) := by
  have hg : g < w.heap.size := (Array.getElem?_eq_some_iff.1 hb).1
  rw [heap_grow_old _ _ (by simpa using hg)]
  simp [putRow, mapBlock, Sort.ahead, Array.getElem?_modify, hb, onCells]
theorem chg_sortedV {w : World} {g n : Nat} {os : Array Obj} (F : Array Value) : Chg [g] w (grow (putRow id (Sort.ahead w n) g 0 F) os) := by
  refine ⟨rfl, rfl, rfl, by simp, fun k hk hne => ?_⟩
  rw [heap_grow_old _ _ (by simpa using hk)]
  have : g ≠ k := fun e => hne (by simp [e])
  simp [putRow, mapBlock, Sort.ahead, Array.getElem?_modify, this]
theorem take_putCellsV (cur F : Array Value) (h : F.size ≤ cur.size) : (putCells id 0 F cur).toList.take F.size = F.toList := by
  apply List.ext_getElem?
  intro j
  by_cases hj : j < F.size
  · rw [List.getElem?_take_of_lt hj, Array.getElem?_toList]
    simp [putCells, hj, show j < cur.size by omega]
  · rw [List.getElem?_take_eq_none (by omega), List.getElem?_eq_none (by simp; omega)]

theorem sort_places {w : World} {p : Option Addr} {n c : Nat} {xs : List (Int × Int)} (h : RowAt w 62 2 p n c (xs.flatMap encPl)) (hn : n = xs.length) (hle : n ≤ 1000000000000) :
    Calls Tryz.prog 93 #[.slice p n c, .func (.func 72) #[] #[]] w fun e w' => e = .returned (.tuple #[]) ∧ ∃ ys : List (Int × Int), ys.Perm xs ∧ ys.Pairwise (fun a b => ¬ ltPl b a) ∧ RowAt w' 62 2 p n c (ys.flatMap encPl) ∧ Chg (rowB p) w w' := by
  subst hn
  rcases h.2 with ⟨hv, hz⟩ | ⟨g, cap, cur, hv, hb, hg, h1, h2, h3, h4⟩
  · obtain rfl : xs = [] := List.eq_nil_of_length_eq_zero hz
    cases hv
    refine (AnyF.slices_SortFunc_none sortP none 0 _ w).mono ?_
    rintro e w' ⟨rfl, rfl⟩
    exact ⟨rfl, [], List.Perm.refl _, List.Pairwise.nil, h, Chg.refl _ _⟩
  · cases hv
    have eg : ∀ args w, (callFunc 72 args).run Tryz.prog w = .ok (.enter 72 args) w := enters_of Tryz.func72 (by kernel_rfl) rfl
    have hH : HoldsK encPl 2 w g 0 xs.toArray := by
      unfold HoldsK
      rw [flatK_eq]
      intro j hj
      have hj' : j < (xs.flatMap encPl).length := by simpa using hj
      refine ⟨?_, by simp [World.frozen?, hg]⟩
      have e1 : cur.toList[j]? = (xs.flatMap encPl)[j]? := by
        rw [← h4, List.getElem?_take_of_lt (by rw [flat_length2] at hj'; omega)]
      simp only [World.cell?, hg, Nat.zero_add, Option.isSome_none, Bool.false_eq_true, if_false]
      rw [← Array.getElem?_toList, e1, List.getElem?_eq_getElem hj', getElem!_pos _ j (by simpa using hj')]
      simp
    have hcon := AnyQ.slices_SortFunc sortP 2 Tryz.isAgg62 Tryz.sizeOf62 encPl (fun _ => rfl) (fun x v hv => by simp [encPl] at hv; rcases hv with rfl | rfl <;> rfl) cmpP swoP 72 #[] g 0 c xs.toArray w eg (cmpLays103 g 0 _ w) hH (lt_of_heap hg) (by simp; omega)
    rw [List.size_toArray] at hcon
    refine Calls.mono hcon ?_
    rintro e w' ⟨rfl, d', nn, os, ⟨hs, _, hperm⟩, hsort, rfl⟩
    have hd : d'.toList.Perm xs := by
      have hs' : d'.size = xs.length := by simpa using hs
      have e1 : d'.extract 0 xs.length = d' := by rw [← hs']; simp
      have e2 : xs.toArray.extract 0 xs.length = xs.toArray := by simp
      rw [e1, e2] at hperm
      simpa using hperm
    have hlen : d'.toList.length = xs.length := hd.length_eq
    have hds : d' = d'.toList.toArray := by simp
    refine ⟨rfl, d'.toList, hd, ?_, ?_, ?_⟩
    · rw [List.pairwise_iff_getElem]
      intro i j hi hj hij
      have := hsort i j (Nat.zero_le _) hij (by omega)
      rw [lt_cmpP] at this
      have := of_decide_eq_false this
      rw [getElem!_pos d' j (by simpa using hj), getElem!_pos d' i (by simpa using hi)] at this
      simpa using this
    · unfold sortWorldK putRowK
      rw [hds, flatK_eq]
      have hF : ((d'.toList.flatMap encPl).toArray).size = xs.length * 2 := by rw [List.size_toArray, flat_length2, hlen]
      refine ⟨by rw [List.toList_toArray, flat_length2, hlen], .inr ⟨g, c, _, rfl, Nat.zero_le _, heap_sortedV _ hg, h1, h2, by simp [putCells, h3], ?_⟩⟩
      have := take_putCellsV cur (d'.toList.flatMap encPl).toArray (by rw [hF, h3]; exact Nat.mul_le_mul_right 2 h1)
      rw [hF] at this
      simpa using this
    · unfold sortWorldK putRowK
      simpa [rowB] using chg_sortedV (w := w) (g := g) (n := nn) (os := os) (flatK encPl 2 d')
end Go.Proofs.YtfcfkhbkkfpehaaGreat
end

/- XPCollect -/
section
/- maps.Keys over places; slices.Collect, slices.SortedFunc over them. -/
set_option linter.unusedVariables false
set_option linter.unusedSimpArgs false
namespace Go.Proofs.YtfcfkhbkkfpehaaGreat
open Go Go.RowKit Go.X Go.XR

theorem encP_inj : ∀ a b : Int × Int, encP a = encP b → a = b := fun a b h => by
  simp [encP] at h
  exact Prod.ext h.1 h.2

theorem maps_pkeys (w : World) (m : Option Nat) : Calls Tryz.prog 71 #[.map m] w fun e w' => ∃ r : Value, e = .returned r ∧ ∃ cb, r = .func (.func 94) #[] #[.pointer (some ⟨cb, 0, none⟩)] ∧ cb = w.heap.size ∧ w'.heap[cb]? = some (.cells #[.map m] 99 (0, 0)) ∧ Chg [] w w' := by
  refine go_maps_Keys_134 _ _ _ ?_
  unfold W_maps_Keys_134
  exact v_alloc fun b w1 e h c => ⟨b, rfl, e, h, c⟩

theorem isFn121 (cb : Nat) : IsFn Tryz.prog (.func (.func 94) #[] #[.pointer (some ⟨cb, 0, none⟩)]) := ⟨94, Tryz.f94, _, rfl, Tryz.func94, by kernel_rfl, by kernel_rfl⟩
theorem iterates_pkeys {w : World} {cb m : Nat} {l : List ((Int × Int) × Int)} (hcb : w.heap[cb]? = some (.cells #[.map (some m)] 99 (0, 0))) (hm : MapIs w m encP (fun n : Int => .int .u32 n) l) :
    Iterates Tryz.prog (.func (.func 94) #[] #[.pointer (some ⟨cb, 0, none⟩)]) (fun x : Int × Int => #[.agg #[.int .i64 x.1, .int .i64 x.2]]) (allS Prod.fst l) (allSp Prod.fst l) [cb, m] w := by
  intro W yv I Ix hW hI hIx h0 hround
  refine ⟨94, #[.pointer (some ⟨cb, 0, none⟩)], Tryz.f94, rfl, Tryz.func94, by kernel_rfl, by kernel_rfl, ?_⟩
  have hcW := hW.obj (by simp) hcb
  have hmW := hm.chg hW (by simp)
  have hlm := hmW.lt
  refine (go_maps_Keys_134_1 yv ⟨cb, 0, none⟩ W (fun w' => ∃ Own, InO W Own w' ∧ ((∃ xs, allS Prod.fst l xs ∧ I Own xs w') ∨ ∃ pre, allSp Prod.fst l pre ∧ Ix Own pre w')) ?_).mono (fun e w' h => ⟨⟨_, h.1⟩, h.2⟩)
  unfold W_maps_Keys_134_1
  obtain ⟨it, w1, hrg, c1, hit, hI1⟩ := iter_range (P := Tryz.prog) (T := 99) hmW u143
  refine ⟨_, by rw [cell_of hcW]; rfl, _, w1, hrg, ?_⟩
  have hne : it ≠ m := by omega
  have s1 := c1.size
  have hitlt := hI1.lt
  refine ⟨fun w2 => ∃ done, I [it] (done.map Prod.fst) w2 ∧ IterAt w2 it m encP (fun n : Int => .int .u32 n) l done ∧ w1.heap.size ≤ w2.heap.size, fun w2 => l.length - seenN w2 it, ⟨[], ?_, hI1, Nat.le_refl _⟩, ?_⟩
  · exact hI [] [] [it] W w1 h0 (by intro i hi; cases hi) c1 (by intro i hi; simp at hi; omega) (by intro i hi; simp at hi; omega)
  rintro w2 ⟨done, hi, hIt, s2⟩
  have hin : ∀ {A : World}, w1.heap.size ≤ A.heap.size → InO W [it] A := fun hA i hi => by simp at hi; omega
  rcases iter_next (P := Tryz.prog) hIt hne encP_inj 0 with ⟨hnx, hall⟩ | ⟨k, v, w3, hkl, hnew, hrun, c3, hI3, hent⟩
  · exact ⟨_, false, w2, hnx, rfl, fun h => by simp at h, fun _ => ⟨[it], hin s2, .inl ⟨_, ⟨done, rfl, hIt.sub.2.1, hIt.sub.1, hall⟩, hi⟩⟩⟩
  · have s3 := c3.size
    refine ⟨_, true, w3, hrun, rfl, fun _ => ⟨k.1, k.2, v, hent, ?_⟩, fun h => by simp at h⟩
    rintro b1 w5 ⟨q1, q2⟩ c5
    have s5 := c5.size
    have hI5 := hI3.chg c5 (by simp) (by simp)
    have hi3 := hI (done.map Prod.fst) [it] [it] w2 w3 hi (hin s2) c3 (hin (by omega)) (fun i h => .inl h)
    have hi5 := hI (done.map Prod.fst) [it] [it] w3 w5 hi3 (hin (by omega)) c5.nil (hin (by omega)) (fun i h => .inl h)
    have e1 : done.map Prod.fst ++ [k] = (done ++ [(k, v)]).map Prod.fst := by simp
    refine (hround [it] (done.map Prod.fst) k w5 (hin (by omega)) ⟨done ++ [(k, v)], e1, hI3.sub.2.1, hI3.sub.1⟩ hi5).mono ?_
    rintro e w4 ⟨s4, ⟨rfl, hi4, hs4⟩ | ⟨rfl, hx4⟩⟩
    · refine ⟨true, rfl, fun h => by simp at h, fun _ => ⟨⟨done ++ [(k, v)], by rw [← e1]; exact hi4, hI5.eq (hs4 it (by simp)) (hs4 m (by simp)), by omega⟩, ?_⟩⟩
      have a1 := hIt.count
      have a2 := hI5.count
      have a3 := hIt.more hkl hnew
      have a4 : seenN w4 it = seenN w5 it := by unfold seenN; rw [hs4 it (by simp)]
      simp at a2
      simp only []
      omega
    · exact ⟨false, rfl, fun _ => ⟨[it], hin (by omega), .inr ⟨_, ⟨done ++ [(k, v)], e1, hI3.sub.2.1, hI3.sub.1⟩, hx4⟩⟩, fun h => by simp at h⟩

theorem Iterates_later {α : Type} {P : Program} {fv : Value} {enc : α → Array Value} {S Sp : List α → Prop} {keep : List Nat} {w w1 : World} (h : Iterates P fv enc S Sp keep w) (hc : Chg [] w w1) : Iterates P fv enc S Sp keep w1 :=
  fun W yv I Ix hW => h W yv I Ix (hc.trans0 hW)
theorem append_pseq {w : World} {fv : Value} {S Sp : List (Int × Int) → Prop} {keep : List Nat} (hf : IsFn Tryz.prog fv) (hi : Iterates Tryz.prog fv (fun x : Int × Int => #[.agg #[.int .i64 x.1, .int .i64 x.2]]) S Sp keep w) (hk : ∀ i ∈ keep, i < w.heap.size)
    (hle : ∀ pre, Sp pre → pre.length ≤ 1000000000000) :
    Calls Tryz.prog 112 #[.slice none 0 0, fv] w fun e w' => ∃ (p : Option Addr) (n c : Nat), e = .returned (.slice p n c) ∧ ∃ xs, S xs ∧ n = xs.length ∧ RowAt w' 62 2 p n c (xs.flatMap encPl) ∧ Chg [] w w' ∧ ∀ b ∈ rowB p, w.heap.size ≤ b := by
  refine go_slices_AppendSeq_194 _ _ _ _ _ _ ?_
  unfold W_slices_AppendSeq_194
  rintro b1 w1 ⟨hb1, hb2⟩ c1
  have s1 := c1.size
  refine ⟨S, Sp, keep, hf, Iterates_later hi c1, fun i h => Nat.lt_of_lt_of_le (hk i h) s1,
    fun p n c O pre w' => n = pre.length ∧ RowAt w' 62 2 p n c (pre.flatMap encPl) ∧ (∀ b ∈ rowB p, b ∉ O ∧ w1.heap.size ≤ b) ∧ Chg [] w w' ∧ w1.heap.size ≤ w'.heap.size, ?_, ?_, ?_, ?_⟩
  · rintro p n c pre O O' A B ⟨k1, k2, k3, k4, k5⟩ hO hc hO' hg
    have hsz := hc.size
    refine ⟨k1, k2.chg hc (fun b hb => (k3 b hb).1), fun b hb => ⟨fun hm => ?_, (k3 b hb).2⟩, k4.trans hc (fun i hi hlt => by have := (hO i hi).1; omega), by omega⟩
    rcases hg _ hm with h | h
    · exact (k3 b hb).1 h
    · have := k2.lt b hb; omega
  · intro O w2 c2 hO
    exact ⟨rfl, RowAt.nil, by simp [rowB], c1.trans0 c2, c2.size⟩
  · rintro l1 O pre x1 x2 p n c w2 hO hl1 hsp ⟨k1, k2, k3, k4, k5⟩ b2 w3 ⟨q1, q2⟩ c3
    have s3 := c3.size
    have hl := hO l1 hl1
    have hlp : ∀ b ∈ rowB p, b ∉ [l1] := fun b hb hm => by simp at hm; subst hm; exact (k3 _ hb).1 hl1
    refine v_alloc fun b3 w4 e2 hb2' c4 => ?_
    have s4 := c4.size
    have hlen := hle _ hsp
    simp at hlen
    have hr4 : RowAt w4 62 2 p n c (pre.flatMap encPl) := (k2.chg c3 hlp).chg c4 (by simp)
    obtain ⟨p', c', w5, hrun, hr5, c5, hnew⟩ := hr4.append (P := Tryz.prog) (t := 63) (ty := 63) (i := Tryz.t62) (z := .agg #[.int .i64 0, .int .i64 0]) (bytes := 16) (by kernel_rfl) (by kernel_rfl) (by kernel_rfl) (by kernel_rfl) (by kernel_rfl) rfl (by omega) (a := ⟨b3, 0, none⟩) (m := 1) (mc := 1) (news := [Value.int .i64 x1, Value.int .i64 x2]) (by simp)
      (fun j u hj => by
        match j, hj with
        | 0, hj => simp at hj; subst hj; rw [add_at, cell_of hb2']; rfl
        | 1, hj => simp at hj; subst hj; rw [add_at, cell_of hb2']; rfl
        | j + 2, hj => simp at hj) (by simp; exact ⟨rfl, rfl⟩) (by subst k1; unfold maxLen; omega) (by omega)
    have s5 := c5.size
    refine ⟨p', n + 1, c', w5, hrun, Same.of c5 (fun b hb => ⟨by simp at hb; omega, fun hm => by simp at hb; have := (k3 _ hm).2; omega⟩), fun w6 c6 => ?_⟩
    have s6 := c6.size
    have hnew' : ∀ b ∈ rowB p', b ∉ O ∧ w1.heap.size ≤ b := fun b hb => by
      rcases hnew b hb with h | h
      · exact k3 b h
      · exact ⟨fun hm => by have := (hO _ hm).2; omega, by omega⟩
    have c46 : Chg (b1 :: rowB p) w4 w6 := (c5.mono (fun i hi _ => List.mem_cons_of_mem _ hi)).trans c6 (fun i hi _ => by simp at hi; simp [hi])
    have c36 : Chg (b1 :: rowB p) w3 w6 := (c4.nil (f := b1 :: rowB p)).trans c46 (fun i hi _ => hi)
    refine ⟨by omega, ⟨by simp [k1], ?_, hnew', ?_, by omega⟩, ?_⟩
    · rw [List.flatMap_append]
      exact hr5.chg c6 (fun b hb hm => by simp at hm; have := (hnew' b hb).2; omega)
    · have c03 : Chg [] w w3 := k4.trans c3 (fun i hi hlt => by simp at hi; omega)
      exact c03.trans c36 (fun i hi hlt => by
        rcases List.mem_cons.1 hi with h | h
        · omega
        · have := (k3 i h).2; omega)
    · refine Same.of c36 (fun b hb => ?_)
      rcases List.mem_append.1 hb with h | h
      · have := hk b h
        refine ⟨by omega, fun hm => ?_⟩
        rcases List.mem_cons.1 hm with h | h
        · omega
        · have := (k3 b h).2; omega
      · have := hO b h
        refine ⟨by omega, fun hm => ?_⟩
        rcases List.mem_cons.1 hm with h' | h'
        · omega
        · exact (k3 b h').1 h
  · rintro d O xs p n c w7 hO hd hS ⟨k1, k2, k3, k4, k5⟩ w8 c8
    exact ⟨xs, hS, k1, k2.chg c8 (fun b hb hm => by simp at hm; subst hm; exact (k3 _ hb).1 hd), k4.trans c8 (fun i hi hlt => by simp at hi; subst hi; have := (hO _ hd).1; omega), fun b hb => by have := (k3 b hb).2; omega⟩

theorem sorted_places {w : World} {fv : Value} {S Sp : List (Int × Int) → Prop} {keep : List Nat} (hf : IsFn Tryz.prog fv) (hi : Iterates Tryz.prog fv (fun x : Int × Int => #[.agg #[.int .i64 x.1, .int .i64 x.2]]) S Sp keep w) (hk : ∀ i ∈ keep, i < w.heap.size)
    (hle : ∀ pre, Sp pre → pre.length ≤ 1000000000000) (hSp : ∀ xs, S xs → Sp xs) :
    Calls Tryz.prog 70 #[fv, .func (.func 72) #[] #[]] w fun e w' => ∃ (p : Option Addr) (n c : Nat), e = .returned (.slice p n c) ∧ ∃ xs ys : List (Int × Int), S xs ∧ ys.Perm xs ∧ ys.Pairwise (fun a b => ¬ ltPl b a) ∧ n = ys.length ∧ RowAt w' 62 2 p n c (ys.flatMap encPl) ∧ Chg [] w w' ∧ ∀ b ∈ rowB p, w.heap.size ≤ b := by
  refine go_slices_SortedFunc_841 _ _ _ _ ?_
  unfold W_slices_SortedFunc_841
  refine (go_slices_Collect_841 _ _ (fun p n c w' => ∃ xs, S xs ∧ n = xs.length ∧ RowAt w' 62 2 p n c (xs.flatMap encPl) ∧ Chg [] w w' ∧ ∀ b ∈ rowB p, w.heap.size ≤ b) ?_).mono ?_
  · unfold W_slices_Collect_841
    refine (append_pseq hf hi hk hle).mono ?_
    rintro _ w1 ⟨p, n, c, rfl, h⟩
    exact ⟨p, n, c, rfl, h⟩
  rintro _ w1 ⟨p, n, c, rfl, xs, hS, hn, hr, c1, hb⟩
  refine ⟨p, n, c, rfl, ?_⟩
  refine (sort_places hr hn (by have := hle _ (hSp _ hS); omega)).mono ?_
  rintro _ w2 ⟨rfl, ys, hp, hs, hr2, c2⟩
  exact ⟨rfl, xs, ys, hS, hp, hs, by rw [hp.length_eq]; exact hn, hr2, c1.trans c2 (fun i hi hlt => by have := hb i hi; omega), hb⟩
end Go.Proofs.YtfcfkhbkkfpehaaGreat
end

/- XDrawn -/
section
/- Regions that draw their order, in codes that call rounds. -/
set_option linter.unusedVariables false
set_option linter.unusedSimpArgs false
set_option linter.unusedSectionVars false
namespace Go.XR
open Go Go.X Go.RowKit

section
variable {P : Program} {ops : Array Oper} {Q : Exit → Act → World → Prop} {S : World → Prop} {z : Nat} {ro : Option Nat}

/-- No operation defers. -/
def noDefer (ops : Array Oper) : Bool := ops.toList.all fun o => !isDefer o
theorem noDefer_at {j : Nat} {o : Oper} (h : noDefer ops = true) (hj : ops[j]? = some o) : isDefer o = false := by
  have := List.all_eq_true.1 h o (by rw [Array.getElem?_eq_some_iff] at hj; obtain ⟨hi, rfl⟩ := hj; simp)
  simpa using this

theorem YieldsIf.wpOpIn {i : Nat} {o : Oper} {v : Value} {a : Act} (hi : ops[i]? = some o) (hdf : isDefer o = false) (hy : YieldsIf P ops S o v a)
    {K : Act → World → Prop} {w : World} (hS : S w) (h : K (a.put o.dst v) w) : wpOpIn (FR ro) 0 P ops Q i K a w := by
  unfold Go.wpOpIn
  simp only [hi]
  rcases hy with ⟨hw, hv⟩ | ⟨hw, rfl⟩
  · simp only [hw, if_true, Oper.wpIn]; rw [semAt_of hdf, hv w hS]; exact ⟨fun _ _ => trivial, h⟩
  · simp only [hw, Bool.false_eq_true, if_false]; exact ⟨fun _ _ => trivial, h⟩

theorem wpOpIn_putIf {j : Nat} {oi oj : Oper} {v : Value} (hj : ops[j]? = some oj) (hdf : isDefer oj = false) (hap : oi.apart ops oj = true)
    (hsi : ∀ cs b, oi.op ≠ .select cs b) (hsj : ∀ cs b, oj.op ≠ .select cs b)
    (hQ : ∀ c a w, Q (.panic c) (a.put oi.dst v) w → Q (.panic c) a w) {K : Act → World → Prop} {a : Act} {w : World}
    (hy : YieldsIf P ops S oi v a) (h : wpOpIn (FR ro) 0 P ops Q j K (a.put oi.dst v) w) :
    wpOpIn (FR ro) 0 P ops Q j (fun a' w' => YieldsIf P ops S oi v a' ∧ K (a'.put oi.dst v) w') a w := by
  obtain ⟨h1, h2, h3⟩ := Oper.apart_spec hap
  have keep : ∀ (a : Act), YieldsIf P ops S oi v a → ∀ u, YieldsIf P ops S oi v (a.put oj.dst u) := fun a hy u =>
    hy.of_same (execOp_put oi hsi a oj.dst u h3) (wanted_put oi a oj.dst u h3)
  have keepD : ∀ d, YieldsIf P ops S oi v { a with defers := d :: a.defers } := fun d => hy.of_same rfl rfl
  unfold wpOpIn at *
  simp only [hj] at *
  rw [wanted_put oj a oi.dst v h1] at h
  split
  · rename_i hw
    simp only [hw, if_true] at h
    unfold Oper.wpIn at *
    refine ⟨fun _ _ => trivial, ?_⟩
    have h := h.2
    rw [semAt_of hdf, execOp_put oj hsj a oi.dst v h1] at h
    rw [semAt_of hdf]
    generalize (execOp a.eval oj).run P w = r at *
    cases r with
    | ok x w' =>
      cases x <;> simp only [Oper.uponIn] at h ⊢
      case value u => exact ⟨keep a hy u, by rw [← Act.put_comm a v u h2]; exact h⟩
      case skip => exact ⟨keep a hy _, by rw [← Act.put_comm a v undef h2]; exact h⟩
      case defer d =>
        refine ⟨keep _ (keepD d) _, ?_⟩
        rw [← Act.put_comm _ v undef h2, ← Act.put_defers]
        exact h
      case enter f args =>
        refine ⟨h.1, CallsIn.mono h.2 fun e w'' he => ?_⟩
        cases e with
        | returned u => exact ⟨keep a hy u, by rw [← Act.put_comm a v u h2]; exact he⟩
        | panicked c => exact hQ _ _ _ he
        | outgrown => exact he
      case row row args => exact ⟨h.1, RowsIn.mono h.2 fun u w'' he => ⟨keep a hy u, by rw [← Act.put_comm a v u h2]; exact he⟩⟩
      case round l f tmps assign body =>
        refine ⟨h.1, RoundIn.mono h.2 fun e w'' he => ?_⟩
        cases e with
        | returned u => exact ⟨keep a hy u, by rw [← Act.put_comm a v u h2]; exact he⟩
        | panicked c => exact hQ _ _ _ he
        | outgrown => exact he
    | halt x w' =>
      cases x <;> simp only [Oper.uponIn] at h ⊢
      case panic u => exact hQ _ _ _ h
  · rename_i hw
    simp only [hw] at h
    exact ⟨fun _ _ => trivial, keep a hy _, by rw [← Act.put_comm a v undef h2]; exact h.2⟩

/-- Whatever comes up next; behind each operation that comes up ahead of z S holds. -/
def AH (ro : Option Nat) (P : Program) (ops : Array Oper) (Q : Exit → Act → World → Prop) (S : World → Prop) (z : Nat) : Nat → Array Bool → Act → World → Prop
  | 0, l, a, w => Region.ready .any ops l = [] ∧ Q .normal a w
  | n + 1, l, a, w => (Region.ready .any ops l = [] → Q .normal a w) ∧
    ∀ i ∈ Region.ready .any ops l, wpOpIn (FR ro) 0 P ops Q i (fun a' w' => ((l.setIfInBounds i true).getD z false = false → S w') ∧ AH ro P ops Q S z n (l.setIfInBounds i true) a' w') a w

theorem AH.any : ∀ (n : Nat) (l : Array Bool) (a : Act) (w : World), AH ro P ops Q S z n l a w → wpAnyIn (FR ro) 0 P .any ops Q n l a w
  | 0, _, _, _, h => h
  | n + 1, _, _, _, h => ⟨h.1, fun i hi => wpOpIn_mono (fun a' w' h' => AH.any n _ a' w' h'.2) (h.2 i hi)⟩

theorem AH.first {S₀ : World → Prop} {i : Nat} {oi : Oper} {v : Value} (hnd : noDefer ops = true) (hi : ops[i]? = some oi) (hsel : ∀ (j : Nat) (o : Oper) cs b, ops[j]? = some o → o.op ≠ .select cs b)
    (hQ : ∀ c a w, Q (.panic c) (a.put oi.dst v) w → Q (.panic c) a w) (hz : i ≠ z)
    (hS₀ : ∀ l w, Shut ops l → l.getD i true = false → (l.getD z false = false → S w) → S₀ w) :
    ∀ (n : Nat) (l : Array Bool) (a : Act) (w : World),
      (∀ j oj, ops[j]? = some oj → j ≠ i → l.getD j true = false → (∀ e ∈ oj.after, Region.binds .any e = true → e.on ≠ i) → oi.apart ops oj = true) →
      Shut ops l → i ∈ Region.ready .any ops l → YieldsIf P ops S₀ oi v a → (l.getD z false = false → S w) → AH ro P ops Q S z n (l.setIfInBounds i true) (a.put oi.dst v) w → AH ro P ops Q S z (n + 1) l a w := by
  intro n
  induction n with
  | zero =>
    intro l a w _ hsh hr hy hS H
    have hpend : l.getD i true = false := (mem_ready.1 hr).1
    refine ⟨fun h => (by rw [h] at hr; cases hr), fun j hj => ?_⟩
    by_cases hji : j = i
    · subst hji; exact YieldsIf.wpOpIn hi (noDefer_at hnd hi) hy (hS₀ l w hsh hpend hS) ⟨fun h => hS (by rwa [getD_set_ne false hz] at h), H⟩
    · have hm := ready_mono hj hji
      rw [H.1] at hm; cases hm
  | succ n ih =>
    intro l a w hfree hsh hr hy hS H
    have hpend : l.getD i true = false := (mem_ready.1 hr).1
    refine ⟨fun h => (by rw [h] at hr; cases hr), fun j hj => ?_⟩
    by_cases hji : j = i
    · subst hji; exact YieldsIf.wpOpIn hi (noDefer_at hnd hi) hy (hS₀ l w hsh hpend hS) ⟨fun h => hS (by rwa [getD_set_ne false hz] at h), H⟩
    · have h1 := H.2 j (ready_mono hj hji)
      obtain ⟨hjun, oj, hoj, hall⟩ := mem_ready.1 hj
      have hnot : ∀ e ∈ oj.after, Region.binds .any e = true → e.on ≠ i := fun e he hb heq => by
        have h2 := hall e he hb
        rw [heq, getD_both hpend] at h2; cases h2
      have h2 := wpOpIn_putIf hoj (noDefer_at hnd hoj) (hfree j oj hoj hji hjun hnot) (fun cs b => hsel i oi cs b hi) (fun cs b => hsel j oj cs b hoj) hQ hy h1
      refine wpOpIn_mono (fun a' w' h3 => ?_) h2
      obtain ⟨hy', hS', hA'⟩ := h3
      have hS'' : (l.setIfInBounds j true).getD z false = false → S w' := fun h => hS' (by rw [Array.setIfInBounds_comm _ _ (Ne.symm hji), getD_set_ne false hz]; exact h)
      refine ⟨hS'', ih (l.setIfInBounds j true) a' w' (fun k ok hk hki hun hno => hfree k ok hk hki ?_ hno) (hsh.set hj) (ready_mono hr (Ne.symm hji)) hy' hS'' ?_⟩
      · by_cases hjk : j = k
        · subst hjk; exact hjun
        · rw [getD_set_ne true hjk] at hun; exact hun
      · rw [Array.setIfInBounds_comm _ _ hji]; exact hA'

variable {N : Nat} {D : List Deferred} {E : Env} {w w' : World} {H : Nat → Array Bool → Env → World → Prop} {n : Nat} {l : Array Bool} {i : Nat} {o : Oper} {v : Value}

def HW (ro : Option Nat) (P : Program) (N : Nat) (D : List Deferred) (ops : Array Oper) (Q : Exit → Act → World → Prop) (S : World → Prop) (z : Nat) (n : Nat) (l : Array Bool) (E : Env) (w : World) : Prop :=
  ∀ a, Sat N D E a → Shut ops l → AH ro P ops (NP Q) S z n l a w

theorem CW.drawn {id : Nat} (S : World → Prop) (z : Nat) (hm : P.follows .mixedOrders = true) (h : ∀ H, H = HW ro P N D ops Q S z → H ops.size (Array.replicate ops.size false) E w.drew) :
    CW ro P N D (.region id ops true) Q E w := fun a ha =>
  wpIn_mono (wpIn_region_any hm (AH.any _ _ _ _ (h _ rfl a ha Shut.none))) fun e a w hq => by
    cases e with
    | normal => exact hq
    | _ => exact hq.elim

theorem HW.first {S₀ : World → Prop} (hH : H = HW ro P N D ops Q S z) (ho : ops[i]? = some o) (hc : chk ops z l i = true) (hd : okd N o.dst = true) (hS : l.getD z false = false → S w)
    (hS₀ : ∀ l w, Shut ops l → l.getD i true = false → (l.getD z false = false → S w) → S₀ w)
    (hy : ∀ a, Sat N D E a → YieldsIf P ops S₀ o v a) (k : H n (l.setIfInBounds i true) (putE o.dst v E) w) (hnd : noDefer ops = true := by kernel_rfl) : H (n + 1) l E w := by
  subst hH
  intro a ha hsh
  simp only [chk, Bool.and_eq_true] at hc
  have hr : i ∈ Region.ready .any ops l := by simpa using hc.2.2.1
  have hz : i ≠ z := fun e => by have := hc.2.2.2; subst e; simp at this
  exact AH.first hnd ho (Region.noSelect_spec hc.1) (fun _ _ _ h => h) hz hS₀ n l a w (Region.free_spec ho hc.2.1) hsh hr (hy a ha) hS (k _ (ha.put hd) (hsh.set hr))
/-- What reads memory is taken first. -/
theorem HW.take (hH : H = HW ro P N D ops Q S z) (ho : ops[i]? = some o) (hc : chk ops z l i = true) (hcr : chkR ops z i = true) (hw : Wants N ops E o) (hd : okd N o.dst = true) (hS : l.getD z false = false → S w)
    (hv : ∀ a, Sat N D E a → ∀ w, S w → (execOp a.eval o).run P w = .ok (.value v) w) (k : H n (l.setIfInBounds i true) (putE o.dst v E) w) (hnd : noDefer ops = true := by kernel_rfl) : H (n + 1) l E w :=
  HW.first hH ho hc hd hS (chkR_spec hcr) (fun a ha => .inl ⟨hw _ _ ha, hv a ha⟩) k hnd
/-- What looks at no memory is taken first. -/
theorem HW.pure (hH : H = HW ro P N D ops Q S z) (ho : ops[i]? = some o) (hc : chk ops z l i = true) (hw : Wants N ops E o) (hd : okd N o.dst = true) (hS : l.getD z false = false → S w)
    (hv : ∀ a, Sat N D E a → ∀ w, True → (execOp a.eval o).run P w = .ok (.value v) w) (k : H n (l.setIfInBounds i true) (putE o.dst v E) w) (hnd : noDefer ops = true := by kernel_rfl) : H (n + 1) l E w :=
  HW.first (S₀ := fun _ => True) hH ho hc hd hS (fun _ _ _ _ _ => trivial) (fun a ha => .inl ⟨hw _ _ ha, hv a ha⟩) k hnd
theorem HW.skip (hH : H = HW ro P N D ops Q S z) (ho : ops[i]? = some o) (hc : chk ops z l i = true) (hs : Skips N ops E o) (hd : okd N o.dst = true) (hS : l.getD z false = false → S w)
    (k : H n (l.setIfInBounds i true) (putE o.dst undef E) w) (hnd : noDefer ops = true := by kernel_rfl) : H (n + 1) l E w :=
  HW.first (S₀ := fun _ => True) hH ho hc hd hS (fun _ _ _ _ _ => trivial) (fun a ha => .inr ⟨hs _ _ ha, rfl⟩) k hnd
theorem HW.one (hH : H = HW ro P N D ops Q S z) (hr : Region.ready .any ops l = [i]) (ho : ops[i]? = some o) (hw : Wants N ops E o)
    (h : ∀ a, Sat N D E a → Shut ops l → o.wpIn (FR ro) 0 P a w (fun a' w' => ((l.setIfInBounds i true).getD z false = false → S w') ∧ AH ro P ops (NP Q) S z n (l.setIfInBounds i true) a' w') (NP Q)) : H (n + 1) l E w := by
  subst hH
  intro a ha hsh
  refine ⟨fun h0 => (by rw [hr] at h0; cases h0), fun j hj => ?_⟩
  rw [hr] at hj
  have hji : j = i := by simpa using hj
  subst hji
  unfold wpOpIn
  simp only [ho, hw _ _ ha, if_true]
  exact h a ha hsh
theorem HW.val (hH : H = HW ro P N D ops Q S z) (hr : Region.ready .any ops l = [i]) (ho : ops[i]? = some o) (hw : Wants N ops E o) (hd : okd N o.dst = true)
    (hv : ∀ a, Sat N D E a → (execOp a.eval o).run P w = .ok (.value v) w') (hS : (l.setIfInBounds i true).getD z false = false → S w') (k : H n (l.setIfInBounds i true) (putE o.dst v E) w') (hn : isDefer o = false := by rfl) : H (n + 1) l E w :=
  HW.one hH hr ho hw fun a ha hsh => by
    refine ⟨fun _ _ => trivial, ?_⟩
    rw [semAt_of hn, hv a ha, Oper.uponIn_value]
    rw [hH] at k; exact ⟨hS, k _ (ha.put hd) (hsh.set (by rw [hr]; simp))⟩
theorem HW.eff (hH : H = HW ro P N D ops Q S z) (hr : Region.ready .any ops l = [i]) (ho : ops[i]? = some o) (hw : Wants N ops E o) (hd : okd N o.dst = true)
    (hv : ∀ a, Sat N D E a → (execOp a.eval o).run P w = .ok .skip w') (hS : (l.setIfInBounds i true).getD z false = false → S w') (k : H n (l.setIfInBounds i true) (putE o.dst undef E) w') (hn : isDefer o = false := by rfl) : H (n + 1) l E w :=
  HW.one hH hr ho hw fun a ha hsh => by
    refine ⟨fun _ _ => trivial, ?_⟩
    rw [semAt_of hn, hv a ha, Oper.uponIn_skip]
    rw [hH] at k; exact ⟨hS, k _ (ha.put hd) (hsh.set (by rw [hr]; simp))⟩
theorem HW.call {f : Nat} {args : Array Value} {R : Ending → World → Prop} (hH : H = HW ro P N D ops Q S z) (hr : Region.ready .any ops l = [i]) (ho : ops[i]? = some o) (hw : Wants N ops E o) (hd : okd N o.dst = true)
    (hv : ∀ a, Sat N D E a → (execOp a.eval o).run P w = .ok (.enter f args) w') (hc : Calls P f args w' R)
    (k : ∀ e w'', R e w'' → ∃ v, e = .returned v ∧ ((l.setIfInBounds i true).getD z false = false → S w'') ∧ H n (l.setIfInBounds i true) (putE o.dst v E) w'') (hn : isDefer o = false := by rfl) : H (n + 1) l E w :=
  HW.one hH hr ho hw fun a ha hsh => by
    refine ⟨fun _ _ => trivial, ?_⟩
    rw [semAt_of hn, hv a ha, Oper.uponIn_enter]
    refine ⟨fun h => (by cases h), FR.callsIn (hc.mono fun e w'' hR => ?_)⟩
    obtain ⟨v, rfl, hS, hk⟩ := k e w'' hR
    rw [hH] at hk; exact ⟨hS, hk _ (ha.put hd) (hsh.set (by rw [hr]; simp))⟩
theorem HW.skip1 (hH : H = HW ro P N D ops Q S z) (hr : Region.ready .any ops l = [i]) (ho : ops[i]? = some o) (hs : Skips N ops E o) (hd : okd N o.dst = true) (hS : (l.setIfInBounds i true).getD z false = false → S w)
    (k : H n (l.setIfInBounds i true) (putE o.dst undef E) w) : H (n + 1) l E w := by
  subst hH
  intro a ha hsh
  refine ⟨fun h0 => (by rw [hr] at h0; cases h0), fun j hj => ?_⟩
  have hj' := hj
  rw [hr] at hj
  have hji : j = i := by simpa using hj
  subst hji
  unfold wpOpIn
  simp only [ho, hs _ _ ha, Bool.false_eq_true, if_false]
  exact ⟨fun _ _ => trivial, hS, k _ (ha.put hd) (hsh.set hj')⟩
theorem HW.callY {x : Operand} {args : Array Operand} {ts : Array TypeId} {d : Option Nat} {T : TypeId} {p : String} {af : Array Edge} {gd : Option (Nat × Bool)} {fv : Value} {vs : List Value} {R : Ending → World → Prop}
    (hH : H = HW ro P N D ops Q S z) (hr : Region.ready .any ops l = [i]) (ho : ops[i]? = some ⟨d, .call ⟨.value x, args, ts⟩, T, p, af, gd⟩) (hw : Wants N ops E ⟨d, .call ⟨.value x, args, ts⟩, T, p, af, gd⟩) (hd : okd N d = true)
    (hx : opd E x = some fv) (ha' : opdL E args.toList = some vs) (hc : CallsY P fv vs.toArray w R)
    (k : ∀ e w'', R e w'' → ∃ v, e = .returned v ∧ ((l.setIfInBounds i true).getD z false = false → S w'') ∧ H n (l.setIfInBounds i true) (putE d v E) w'') : H (n + 1) l E w := by
  rcases hc with ⟨f, cap, fn, rfl, h2, h3, h4, h5⟩ | ⟨lb, rfl, fn, tmps, as', bd, h2, h3⟩
  · refine HW.one hH hr ho hw fun a ha hsh => ⟨fun _ _ => trivial, ?_⟩
    rw [semAt_of rfl, Cl.fv hx ha' h2 h3 h4 a ha, Oper.uponIn_enter]
    refine ⟨fun h => (by cases h), FR.callsIn (h5.mono fun e w'' hR => ?_)⟩
    obtain ⟨v, rfl, hS, hk⟩ := k e w'' hR
    rw [hH] at hk; exact ⟨hS, hk _ (ha.put hd) (hsh.set (by rw [hr]; simp))⟩
  · refine HW.one hH hr ho hw fun a ha hsh => ⟨fun _ _ => trivial, ?_⟩
    have e1 : (execOp a.eval ⟨d, .call ⟨.value x, args, ts⟩, T, p, af, gd⟩).run P w = .ok (.round lb fn tmps as' bd) w := by
      have e2 : args.map a.eval = vs.toArray := opdL_map ha ha'
      simp [execOp, resolve, ha.eval hx, Deferred.ofValue, invoke, e2, h2]
    rw [semAt_of rfl, e1, Oper.uponIn_round]
    refine ⟨fun h => (by cases h), h3.mono fun e w'' hR => ?_⟩
    obtain ⟨v, rfl, hS, hk⟩ := k e w'' hR
    rw [hH] at hk; exact ⟨hS, hk _ (ha.put hd) (hsh.set (by rw [hr]; simp))⟩
/-- Number i comes up now. -/
def H1 (ro : Option Nat) (P : Program) (N : Nat) (D : List Deferred) (ops : Array Oper) (Q : Exit → Act → World → Prop) (S : World → Prop) (z : Nat) (n : Nat) (l : Array Bool) (i : Nat) (E : Env) (w : World) : Prop :=
  i ∈ Region.ready .any ops l → ∀ a, Sat N D E a → Shut ops l → wpOpIn (FR ro) 0 P ops (NP Q) i (fun a' w' => ((l.setIfInBounds i true).getD z false = false → S w') ∧ AH ro P ops (NP Q) S z n (l.setIfInBounds i true) a' w') a w
theorem HW.two {j : Nat} (hH : H = HW ro P N D ops Q S z) (hr : Region.ready .any ops l = [i, j]) (h1 : H1 ro P N D ops Q S z n l i E w) (h2 : H1 ro P N D ops Q S z n l j E w) : H (n + 1) l E w := by
  subst hH
  intro a ha hsh
  refine ⟨fun h0 => (by rw [hr] at h0; cases h0), fun k hk => ?_⟩
  have hk' := hk
  rw [hr] at hk
  rcases List.mem_cons.1 hk with rfl | hk
  · exact h1 hk' a ha hsh
  · have : k = j := by simpa using hk
    subst this
    exact h2 hk' a ha hsh
theorem H1.val (hH : H = HW ro P N D ops Q S z) (ho : ops[i]? = some o) (hw : Wants N ops E o) (hd : okd N o.dst = true)
    (hv : ∀ a, Sat N D E a → (execOp a.eval o).run P w = .ok (.value v) w') (hS : (l.setIfInBounds i true).getD z false = false → S w') (k : H n (l.setIfInBounds i true) (putE o.dst v E) w') (hn : isDefer o = false := by rfl) : H1 ro P N D ops Q S z n l i E w := by
  intro hr a ha hsh
  unfold wpOpIn
  simp only [ho, hw _ _ ha, if_true, Oper.wpIn]
  rw [semAt_of hn, hv a ha, Oper.uponIn_value]
  rw [hH] at k; exact ⟨fun _ _ => trivial, hS, k _ (ha.put hd) (hsh.set hr)⟩
theorem H1.call {f : Nat} {args : Array Value} {R : Ending → World → Prop} (hH : H = HW ro P N D ops Q S z) (ho : ops[i]? = some o) (hw : Wants N ops E o) (hd : okd N o.dst = true)
    (hv : ∀ a, Sat N D E a → (execOp a.eval o).run P w = .ok (.enter f args) w') (hc : Calls P f args w' R)
    (k : ∀ e w'', R e w'' → ∃ v, e = .returned v ∧ ((l.setIfInBounds i true).getD z false = false → S w'') ∧ H n (l.setIfInBounds i true) (putE o.dst v E) w'') (hn : isDefer o = false := by rfl) : H1 ro P N D ops Q S z n l i E w := by
  intro hr a ha hsh
  unfold wpOpIn
  simp only [ho, hw _ _ ha, if_true, Oper.wpIn]
  rw [semAt_of hn, hv a ha, Oper.uponIn_enter]
  refine ⟨fun _ _ => trivial, fun h => (by cases h), FR.callsIn (hc.mono fun e w'' hR => ?_)⟩
  obtain ⟨v, rfl, hS, hk⟩ := k e w'' hR
  rw [hH] at hk; exact ⟨hS, hk _ (ha.put hd) (hsh.set hr)⟩
theorem HW.done (hH : H = HW ro P N D ops Q S z) (hr : Region.ready .any ops l = []) (k : NW N D Q E w) : H n l E w := by
  subst hH
  intro a ha _
  cases n with
  | zero => exact ⟨hr, k a ha⟩
  | succ n => exact ⟨fun _ => k a ha, by rw [hr]; simp⟩
theorem HW.sub (hH : H = HW ro P N D ops Q S z) {F : Env} (s : Sub E F) (k : H n l E w) : H n l F w := by
  subst hH; exact fun a ha => k a (ha.sub s)
end
end Go.XR
end

/- XGfall -/
section
set_option linter.unusedVariables false
set_option linter.unusedSimpArgs false
namespace Go.Proofs.YtfcfkhbkkfpehaaGreat
open Go Go.X

/- (*pomander/flow.Flow).All$1 -/
def W_flow_Flow_All_1 (yield1 : Value) (cap1 : Addr) (w : World) (R : World → Prop) : Prop :=
  ∃ (t1 : Option Nat), w.cell? cap1 = some (.map t1) ∧ (Calls Tryz.prog 71 #[.map t1] w fun e w1 => ∃ (r1 : Value), e = .returned (r1) ∧ (Calls Tryz.prog 70 #[r1, .func (.func 72) #[] #[]] w1 fun e w2 => ∃ (r2 : Option Addr) (r2n : Nat) (r2c : Nat), e = .returned (.slice r2 r2n r2c) ∧ (∃ (I1 : Int → World → Prop) (m1 : Int → World → Nat), I1 0 w2 ∧ ∀ (x1 : Int) (w3 : World), I1 x1 w3 → ((decide (x1 < (r2n : Int))) = true → ∃ a1 : Addr, r2 = some a1 ∧ (0 : Int) ≤ x1 ∧ x1 < (r2n : Int) ∧ (∃ (t2 : Int) (t3 : Int), CellsAt w3 (a1.add (Int.toNat x1 * 2)) 0 [.int .i64 t2, .int .i64 t3] ∧ (∀ (b1 : Nat) (w6 : World), (w3.heap.size ≤ b1 ∧ b1 < w6.heap.size) → Chg [] w3 w6 → (∃ (t4 : Option Nat), w6.cell? cap1 = some (.map t4) ∧ (∃ (v1 : Int), (Instr.lookup 99 (.map t4) (.agg #[.int .i64 t2, .int .i64 t3]) false).run Tryz.prog w6 = .ok (.int .u32 v1) w6 ∧ (XR.CallsY Tryz.prog yield1 #[.agg #[.int .i64 t2, .int .i64 t3], .int .u32 v1] w6 fun e w7 => ∃ (r3 : Bool), e = .returned (.bool r3) ∧ (((!r3) = true → R w7) ∧ ((!r3) = false → (I1 (IntKind.wrap .i64 (x1 + 1)) w7 ∧ m1 (IntKind.wrap .i64 (x1 + 1)) w7 < m1 x1 w3))))))))) ∧ ((decide (x1 < (r2n : Int))) = false → R w3))))
set_option maxRecDepth 100000 in
theorem go_flow_Flow_All_1 (yield1 : Value) (cap1 : Addr) (w : World) (R : World → Prop) (h : W_flow_Flow_All_1 yield1 cap1 w R) : Calls Tryz.prog 69 #[yield1, .pointer (some cap1)] w (fun e w' => e = .returned (.tuple #[]) ∧ R w') := by
  unfold W_flow_Flow_All_1 at h
  refine enter (N := 21) Tryz.func69 rfl rfl ?_
  refine CW.seq ?_
  refine CW.region fun L hL => ?_
  obtain ⟨t1, hc1, h⟩ := h
  refine LW.rd hL rfl (Wants.free rfl) rfl (Rd.ld (v := .map t1) rfl (by kernel_rfl) (eqs hc1)) ?_
  refine LW.call hL rfl (Wants.free rfl) rfl (Cl.fn (f := 71) rfl Tryz.func71 (by kernel_rfl) rfl) h (fun e w1 h_ => ?_)
  clear h
  obtain ⟨r1, rfl, h⟩ := h_
  refine ⟨_, rfl, ?_⟩
  refine LW.call hL rfl (Wants.free rfl) rfl (Cl.fn (f := 70) rfl Tryz.func70 (by kernel_rfl) rfl) h (fun e w2 h_ => ?_)
  clear h
  obtain ⟨r2, r2n, r2c, rfl, h⟩ := h_
  refine ⟨_, rfl, ?_⟩
  refine LW.rd hL rfl (Wants.free rfl) rfl (Rd.builtin (v := .int .i64 (r2n : Int)) rfl (fun _ _ => by kernel_rfl)) ?_
  refine LW.rd hL rfl (Wants.free rfl) rfl (Rd.move (v := .int .i64 0) rfl) ?_
  refine LW.nil hL rfl ?_
  refine NW.then ?_
  refine CW.block ?_
  obtain ⟨I1, m1, hI1, h⟩ := h
  refine CW.loop (S := Int) (fun x1 => [(0, yield1), (1, .pointer (some cap1)), (7, .slice r2 r2n r2c), (8, .int .i64 (r2n : Int)), (9, .int .i64 x1)]) (fun x1 w3 => I1 x1 w3) (fun x1 w3 => m1 x1 w3) 0 (by exact ⟨rfl, rfl, rfl, rfl, rfl, trivial⟩) hI1 (fun x1 w3 hI1 => ?_)
  replace h := h x1 w3 hI1
  refine CW.seq ?_
  refine CW.region fun L hL => ?_
  refine LW.rd hL rfl (Wants.free rfl) rfl (Rd.bin (v := .bool (decide (x1 < (r2n : Int)))) rfl rfl (fun w => by kernel_rfl)) ?_
  refine LW.nil hL rfl ?_
  refine NW.then ?_
  refine CW.seq ?_
  refine CW.cond rfl (fun hb1 => ?_) (fun hb1 => ?_)
  · replace h := h.1 hb1
    refine CW.skip ?_
    refine NW.then ?_
    refine CW.seq ?_
    refine CW.block ?_
    refine CW.seq ?_
    refine CW.region fun L hL => ?_
    obtain ⟨a1, he1, hi1, hi2, h⟩ := h
    refine LW.rd hL rfl (Wants.free rfl) rfl (Rd.iaS (q := a1) (sz := 2) (by rw [← he1]; rfl) rfl Tryz.underlying63 (by kernel_rfl) hi1 hi2) ?_
    obtain ⟨t2, t3, hc2, h⟩ := h
    refine LW.rd hL rfl (Wants.free rfl) rfl (Rd.ldN (cs := [.int .i64 t2, .int .i64 t3]) rfl (by kernel_rfl) (by kernel_rfl) (cellsS hc2)) ?_
    obtain ⟨b1, hb_b1⟩ : ∃ b1, b1 = World.size w3 := ⟨_, rfl⟩
    obtain ⟨w4, hw_w4⟩ : ∃ w4, w4 = World.alloc w3 (.cells #[.int .i64 0, .int .i64 0] 62) := ⟨_, rfl⟩
    refine LW.val hL rfl (Wants.free rfl) rfl (boxE hb_b1 hw_w4 (Vl.alloc (z := .agg #[.int .i64 0, .int .i64 0]) (by kernel_rfl))) ?_
    have hB := Boxes.alloc (cs := [.int .i64 0, .int .i64 0]) (T := 62) (Boxes.nil w3) hb_b1 hw_w4
    have hlo_b1 := sil_lo (Chg.refl [] w3) hb_b1
    have hc_w4 := sil_alloc (Chg.refl [] w3) hw_w4
    obtain ⟨w5, hw_w5⟩ : ∃ x, x = setCells w4 (⟨b1, 0, none⟩ : Addr) 0 [.int .i64 t2, .int .i64 t3] := ⟨_, rfl⟩
    refine LW.eff hL rfl (Wants.free rfl) rfl (stNE hw_w5 (Ef.stN (cs := [.int .i64 t2, .int .i64 t3]) rfl rfl (by kernel_rfl) (List.forall_mem_cons.2 ⟨rfl, (List.forall_mem_cons.2 ⟨rfl, (List.forall_mem_nil _)⟩)⟩) (has_of (hB.at (i := 0) rfl) (by simp)) (free_of' (hB.at (i := 0) rfl)))) ?_
    replace hB : Boxes w5 [(b1, [.int .i64 t2, .int .i64 t3], 62)] := Boxes.store (vs := [.int .i64 t2, .int .i64 t3]) (i := 0) (o := 0) hB rfl rfl rfl rfl hw_w5
    have hc_w5 := sil_new hc_w4 (sil_cN hw_w5) hlo_b1
    refine LW.nil hL rfl ?_
    refine NW.then ?_
    refine CW.seq ?_
    refine XR.CW.un ?_
    obtain ⟨w6, hw_w6⟩ : ∃ x, x = World.drew w5 := ⟨_, rfl⟩
    have hc_w6 := sil_drew hc_w5 hw_w6
    replace hB := hB.drew hw_w6
    refine XR.CW.drawn (fun w => w = w6) 5 (by kernel_rfl) fun H hH => ?_
    rw [← hw_w6]
    refine XR.HW.pure (i := 0) hH rfl (by kernel_rfl) (Wants.free rfl) rfl (fun _ => rfl) (Rd.move (v := yield1) rfl) ?_
    refine XR.HW.take (i := 1) hH rfl (by kernel_rfl) (by kernel_rfl) (Wants.free rfl) rfl (fun _ => rfl) (Rd.ldN (cs := [.int .i64 t2, .int .i64 t3]) rfl (by kernel_rfl) (by kernel_rfl) (cellsS (box_cells (hB.at (i := 0) rfl) rfl))) ?_
    replace h := h b1 w6 ⟨hlo_b1, lt_of_heap (hB.at (i := 0) rfl)⟩ hc_w6
    obtain ⟨t4, hc3, h⟩ := h
    refine XR.HW.take (i := 2) hH rfl (by kernel_rfl) (by kernel_rfl) (Wants.free rfl) rfl (fun _ => rfl) (Rd.ld (v := .map t4) rfl (by kernel_rfl) (eqs hc3)) ?_
    refine XR.HW.take (i := 3) hH rfl (by kernel_rfl) (by kernel_rfl) (Wants.free rfl) rfl (fun _ => rfl) (Rd.ldN (cs := [.int .i64 t2, .int .i64 t3]) rfl (by kernel_rfl) (by kernel_rfl) (cellsS (box_cells (hB.at (i := 0) rfl) rfl))) ?_
    obtain ⟨v1, hl1, h⟩ := h
    refine XR.HW.take (i := 4) hH rfl (by kernel_rfl) (by kernel_rfl) (Wants.free rfl) rfl (fun _ => rfl) (Rd.lookup (v := .int .u32 v1) rfl rfl (fun _ e => e ▸ hl1)) ?_
    refine XR.HW.callY (i := 5) hH (by kernel_rfl) rfl (Wants.free rfl) rfl rfl rfl h (fun e w7 h_ => ?_)
    clear h
    obtain ⟨r3, rfl, h⟩ := h_
    refine ⟨_, rfl, (fun hc => by cases hc), ?_⟩
    refine XR.HW.pure (i := 6) hH rfl (by kernel_rfl) (Wants.free rfl) rfl (fun hc => by cases hc) (Rd.un (v := .bool (!r3)) rfl (fun _ => by kernel_rfl)) ?_
    refine XR.HW.done hH (by kernel_rfl) ?_
    refine NW.then ?_
    refine CW.cond rfl (fun hb2 => ?_) (fun hb2 => ?_)
    · replace h := h.1 hb2
      refine CW.ret ?_
      refine RW.block ?_
      refine RW.then ?_
      refine RW.then ?_
      refine RW.block ?_
      exact res0 rfl ⟨rfl, h⟩
    · replace h := h.2 hb2
      refine CW.skip ?_
      refine NW.block ?_
      refine NW.then ?_
      refine CW.region fun L hL => ?_
      refine LW.rd hL rfl (Wants.free rfl) rfl (Rd.bin (v := .int .i64 (IntKind.wrap .i64 (x1 + 1))) rfl rfl (fun w => by kernel_rfl)) ?_
      refine LW.rd hL rfl (Wants.free rfl) rfl (Rd.move (v := .int .i64 (IntKind.wrap .i64 (x1 + 1))) rfl) ?_
      refine LW.nil hL rfl ?_
      exact NW.loop (S := Int) (Ek := fun x1 => [(0, yield1), (1, .pointer (some cap1)), (7, .slice r2 r2n r2c), (8, .int .i64 (r2n : Int)), (9, .int .i64 x1)]) (IntKind.wrap .i64 (x1 + 1)) (by exact ⟨rfl, rfl, rfl, rfl, rfl, trivial⟩) h
  · replace h := h.2 hb1
    refine CW.exit ?_
    refine XW.then ?_
    refine XW.then ?_
    refine XW.hit ?_
    exact res0n rfl (by exact ⟨rfl, h⟩)

end Go.Proofs.YtfcfkhbkkfpehaaGreat
end

/- XFAll -/
section
/- Flows: All. -/
set_option linter.unusedVariables false
set_option linter.unusedSimpArgs false
namespace Go.Proofs.YtfcfkhbkkfpehaaGreat
open Go Go.RowKit Go.X Go.XR

theorem places_len (N : Nat) : ∀ K : Nat, ((List.range K).flatMap fun k : Nat => (List.range N).map fun n : Nat => ((k : Int), (n : Int))).length = K * N
  | 0 => by simp
  | K + 1 => by
    rw [List.range_succ, List.flatMap_append, List.length_append, places_len N K]
    simp [Nat.add_mul]
theorem keys_len {F : Fl} (hf : F.fr ≤ 32) (hs : F.se ≤ 32) {l : List (Int × Int)} (hn : l.Nodup) (h : ∀ p ∈ l, mayP F.fr F.se p) : l.length ≤ 1000000000000 := by
  have := nodup_sub_length hn (b := (List.range 18).flatMap fun k : Nat => (List.range 2147483648).map fun n : Nat => ((k : Int), (n : Int))) fun p hp => by
    obtain ⟨a, b, c, d⟩ := h p hp
    have hb : boundP F.fr F.se p.1 ≤ 2147483648 := by
      unfold boundP
      repeat' split
      all_goals omega
    exact List.mem_flatMap.2 ⟨p.1.toNat, List.mem_range.2 (by omega), List.mem_map.2 ⟨p.2.toNat, List.mem_range.2 (by omega), Prod.ext (by simp only []; omega) (by simp only []; omega)⟩⟩
  rw [places_len] at this
  omega

/-- A place, told with its set. -/
def tell (F : Fl) (p : Int × Int) : Int × Int × Int := (p.1, p.2, F.g p)
def fullF (F : Fl) (ys : List (Int × Int)) : Prop := ys.Pairwise ltPl ∧ ∀ p, p ∈ ys ↔ F.g p ≠ 0 ∧ mayP F.fr F.se p
def allF (F : Fl) (xs : List (Int × Int × Int)) : Prop := ∃ ys, fullF F ys ∧ xs = ys.map (tell F)
def allFp (F : Fl) (pre : List (Int × Int × Int)) : Prop := ∃ ys suf, fullF F ys ∧ pre ++ suf = ys.map (tell F)

theorem isFn100 (cb : Nat) : IsFn Tryz.prog (.func (.func 69) #[] #[.pointer (some ⟨cb, 0, none⟩)]) := ⟨69, Tryz.f69, _, rfl, Tryz.func69, by kernel_rfl, by kernel_rfl⟩
theorem iterates_flow {w : World} {cb m : Nat} {F : Fl} {L : List ((Int × Int) × Int)} (hcb : w.heap[cb]? = some (.cells #[.map (some m)] 99 (0, 0))) (h : AllIs w m F L) (hf : F.fr ≤ 32) (hs : F.se ≤ 32) :
    Iterates Tryz.prog (.func (.func 69) #[] #[.pointer (some ⟨cb, 0, none⟩)]) (fun x : Int × Int × Int => #[.agg #[.int .i64 x.1, .int .i64 x.2.1], .int .u32 x.2.2]) (allF F) (allFp F) [cb, m] w := by
  intro W yv I Ix hW hI hIx h0 hround
  refine ⟨69, #[.pointer (some ⟨cb, 0, none⟩)], Tryz.f69, rfl, Tryz.func69, by kernel_rfl, by kernel_rfl, ?_⟩
  have hcW := hW.obj (by simp) hcb
  have hmW := h.map.chg hW (by simp)
  have hlm := hmW.lt
  have hlcb := lt_of_heap hcW
  refine (go_flow_Flow_All_1 yv ⟨cb, 0, none⟩ W (fun w' => ∃ Own, InO W Own w' ∧ ((∃ xs, allF F xs ∧ I Own xs w') ∨ ∃ pre, allFp F pre ∧ Ix Own pre w')) ?_).mono (fun e w' h => ⟨⟨_, h.1⟩, h.2⟩)
  unfold W_flow_Flow_All_1
  refine ⟨_, by rw [cell_of hcW]; rfl, ?_⟩
  refine (maps_pkeys W (some m)).mono ?_
  rintro _ w2 ⟨_, rfl, kb, rfl, ekb, hkb, c2⟩
  have s2 := c2.size
  have hkl := lt_of_heap hkb
  refine ⟨_, rfl, ?_⟩
  have hnd : (L.map Prod.fst).Nodup := by obtain ⟨_, _, _, _, hnd, _⟩ := h.map; exact hnd
  refine (sorted_places (isFn121 kb) (iterates_pkeys hkb (hmW.chg c2 (by simp))) (by simp; omega) (fun pre hp => ?_) (fun xs ⟨d, e, n, a, _⟩ => ⟨d, e, n, a⟩)).mono ?_
  · obtain ⟨d, rfl, n, a⟩ := hp
    exact keys_len hf hs n fun p hp => by obtain ⟨x, hx, rfl⟩ := List.mem_map.1 hp; exact h.may x (a x hx)
  rintro _ w3 ⟨p, n, c, rfl, xs, ys, hS, hperm, hsort, hn, hr, c3, hp⟩
  have s3 := c3.size
  obtain ⟨done, rfl, d1, d2, d3⟩ := hS
  have hmem : ∀ q, q ∈ ys ↔ F.g q ≠ 0 ∧ mayP F.fr F.se q := fun q => by
    rw [hperm.mem_iff]
    constructor
    · intro hq
      obtain ⟨x, hx, rfl⟩ := List.mem_map.1 hq
      refine ⟨fun e => ?_, h.may x (d2 x hx)⟩
      have := h.look x.1
      rw [if_pos e] at this
      exact lookK_none.1 this x (d2 x hx) rfl
    · rintro ⟨hq, _⟩
      have := h.look q
      rw [if_neg hq] at this
      exact List.mem_map.2 ⟨(q, F.g q), d3 _ (lookK_mem this), rfl⟩
  have hyn : ys.Nodup := hperm.nodup_iff.2 d1
  have hfull : fullF F ys := ⟨(hsort.and hyn).imp fun {a b} hab => by
    have h1 := hab.1
    have h2 := hab.2
    unfold ltPl at *
    rcases Decidable.em (a.1 = b.1) with e1 | e1
    · rcases Decidable.em (a.2 = b.2) with e2 | e2
      · exact absurd (Prod.ext e1 e2) h2
      · omega
    · omega, hmem⟩
  have hyl : ys.length ≤ 1000000000000 := keys_len hf hs hyn fun p hp => ((hmem p).1 hp).2
  refine ⟨p, n, c, rfl, ?_⟩
  have c03 : Chg [] W w3 := c2.trans0 c3
  have hO : ∀ {A : World}, w3.heap.size ≤ A.heap.size → InO W (rowB p) A := fun hA i hi => ⟨by have := hp i hi; omega, by have := hr.lt i hi; omega⟩
  have hI3 := hI [] [] (rowB p) W w3 h0 (by intro i hi; cases hi) c03 (hO (Nat.le_refl _)) (fun i hi => .inr (by have := hp i hi; omega))
  refine ⟨fun x1 w4 => ∃ j : Nat, x1 = j ∧ j ≤ n ∧ I (rowB p) ((ys.take j).map (tell F)) w4 ∧ Same w3 w4 ([cb, m] ++ rowB p) ∧ w3.heap.size ≤ w4.heap.size, fun x1 _ => n - x1.toNat,
    ⟨0, rfl, Nat.zero_le _, hI3, Same.refl _ _, Nat.le_refl _⟩, ?_⟩
  rintro x1 w4 ⟨j, rfl, hj, hI4, hs4, s4⟩
  refine ⟨fun hlt => ?_, fun hge => ?_⟩
  · have hlt' : j < n := by have := of_decide_eq_true hlt; omega
    have hjl : j < ys.length := by omega
    obtain ⟨k, hk⟩ : ∃ k, ys[j]? = some k := ⟨_, List.getElem?_eq_getElem hjl⟩
    have hkm := (hmem k).1 (List.mem_of_getElem? hk)
    obtain ⟨g0, g1⟩ := flat_get2 ys j k hk
    obtain ⟨a, rfl, hc0⟩ := RowAt.at hr g0
    obtain ⟨a', e, hc1⟩ := RowAt.at hr g1
    cases e
    have ha : ∃ g, a = ⟨g, 0, none⟩ := by
      rcases hr.2 with ⟨hv, _⟩ | ⟨g, _, _, hv, _⟩
      · cases hv
      · cases hv; exact ⟨g, rfl⟩
    obtain ⟨ga, rfl⟩ := ha
    have hsb : w4.heap[(⟨ga, 0, none⟩ : Addr).block]? = w3.heap[(⟨ga, 0, none⟩ : Addr).block]? := hs4 _ (by simp [rowB])
    have ej : Int.toNat (j : Int) * 2 = j * 2 := by omega
    rw [ej]
    refine ⟨_, rfl, by omega, by omega, k.1, k.2, ⟨?_, ?_, trivial⟩, ?_⟩
    · rw [add_at, add_at, Nat.add_zero]
      rw [add_at] at hc0
      exact same_cell hsb hc0
    · rw [add_at, add_at]
      rw [add_at] at hc1
      exact same_cell hsb (by rw [show 0 + j * 2 + (0 + 1) = 0 + (j * 2 + 1) by omega]; exact hc1)
    rintro b1 w6 ⟨q1, q2⟩ c6
    have s6 := c6.size
    have hlk : ∀ x ∈ [cb, m] ++ rowB (some ⟨ga, 0, none⟩), x < w4.heap.size := fun x hx => by
      rcases List.mem_append.1 hx with hx | hx
      · have h1 := c2.size; have h2 := c3.size
        simp at hx
        rcases hx with e | e <;> subst e <;> omega
      · have := hr.lt x hx; omega
    have hs6 : Same w3 w6 ([cb, m] ++ rowB (some ⟨ga, 0, none⟩)) := fun x hx => (c6.block x (hlk x hx) (by simp)).trans (hs4 x hx)
    have hcb6 := (hs6 cb (by simp)).trans (c03.obj (by simp) hcW)
    have hm6 : MapIs w6 m encP (fun n : Int => .int .u32 n) L := by
      obtain ⟨es, clk, m1, m2⟩ := hmW.chg c03 (by simp)
      exact ⟨es, clk, (hs6 m (by simp)).trans m1, m2⟩
    have hlook := hm6.lookup (P := Tryz.prog) (T := 99) u143 keyPlace (z := .int .u32 0) (fun _ => by kernel_rfl) k false
    rw [h.look, if_neg hkm.1] at hlook
    refine ⟨some m, by rw [cell_of hcb6]; rfl, F.g k, by rw [show (.agg #[.int .i64 k.1, .int .i64 k.2] : Value) = encP k from rfl, hlook]; rfl, ?_⟩
    have hI6 := hI ((ys.take j).map (tell F)) (rowB (some ⟨ga, 0, none⟩)) (rowB (some ⟨ga, 0, none⟩)) w4 w6 hI4 (hO s4) c6.nil (hO (by omega)) (fun i hi => .inl hi)
    have htake : ys.take (j + 1) = ys.take j ++ [k] := by rw [List.take_add_one, hk]; rfl
    have hpre : allFp F ((ys.take j).map (tell F) ++ [tell F k]) := ⟨ys, (ys.drop (j + 1)).map (tell F), hfull, by
      rw [show [tell F k] = [k].map (tell F) from rfl, ← List.map_append, ← htake, ← List.map_append, List.take_append_drop]⟩
    refine (hround (rowB (some ⟨ga, 0, none⟩)) _ (tell F k) w6 (hO (by omega)) hpre hI6).mono ?_
    have ew1 : IntKind.wrap .i64 ((j : Int) + 1) = ((j + 1 : Nat) : Int) := by rw [wr (by omega) (by omega)]; omega
    rintro e w7 ⟨s7, ⟨rfl, hI7, hs7⟩ | ⟨rfl, hx7⟩⟩
    · refine ⟨true, rfl, fun h => by simp at h, fun _ => ⟨⟨j + 1, ew1, by omega, ?_, fun x hx => (hs7 x hx).trans (hs6 x hx), by omega⟩, by rw [ew1]; simp only []; omega⟩⟩
      rw [htake, List.map_append]; exact hI7
    · exact ⟨false, rfl, fun _ => ⟨rowB (some ⟨ga, 0, none⟩), hO (by omega), .inr ⟨_, hpre, hx7⟩⟩, fun h => by simp at h⟩
  · have : j = n := by have := of_decide_eq_false hge; omega
    subst this
    rw [List.take_of_length_le (by omega)] at hI4
    exact ⟨rowB p, hO s4, .inl ⟨_, ⟨ys, hfull, rfl⟩, hI4⟩⟩

end Go.Proofs.YtfcfkhbkkfpehaaGreat
end

/- XFlow3 -/
section
/- Flows: Mark, Get, together, right, Decides; places and touches that lie somewhere. -/
set_option linter.unusedVariables false
set_option linter.unusedSimpArgs false
namespace Go.Proofs.YtfcfkhbkkfpehaaGreat
open Go Go.RowKit Go.X

def fillP (g : Int × Int → Int) (p : Int × Int) (set : Int) : Nat → Int × Int → Int
  | 0 => g
  | n + 1 => putP (fillP g p set n) (p.1, p.2 + n) set
def markE (F : Fl) (p : Int × Int) (n set : Int) : Int :=
  if ¬ mayP F.fr F.se p ∨ 65536 ≤ set then 2 else if n < 0 ∨ 65536 < n ∨ (0 < n ∧ ¬ mayP F.fr F.se (p.1, p.2 + n - 1)) then 4 else keepE F.most F.sets set
def markF (F : Fl) (p : Int × Int) (n set : Int) : Fl := if markE F p n set = 0 then { F with sets := keepS F.most F.sets set, g := fillP F.g p set n.toNat } else F

theorem keepS_bad {most : Int} {sets : List Int} {set : Int} (h : keepE most sets set ≠ 0) : keepS most sets set = sets := by
  unfold keepE at h; unfold keepS
  split at h
  · rename_i h1; rw [if_pos (.inl h1)]
  split at h
  · simp at h
  split at h
  · rename_i h1; rw [if_pos (.inr (.inr h1))]
  · simp at h

theorem grow_trans {fp fp' fp'' : List Nat} {w w' w'' : World} (c : Chg fp w w') (f : ∀ i ∈ fp', i ∈ fp ∨ w.heap.size ≤ i) (c' : Chg fp' w' w'') (f' : ∀ i ∈ fp'', i ∈ fp' ∨ w'.heap.size ≤ i) :
    Chg fp w w'' ∧ ∀ i ∈ fp'', i ∈ fp ∨ w.heap.size ≤ i :=
  ⟨c.trans c' (fun i hi hlt => (f i hi).resolve_right (by omega)), fun i hi => by
    rcases f' i hi with h | h
    · exact f i h
    · exact .inr (Nat.le_trans c.size h)⟩

theorem flow_mark {w : World} {b : Nat} {F : Fl} {fp : List Nat} (h : FlowAt w b F fp) {p1 p2 n set : Int} (hp : i64s p2) (hs0 : 0 ≤ set) :
    Calls Tryz.prog 31 #[.pointer (some ⟨b, 0, none⟩), .agg #[.int .i64 p1, .int .i64 p2], .int .i64 n, .int .u32 set] w fun e w' => ∃ r : Int, e = .returned (.int .i64 r) ∧
      (r = markE F (p1, p2) n set ∧ ∃ fp', FlowAt w' b (markF F (p1, p2) n set) fp' ∧ Chg fp w w' ∧ ∀ i ∈ fp', i ∈ fp ∨ w.heap.size ≤ i) := by
  have hwide := h.wide
  refine ok_flow_Flow_Mark _ _ _ _ _ _ _ ?_
  unfold V_flow_Flow_Mark
  refine v_alloc fun b1 w1 e1 hb1 c1 => ?_
  refine (flow_none (h.chg c1 (by simp))).mono ?_
  rintro _ w2 ⟨_, rfl, rfl, hw⟩
  subst w2
  refine ⟨_, rfl, fun h => by simp at h, fun _ => ⟨p1, p2, cellsAt_of hb1, ?_⟩⟩
  refine (flow_may (h.chg c1 (by simp)) p1 p2).mono ?_
  rintro _ w3 ⟨_, rfl, rfl, c3⟩
  have c03 := c1.trans0 c3
  have hb3 := c3.obj (by simp) hb1
  refine ⟨_, rfl, fun hbad => ?_, fun hgood => ?_⟩
  · have hb : ¬ mayP F.fr F.se (p1, p2) ∨ 65536 ≤ set := by simpa using hbad
    have hE : markE F (p1, p2) n set = 2 := by unfold markE; rw [if_pos hb]
    exact ⟨hE.symm, fp, by unfold markF; rw [if_neg (by omega)]; exact h.chg c03 (by simp), c03.nil, fun i hi => .inl hi⟩
  have hg : mayP F.fr F.se (p1, p2) ∧ set < 65536 := by simpa using hgood
  have hm := hg.1
  unfold mayP boundP at hm
  simp only [] at hm
  have hp2 : 0 ≤ p2 ∧ p2 < 2147483648 := by
    refine ⟨hm.2.2.1, ?_⟩
    have := hm.2.2.2
    split at this
    · omega
    split at this
    · omega
    split at this
    · omega
    split at this
    · omega
    split at this
    · omega
    split at this <;> omega
  have hnot : ¬ (¬ mayP F.fr F.se (p1, p2) ∨ 65536 ≤ set) := by
    rintro (h | h)
    · exact h hg.1
    · omega
  refine ⟨fun b2 w4 => Chg [] w w4 ∧ w4.heap[b1]? = some (.cells #[.int .i64 p1, .int .i64 p2] 62 (0, 0)) ∧ b2 = decide (n < 0 ∨ 65536 < n ∨ (0 < n ∧ ¬ mayP F.fr F.se (p1, p2 + n - 1))), ?_, fun hn => ?_, fun hn => ?_⟩
  rotate_left
  · have hn' : 0 ≤ n ∧ n ≤ 65536 := by simpa using hn
    refine ⟨_, fun b3 w5 h => h, fun hpos => ?_, fun hpos => ?_⟩
    · have hpos' : 0 < n := by simpa using hpos
      refine ⟨p1, by rw [cell_of hb3]; rfl, p2, by rw [cell_of hb3]; rfl, ?_⟩
      rw [wr (n := p2 + n) (by omega) (by omega), wr (by omega) (by omega)]
      refine (flow_may (h.chg c03 (by simp)) p1 (p2 + n - 1)).mono ?_
      rintro _ w6 ⟨_, rfl, rfl, c6⟩
      refine ⟨_, rfl, c03.trans0 c6, c6.obj (by simp) hb3, ?_⟩
      rw [← decide_not]
      exact decide_eq_decide.2 ⟨fun h => .inr (.inr ⟨hpos', h⟩), fun h => by
        rcases h with h | h | h
        · omega
        · omega
        · exact h.2⟩
    · have hpos' : ¬ 0 < n := by simpa using hpos
      refine ⟨c03, hb3, ?_⟩
      symm; rw [decide_eq_false_iff_not]; omega
  · have hn' : n < 0 ∨ 65536 < n := by simpa using hn
    refine ⟨c03, hb3, ?_⟩
    symm; rw [decide_eq_true_eq]; omega
  rintro b2 w4 ⟨c04, hb4, rfl⟩
  refine ⟨fun hbad => ?_, fun hok => ?_⟩
  · rw [decide_eq_true_eq] at hbad
    have hE : markE F (p1, p2) n set = 4 := by unfold markE; rw [if_neg hnot, if_pos hbad]
    exact ⟨hE.symm, fp, by unfold markF; rw [if_neg (by omega)]; exact h.chg c04 (by simp), c04.nil, fun i hi => .inl hi⟩
  rw [decide_eq_false_iff_not] at hok
  have hE : markE F (p1, p2) n set = keepE F.most F.sets set := by unfold markE; rw [if_neg hnot, if_neg hok]
  refine (flow_keep (h.chg c04 (by simp)) hs0).mono ?_
  rintro _ w7 ⟨r5, rfl, rfl, fp', hF, c7, hf⟩
  obtain ⟨c07, hf07⟩ := grow_trans (fp := fp) (fp' := fp) c04.nil (fun i hi => .inl hi) c7 hf
  have hlt := h.lt
  have hb7 : w7.heap[b1]? = some (.cells #[.int .i64 p1, .int .i64 p2] 62 (0, 0)) := c7.obj (fun hm => by have := hlt _ hm; omega) hb4
  refine ⟨_, rfl, fun hbad => ?_, fun hz => ?_⟩
  · have hbad' : keepE F.most F.sets set ≠ 0 := by simpa using hbad
    refine ⟨hE.symm, fp', ?_, c07, hf07⟩
    unfold markF; rw [if_neg (by rw [hE]; exact hbad')]
    rw [keepS_bad hbad'] at hF; exact hF
  have hz' : keepE F.most F.sets set = 0 := by simpa using hz
  have hn0 : 0 ≤ n ∧ n ≤ 65536 := by omega
  refine ⟨fun s w' => ∃ i : Nat, s = (i : Int) ∧ (i : Int) ≤ n ∧ w'.heap[b1]? = some (.cells #[.int .i64 p1, .int .i64 p2] 62 (0, 0)) ∧ ∃ fp', FlowAt w' b { F with sets := keepS F.most F.sets set, g := fillP F.g (p1, p2) set i } fp' ∧ Chg fp w w' ∧ ∀ i ∈ fp', i ∈ fp ∨ w.heap.size ≤ i ∧ i ≠ b1,
    fun s _ => (n - s).toNat, ⟨0, rfl, by omega, hb7, fp', hF, c07, fun i hi => ?_⟩, ?_⟩
  · rcases hf i hi with h | h
    · exact .inl h
    · exact .inr ⟨Nat.le_trans c04.size h, fun e => by have := lt_of_heap hb4; omega⟩
  rintro _ w8 ⟨i, rfl, hi, hb8, fp8, hF8, c8, hf8⟩
  refine ⟨fun hlt8 => ?_, fun hge => ?_⟩
  · have hlt' : (i : Int) < n := by simpa using hlt8
    refine ⟨p1, by rw [cell_of hb8]; rfl, p2, by rw [cell_of hb8]; rfl, ?_⟩
    rw [wr (n := p2 + i) (by omega) (by omega)]
    have hmi : mayP F.fr F.se (p1, p2 + i) := by
      have h1 : mayP F.fr F.se (p1, p2 + n - 1) := Classical.byContradiction fun h => hok (.inr (.inr ⟨by omega, h⟩))
      unfold mayP at h1 hg ⊢
      simp only [] at h1 hg ⊢
      omega
    refine (flow_put hF8 hmi hs0 hg.2).mono ?_
    rintro _ w9 ⟨rfl, fp9, hF9, c9, hf9⟩
    rw [wr (by omega) (by omega)]
    refine ⟨rfl, ⟨i + 1, by omega, by omega, c9.obj (fun hm => ?_) hb8, fp9, hF9, ?_, ?_⟩, by simp only []; omega⟩
    · rcases hf8 _ hm with h | h
      · have := hlt _ h; omega
      · exact h.2 rfl
    · exact c8.trans c9 (fun j hj hl => (hf8 j hj).resolve_right (fun h => by omega))
    · intro j hj
      rcases hf9 j hj with h | h
      · exact hf8 j h
      · exact .inr ⟨Nat.le_trans c8.size h, fun e => by have := lt_of_heap hb8; omega⟩
  · have hge' : ¬ (i : Int) < n := by simpa using hge
    have : n.toNat = i := by omega
    refine ⟨by rw [hE, hz'], fp8, ?_, c8, fun j hj => (hf8 j hj).imp id And.left⟩
    unfold markF; rw [if_pos (by rw [hE]; exact hz'), this]; exact hF8

theorem flow_Get {w : World} {b : Nat} {F : Fl} {fp : List Nat} (h : FlowAt w b F fp) {p1 p2 : Int} (hp : i64s p2) :
    Calls Tryz.prog 35 #[.pointer (some ⟨b, 0, none⟩), .agg #[.int .i64 p1, .int .i64 p2]] w fun e w' => ∃ (r1 : Int) (r2 : Int), e = .returned (.tuple #[.int .u32 r1, .int .i64 r2]) ∧
      (Chg [] w w' ∧ if mayP F.fr F.se (p1, p2) then r1 = F.g (p1, p2) ∧ r2 = 0 else r1 = 0 ∧ r2 = 2) := by
  refine ok_flow_Flow_Get _ _ _ _ _ ?_
  unfold V_flow_Flow_Get
  refine v_alloc fun b1 w1 e1 hb1 c1 => ?_
  refine ⟨fun s w2 => Chg [] w w2 ∧ s.2 = 2 ∧ ¬ mayP F.fr F.se (p1, p2), ?_, ?_⟩
  · rintro ⟨s1, s2⟩ w2 ⟨c2, rfl, hn⟩
    exact ⟨c2, by rw [if_neg hn]; exact ⟨rfl, rfl⟩⟩
  refine (flow_none (h.chg c1 (by simp))).mono ?_
  rintro _ w3 ⟨_, rfl, rfl, hw⟩
  subst w3
  refine ⟨_, rfl, fun h => by simp at h, fun _ => ⟨p1, p2, cellsAt_of hb1, ?_⟩⟩
  refine (flow_may (h.chg c1 (by simp)) p1 p2).mono ?_
  rintro _ w4 ⟨_, rfl, rfl, c4⟩
  have c04 := c1.trans0 c4
  refine ⟨_, rfl, fun hb => ⟨c04, rfl, by simpa using hb⟩, fun hb => ⟨p1, p2, cellsAt_of (c4.obj (by simp) hb1), ?_⟩⟩
  have hm : mayP F.fr F.se (p1, p2) := by simpa using hb
  refine (flow_get (h.chg c04 (by simp)) hp).mono ?_
  rintro _ w5 ⟨_, rfl, rfl, c5⟩
  exact ⟨_, rfl, c04.trans0 c5, by rw [if_pos hm]; exact ⟨rfl, rfl⟩⟩

/-! ### Places and touches -/
structure PlacesAt (w : World) (S : Nat → Prop) (p : Option Addr) (n : Nat) (ps : List (Int × Int)) : Prop where
  length : ps.length = n
  each : ∀ j x, ps[j]? = some x → i64s x.1 ∧ i64s x.2 ∧ ∃ a, p = some a ∧ S a.block ∧ CellsAt w (a.add (j * 2)) 0 [.int .i64 x.1, .int .i64 x.2]
theorem PlacesAt.chg {w w' : World} {S : Nat → Prop} {p : Option Addr} {n : Nat} {ps : List (Int × Int)} {f : List Nat} (h : PlacesAt w S p n ps) (hc : Chg f w w') (hf : ∀ i ∈ f, ¬ S i) : PlacesAt w' S p n ps :=
  ⟨h.length, fun j x hx => let ⟨h1, h2, a, h3, h4, h5⟩ := h.each j x hx; ⟨h1, h2, a, h3, h4, hc.cells (by rw [add_block]; exact fun hm => hf _ hm h4) h5⟩⟩
abbrev Tch := (Int × Int) × List (Int × Int)
structure TouchesAt (w : World) (S : Nat → Prop) (p : Option Addr) (n : Nat) (ts : List Tch) : Prop where
  length : ts.length = n
  each : ∀ j t, ts[j]? = some t → i64s t.1.1 ∧ i64s t.1.2 ∧ ∃ a q qn qc, p = some a ∧ S a.block ∧ CellsAt w (a.add (j * 3)) 0 [.int .i64 t.1.1, .int .i64 t.1.2, .slice q qn qc] ∧ PlacesAt w S q qn t.2
theorem TouchesAt.chg {w w' : World} {S : Nat → Prop} {p : Option Addr} {n : Nat} {ts : List Tch} {f : List Nat} (h : TouchesAt w S p n ts) (hc : Chg f w w') (hf : ∀ i ∈ f, ¬ S i) : TouchesAt w' S p n ts :=
  ⟨h.length, fun j x hx => let ⟨h1, h2, a, q, qn, qc, h3, h4, h5, h6⟩ := h.each j x hx; ⟨h1, h2, a, q, qn, qc, h3, h4, hc.cells (by rw [add_block]; exact fun hm => hf _ hm h4) h5, h6.chg hc hf⟩⟩

theorem get_of {α : Type} {l : List α} {j : Nat} (h : j < l.length) : ∃ x, l[j]? = some x := ⟨l[j], List.getElem?_eq_getElem h⟩
theorem take_snoc {α : Type} {l : List α} {j : Nat} {x : α} (h : l[j]? = some x) : l.take (j + 1) = l.take j ++ [x] := by
  rw [List.take_add_one, h]; rfl

def joinP (g : Int × Int → Int) (ps : List (Int × Int)) : Int := ps.foldl (fun s p => bits .or .u32 s (g p)) 0
theorem joinP_snoc (g : Int × Int → Int) (ps : List (Int × Int)) (p : Int × Int) : joinP g (ps ++ [p]) = bits .or .u32 (joinP g ps) (g p) := by simp [joinP]

theorem flow_together {w : World} {b : Nat} {F : Fl} {fp : List Nat} (h : FlowAt w b F fp) {S : Nat → Prop} {p : Option Addr} {n c : Nat} {ps : List (Int × Int)} (hp : PlacesAt w S p n ps) (hn : n ≤ 9223372036854775807) :
    Calls Tryz.prog 67 #[.pointer (some ⟨b, 0, none⟩), .slice p n c] w fun e w' => ∃ r : Int, e = .returned (.int .u32 r) ∧ (r = joinP F.g ps ∧ Chg [] w w') := by
  refine ok_flow_Flow_together _ _ _ _ _ _ ?_
  unfold V_flow_Flow_together
  refine ⟨fun s w' => ∃ j : Nat, s.2 = (j : Int) ∧ j ≤ n ∧ s.1 = joinP F.g (ps.take j) ∧ Chg [] w w', fun s _ => (n - s.2).toNat, ⟨0, rfl, by omega, rfl, Chg.refl _ _⟩, ?_⟩
  rintro ⟨s1, s2⟩ w1 ⟨j, rfl, hj, rfl, c1⟩
  refine ⟨fun hlt => ?_, fun hge => ?_⟩
  · have hlt' : j < n := by simpa using hlt
    obtain ⟨x, hj'⟩ := get_of (l := ps) (j := j) (by rw [hp.length]; exact hlt')
    obtain ⟨k1, k2, a, rfl, ha, hc⟩ := (hp.chg c1 (by simp)).each j _ hj'
    refine ⟨a, rfl, by simp only []; omega, by simp only []; omega, _, _, by simpa using hc, ?_⟩
    refine v_box (by rfl) (by rfl) fun b1 w3 e3 h3 c3 => ?_
    refine ⟨_, _, cellsAt_of h3, ?_⟩
    have c13 := c1.trans0 c3
    refine (flow_get (h.chg c13 (by simp)) k2).mono ?_
    rintro _ w4 ⟨r2, rfl, rfl, c4⟩
    refine ⟨_, rfl, ?_⟩
    simp only []
    rw [wr (by omega) (by omega)]
    refine ⟨⟨j + 1, by omega, by omega, ?_, c13.trans0 c4⟩, by omega⟩
    rw [take_snoc hj', joinP_snoc]
  · have hge' : ¬ j < n := by simpa using hge
    refine ⟨?_, c1⟩
    rw [List.take_of_length_le (by rw [hp.length]; omega)]

def rightT (fr se : Int) (t : Tch) : Prop := (t.1 = (0, 0) ∨ mayP fr se t.1) ∧ ∀ p ∈ t.2, mayP fr se p
instance (fr se : Int) (t : Tch) : Decidable (rightT fr se t) := by unfold rightT; exact inferInstance
theorem flow_right {w : World} {b : Nat} {F : Fl} {fp : List Nat} (h : FlowAt w b F fp) {S : Nat → Prop} {p : Option Addr} {n c : Nat} {ts : List Tch} (hp : TouchesAt w S p n ts) (hn : n ≤ 9223372036854775807) (hin : ∀ t ∈ ts, t.2.length ≤ 9223372036854775807) :
    Calls Tryz.prog 66 #[.pointer (some ⟨b, 0, none⟩), .slice p n c] w fun e w' => ∃ r : Bool, e = .returned (.bool r) ∧ (r = decide (∀ t ∈ ts, rightT F.fr F.se t) ∧ Chg [] w w') := by
  refine ok_flow_Flow_right _ _ _ _ _ _ ?_
  unfold V_flow_Flow_right
  refine ⟨fun s w' => ∃ j : Nat, s.2 = (j : Int) ∧ j ≤ n ∧ (∀ t ∈ ts.take j, rightT F.fr F.se t) ∧ Chg [] w w', fun s _ => (n - s.2).toNat, ⟨0, rfl, by omega, by simp, Chg.refl _ _⟩, ?_⟩
  rintro ⟨s1, s2⟩ w1 ⟨j, rfl, hj, hall, c1⟩
  refine ⟨fun hlt => ?_, fun hge => ?_⟩
  · have hlt' : j < n := by simpa using hlt
    obtain ⟨t, hj'⟩ := get_of (l := ts) (j := j) (by rw [hp.length]; exact hlt')
    have hmem : t ∈ ts := List.mem_of_getElem? hj'
    obtain ⟨k1, k2, a, q, qn, qc, rfl, ha, hc, hps⟩ := (hp.chg c1 (by simp)).each j _ hj'
    refine ⟨a, rfl, by simp only []; omega, by simp only []; omega, t.1.1, t.1.2, q, qn, qc, by simpa using hc, ?_⟩
    refine v_box (by rfl) (by rfl) fun b1 w3 e3 h3 c3 => ?_
    have c03 := c1.trans0 c3
    refine ⟨t.1.1, t.1.2, ⟨by rw [add_at, cell_of h3]; rfl, by rw [add_at, cell_of h3]; rfl, trivial⟩, ?_⟩
    have hno : ¬ (∀ t ∈ ts, rightT F.fr F.se t) → decide (∀ t ∈ ts, rightT F.fr F.se t) = false := fun h => decide_eq_false h
    refine ⟨fun b2 w4 => b2 = decide (¬ (t.1 = (0, 0) ∨ mayP F.fr F.se t.1)) ∧ Chg [] w w4 ∧ Chg [] w3 w4, ?_, fun hne => ?_, fun he => ?_⟩
    rotate_left
    · have hne' : t.1 ≠ (0, 0) := by
        intro e; rw [e] at hne; simp at hne
      refine ⟨t.1.1, t.1.2, ⟨by rw [add_at, cell_of h3]; rfl, by rw [add_at, cell_of h3]; rfl, trivial⟩, ?_⟩
      refine (flow_may (h.chg c03 (by simp)) _ _).mono ?_
      rintro _ w5 ⟨_, rfl, rfl, c5⟩
      refine ⟨_, rfl, ?_, c03.trans0 c5, c5⟩
      rw [← decide_not]
      exact decide_eq_decide.2 ⟨fun h h' => h'.elim hne' h, fun h h' => h (.inr h')⟩
    · have he' : t.1 = (0, 0) := by
        have : t.1.1 = 0 ∧ t.1.2 = 0 := by simpa using he
        exact Prod.ext this.1 this.2
      exact ⟨by simp [he'], c03, Chg.refl _ _⟩
    rintro b2 w4 ⟨rfl, c04, c34⟩
    refine ⟨fun hb => ?_, fun hb => ?_⟩
    · rw [decide_eq_true_eq] at hb
      exact ⟨(decide_eq_false (fun h => hb (h t hmem).1)).symm, c04⟩
    rw [decide_eq_false_iff_not] at hb
    have hto : t.1 = (0, 0) ∨ mayP F.fr F.se t.1 := Classical.byContradiction hb
    refine ⟨q, qn, qc, by rw [cell_of (c34.obj (by simp) h3)]; rfl, ?_⟩
    have hps4 := (hps.chg c3 (by simp)).chg c34 (by simp)
    have hqn : qn ≤ 9223372036854775807 := by rw [← hps.length]; exact hin t hmem
    refine ⟨fun s w' => ∃ i : Nat, s.2 = (i : Int) ∧ i ≤ qn ∧ (∀ x ∈ t.2.take i, mayP F.fr F.se x) ∧ Chg [] w w' ∧ Chg [] w4 w', fun s _ => (qn - s.2).toNat, ⟨0, rfl, by omega, by simp, c04, Chg.refl _ _⟩, ?_⟩
    rintro ⟨u1, u2⟩ w6 ⟨i, rfl, hi, hsome, c06, c46⟩
    refine ⟨fun hlt2 => ?_, fun hge2 => ?_⟩
    · have hlt2' : i < qn := by simpa using hlt2
      obtain ⟨y, hi'⟩ := get_of (l := t.2) (j := i) (by rw [hps.length]; exact hlt2')
      have hmem2 : y ∈ t.2 := List.mem_of_getElem? hi'
      obtain ⟨k3, k4, a2, rfl, _, hc2⟩ := (hps4.chg c46 (by simp)).each i _ hi'
      refine ⟨a2, rfl, by simp only []; omega, by simp only []; omega, _, _, by simpa using hc2, ?_⟩
      refine v_box (by rfl) (by rfl) fun b3 w8 e8 h8 c8 => ?_
      refine ⟨_, _, cellsAt_of h8, ?_⟩
      have c08 := c06.trans0 c8
      refine (flow_may (h.chg c08 (by simp)) _ _).mono ?_
      rintro _ w9 ⟨_, rfl, rfl, c9⟩
      refine ⟨_, rfl, fun hb => ?_, fun hb => ?_⟩
      · have hb' : ¬ mayP F.fr F.se y := by simpa using hb
        exact ⟨(decide_eq_false (fun h => hb' ((h t hmem).2 _ hmem2))).symm, c08.trans0 c9⟩
      · have hb' : mayP F.fr F.se y := by simpa using hb
        simp only []
        rw [wr (by omega) (by omega)]
        refine ⟨⟨i + 1, by omega, by omega, ?_, c08.trans0 c9, (c46.trans0 c8).trans0 c9⟩, by omega⟩
        rw [take_snoc hi']
        intro x hx
        rcases List.mem_append.1 hx with hx | hx
        · exact hsome x hx
        · simp at hx; rw [hx]; exact hb'
    · have hge2' : ¬ i < qn := by simpa using hge2
      simp only []
      rw [wr (by omega) (by omega)]
      refine ⟨⟨j + 1, by omega, by omega, ?_, c06⟩, by omega⟩
      rw [take_snoc hj']
      intro x hx
      rcases List.mem_append.1 hx with hx | hx
      · exact hall x hx
      · simp at hx; rw [hx]
        rw [List.take_of_length_le (by rw [hps.length]; omega)] at hsome
        exact ⟨hto, hsome⟩
  · have hge' : ¬ j < n := by simpa using hge
    rw [List.take_of_length_le (by rw [hp.length]; omega)] at hall
    exact ⟨(decide_eq_true hall).symm, c1⟩

end Go.Proofs.YtfcfkhbkkfpehaaGreat
end

/- XGz1 -/
section
set_option linter.unusedVariables false
set_option linter.unusedSimpArgs false
namespace Go.Proofs.YtfcfkhbkkfpehaaGreat
open Go Go.X

/- pomander/flow.Same -/
def W_flow_Same (a1 : Option Addr) (b1 : Option Addr) (w : World) (R : Bool → World → Prop) : Prop :=
  Calls Tryz.prog 43 #[.pointer a1] w fun e w1 => ∃ (r2 : Bool), e = .returned (.bool r2) ∧ (∃ J1 : Bool → World → Prop, (∀ (b2 : Bool) (w2 : World), J1 b2 w2 → (b2 = true → Calls Tryz.prog 43 #[.pointer a1] w2 fun e w4 => ∃ (r4 : Bool), e = .returned (.bool r4) ∧ (∃ J2 : Bool → World → Prop, (∀ (b3 : Bool) (w5 : World), J2 b3 w5 → R b3 w5) ∧ ((r4 = true → Calls Tryz.prog 43 #[.pointer b1] w4 fun e w6 => ∃ (r5 : Bool), e = .returned (.bool r5) ∧ (J2 r5 w6)) ∧ (r4 = false → J2 false w4)))) ∧ (b2 = false → ∀ (w7 : World), Chg [] w2 w7 → (∃ a2 : Addr, a1 = some a2 ∧ (∃ (t1 : Int) (t2 : Int), CellsAt w7 a2 0 [.int .i64 t1, .int .i64 t2] ∧ (∃ a3 : Addr, b1 = some a3 ∧ (∃ (t3 : Int) (t4 : Int), CellsAt w7 a3 0 [.int .i64 t3, .int .i64 t4] ∧ (∃ (t5 : Option Addr), w7.cell? (a2.add 2) = some (.pointer t5) ∧ (∃ (t6 : Option Addr), w7.cell? (a3.add 2) = some (.pointer t6) ∧ (∃ J3 : Bool → World → Prop, (∀ (b4 : Bool) (w8 : World), J3 b4 w8 → ∃ J4 : Bool → World → Prop, (∀ (b5 : Bool) (w10 : World), J4 b5 w10 → R b5 w10) ∧ ((b4 = true → Calls Tryz.prog 55 #[.pointer a1] w8 fun e w11 => ∃ (r7 : Option Nat), e = .returned (.map r7) ∧ ((CellsAt w11 a2 0 [.int .i64 t1, .int .i64 t2] ∧ CellsAt w11 a3 0 [.int .i64 t3, .int .i64 t4] ∧ w11.cell? (a2.add 2) = some (.pointer t5) ∧ w11.cell? (a3.add 2) = some (.pointer t6)) ∧ (Calls Tryz.prog 55 #[.pointer b1] w11 fun e w12 => ∃ (r8 : Option Nat), e = .returned (.map r8) ∧ ((CellsAt w12 a2 0 [.int .i64 t1, .int .i64 t2] ∧ CellsAt w12 a3 0 [.int .i64 t3, .int .i64 t4] ∧ w12.cell? (a2.add 2) = some (.pointer t5) ∧ w12.cell? (a3.add 2) = some (.pointer t6)) ∧ (Calls Tryz.prog 54 #[.map r7, .map r8] w12 fun e w13 => ∃ (r9 : Bool), e = .returned (.bool r9) ∧ (J4 r9 w13)))))) ∧ (b4 = false → J4 false w8))) ∧ ((((t1 == t3) && (t2 == t4)) = true → Calls Tryz.prog 53 #[.pointer t5, .pointer t6] w7 fun e w9 => ∃ (r6 : Bool), e = .returned (.bool r6) ∧ ((CellsAt w9 a2 0 [.int .i64 t1, .int .i64 t2] ∧ CellsAt w9 a3 0 [.int .i64 t3, .int .i64 t4] ∧ w9.cell? (a2.add 2) = some (.pointer t5) ∧ w9.cell? (a3.add 2) = some (.pointer t6)) ∧ (J3 r6 w9))) ∧ (((t1 == t3) && (t2 == t4)) = false → J3 false w7))))))))))) ∧ ((r2 = false → Calls Tryz.prog 43 #[.pointer b1] w1 fun e w3 => ∃ (r3 : Bool), e = .returned (.bool r3) ∧ (J1 r3 w3)) ∧ (r2 = true → J1 true w1)))
set_option maxRecDepth 100000 in
theorem go_flow_Same (a1 : Option Addr) (b1 : Option Addr) (w : World) (R : Bool → World → Prop) (h : W_flow_Same a1 b1 w R) : Calls Tryz.prog 23 #[.pointer a1, .pointer b1] w (fun e w' => ∃ (r1 : Bool), e = .returned (.bool r1) ∧ R r1 w') := by
  unfold W_flow_Same at h
  refine enter (N := 44) Tryz.func23 rfl rfl ?_
  refine CW.seq ?_
  refine CW.region fun L hL => ?_
  refine LW.rd hL rfl (Wants.free rfl) rfl (Rd.assign (v := .bool false) rfl) ?_
  refine LW.nil hL rfl ?_
  refine NW.then ?_
  refine CW.seq ?_
  refine CW.seq ?_
  refine CW.region fun L hL => ?_
  refine LW.rd hL rfl (Wants.free rfl) rfl (Rd.move (v := .pointer a1) rfl) ?_
  refine LW.call hL rfl (Wants.free rfl) rfl (Cl.fn (f := 43) rfl Tryz.func43 (by kernel_rfl) rfl) h (fun e w1 h_ => ?_)
  clear h
  obtain ⟨r2, rfl, h⟩ := h_
  refine ⟨_, rfl, ?_⟩
  refine LW.rd hL rfl (Wants.free rfl) rfl (Rd.move (v := .bool r2) rfl) ?_
  obtain ⟨J1, hJ1, h1_J1, h0_J1⟩ := h
  suffices K1 : ∀ (b2 : Bool) (w2 : World), J1 b2 w2 → L 6 [(0, .pointer a1), (1, .pointer b1), (4, .bool false), (10, .bool b2)] w2 by
    rcases Bool.eq_false_or_eq_true r2 with hb1 | hb1
    · have h := h0_J1 hb1
      refine LW.skip hL rfl (Skips.on rfl rfl rfl rfl rfl hb1) rfl ?_
      refine LW.skip hL rfl (Skips.on rfl rfl rfl rfl rfl hb1) rfl ?_
      refine LW.rd hL rfl (Wants.free rfl) rfl (Rd.pickT rfl hb1 rfl) ?_
      exact LW.sub hL (by exact ⟨rfl, rfl, rfl, rfl, trivial⟩) (K1 true w1 h)
    · have h := h1_J1 hb1
      refine LW.rd hL rfl (Wants.on rfl rfl rfl rfl rfl hb1) rfl (Rd.move (v := .pointer b1) rfl) ?_
      refine LW.call hL rfl (Wants.on rfl rfl rfl rfl rfl hb1) rfl (Cl.fn (f := 43) rfl Tryz.func43 (by kernel_rfl) rfl) h (fun e w3 h_ => ?_)
      clear h
      obtain ⟨r3, rfl, h⟩ := h_
      refine ⟨_, rfl, ?_⟩
      refine LW.rd hL rfl (Wants.free rfl) rfl (Rd.pickF rfl hb1 rfl) ?_
      exact LW.sub hL (by exact ⟨rfl, rfl, rfl, rfl, trivial⟩) (K1 r3 w3 h)
  intro b2 w2 h_
  have h := hJ1 b2 w2 h_; clear h_
  refine LW.nil hL rfl ?_
  refine NW.then ?_
  refine CW.cond rfl (fun hb2 => ?_) (fun hb2 => ?_)
  · replace h := h.1 hb2
    refine CW.seq ?_
    refine CW.region fun L hL => ?_
    refine LW.rd hL rfl (Wants.free rfl) rfl (Rd.move (v := .pointer a1) rfl) ?_
    refine LW.call hL rfl (Wants.free rfl) rfl (Cl.fn (f := 43) rfl Tryz.func43 (by kernel_rfl) rfl) h (fun e w4 h_ => ?_)
    clear h
    obtain ⟨r4, rfl, h⟩ := h_
    refine ⟨_, rfl, ?_⟩
    refine LW.rd hL rfl (Wants.free rfl) rfl (Rd.move (v := .bool r4) rfl) ?_
    obtain ⟨J2, hJ2, h1_J2, h0_J2⟩ := h
    suffices K2 : ∀ (b3 : Bool) (w5 : World), J2 b3 w5 → L 6 [(0, .pointer a1), (1, .pointer b1), (4, .bool false), (16, .bool b3)] w5 by
      rcases Bool.eq_false_or_eq_true r4 with hb3 | hb3
      · have h := h1_J2 hb3
        refine LW.rd hL rfl (Wants.on rfl rfl rfl rfl rfl hb3) rfl (Rd.move (v := .pointer b1) rfl) ?_
        refine LW.call hL rfl (Wants.on rfl rfl rfl rfl rfl hb3) rfl (Cl.fn (f := 43) rfl Tryz.func43 (by kernel_rfl) rfl) h (fun e w6 h_ => ?_)
        clear h
        obtain ⟨r5, rfl, h⟩ := h_
        refine ⟨_, rfl, ?_⟩
        refine LW.rd hL rfl (Wants.free rfl) rfl (Rd.pickT rfl hb3 rfl) ?_
        exact LW.sub hL (by exact ⟨rfl, rfl, rfl, rfl, trivial⟩) (K2 r5 w6 h)
      · have h := h0_J2 hb3
        refine LW.skip hL rfl (Skips.on rfl rfl rfl rfl rfl hb3) rfl ?_
        refine LW.skip hL rfl (Skips.on rfl rfl rfl rfl rfl hb3) rfl ?_
        refine LW.rd hL rfl (Wants.free rfl) rfl (Rd.pickF rfl hb3 rfl) ?_
        exact LW.sub hL (by exact ⟨rfl, rfl, rfl, rfl, trivial⟩) (K2 false w4 h)
    intro b3 w5 h_
    have h := hJ2 b3 w5 h_; clear h_
    refine LW.rd hL rfl (Wants.free rfl) rfl (Rd.assign (v := .bool b3) rfl) ?_
    refine LW.nil hL rfl ?_
    refine NW.then ?_
    refine CW.ret ?_
    refine RW.then ?_
    exact res1 rfl rfl ⟨b3, rfl, h⟩
  · replace h := h.2 hb2
    refine CW.skip ?_
    refine NW.then ?_
    refine CW.seq ?_
    obtain ⟨w7, hw_w7⟩ : ∃ x, x = World.drew w2 := ⟨_, rfl⟩
    have hc_w7 := sil_drew (Chg.refl [] w2) hw_w7
    replace h := h  w7  hc_w7
    obtain ⟨a2, ha1, h⟩ := h
    obtain ⟨t1, t2, hc1, h⟩ := h
    obtain ⟨a3, ha2, h⟩ := h
    obtain ⟨t3, t4, hc2, h⟩ := h
    obtain ⟨t5, hc3, h⟩ := h
    obtain ⟨t6, hc4, h⟩ := h
    refine CW.drawn (fun w => CellsAt w a2 0 [.int .i64 t1, .int .i64 t2] ∧ CellsAt w a3 0 [.int .i64 t3, .int .i64 t4] ∧ w.cell? (a2.add 2) = some (.pointer t5) ∧ w.cell? (a3.add 2) = some (.pointer t6) ∧ True) 25 (by kernel_rfl) fun H hH => ?_
    rw [← hw_w7]
    have hS1 : CellsAt w7 a2 0 [.int .i64 t1, .int .i64 t2] ∧ CellsAt w7 a3 0 [.int .i64 t3, .int .i64 t4] ∧ w7.cell? (a2.add 2) = some (.pointer t5) ∧ w7.cell? (a3.add 2) = some (.pointer t6) ∧ True := ⟨hc1, hc2, hc3, hc4, trivial⟩
    refine HW.pure (i := 0) hH rfl (by kernel_rfl) (Wants.free rfl) rfl (fun _ => hS1) (Rd.move (v := .pointer a1) rfl) ?_
    refine HW.pure (i := 1) hH rfl (by kernel_rfl) (Wants.free rfl) rfl (fun _ => hS1) (Rd.nil (q := a2) (by rw [← ha1]; rfl)) ?_
    refine HW.pure (i := 2) hH rfl (by kernel_rfl) (Wants.free rfl) rfl (fun _ => hS1) (Rd.fa (v := .pointer (some a2)) rfl (fun _ => by kernel_rfl)) ?_
    refine HW.take (i := 3) hH rfl (by kernel_rfl) (by kernel_rfl) (Wants.free rfl) rfl (fun _ => hS1) (Rd.ldN (cs := [.int .i64 t1, .int .i64 t2]) rfl (by kernel_rfl) (by kernel_rfl) (fun w h => cellsAt_get h.1)) ?_
    refine HW.pure (i := 4) hH rfl (by kernel_rfl) (Wants.free rfl) rfl (fun _ => hS1) (Rd.move (v := .pointer b1) rfl) ?_
    refine HW.pure (i := 5) hH rfl (by kernel_rfl) (Wants.free rfl) rfl (fun _ => hS1) (Rd.nil (q := a3) (by rw [← ha2]; rfl)) ?_
    refine HW.pure (i := 6) hH rfl (by kernel_rfl) (Wants.free rfl) rfl (fun _ => hS1) (Rd.fa (v := .pointer (some a3)) rfl (fun _ => by kernel_rfl)) ?_
    refine HW.take (i := 7) hH rfl (by kernel_rfl) (by kernel_rfl) (Wants.free rfl) rfl (fun _ => hS1) (Rd.ldN (cs := [.int .i64 t3, .int .i64 t4]) rfl (by kernel_rfl) (by kernel_rfl) (fun w h => cellsAt_get h.2.1)) ?_
    refine HW.pure (i := 8) hH rfl (by kernel_rfl) (Wants.free rfl) rfl (fun _ => hS1) (Rd.bin (v := .bool ((t1 == t3) && (t2 == t4))) rfl rfl (fun w => eqS_37 _ _ _ _ w)) ?_
    refine HW.pure (i := 9) hH rfl (by kernel_rfl) (Wants.free rfl) rfl (fun _ => hS1) (Rd.move (v := .bool ((t1 == t3) && (t2 == t4))) rfl) ?_
    obtain ⟨J3, hJ3, h1_J3, h0_J3⟩ := h
    suffices K3 : ∀ (b4 : Bool) (w8 : World), (CellsAt w8 a2 0 [.int .i64 t1, .int .i64 t2] ∧ CellsAt w8 a3 0 [.int .i64 t3, .int .i64 t4] ∧ w8.cell? (a2.add 2) = some (.pointer t5) ∧ w8.cell? (a3.add 2) = some (.pointer t6) ∧ True) → J3 b4 w8 → H 8 #[true, true, true, true, true, true, true, true, true, true, true, true, true, true, true, true, true, true, true, true, false, false, false, false, false, false, false, false] [(0, .pointer a1), (1, .pointer b1), (4, .bool false), (36, .bool b4)] w8 by
      rcases Bool.eq_false_or_eq_true ((t1 == t3) && (t2 == t4)) with hb4 | hb4
      · have h := h1_J3 hb4
        refine HW.pure (i := 10) hH rfl (by kernel_rfl) (Wants.on rfl rfl rfl rfl rfl hb4) rfl (fun _ => hS1) (Rd.move (v := .pointer a1) rfl) ?_
        refine HW.pure (i := 11) hH rfl (by kernel_rfl) (Wants.on rfl rfl rfl rfl rfl hb4) rfl (fun _ => hS1) (Rd.nil (q := a2) (by rw [← ha1]; rfl)) ?_
        refine HW.pure (i := 12) hH rfl (by kernel_rfl) (Wants.on rfl rfl rfl rfl rfl hb4) rfl (fun _ => hS1) (Rd.fa (v := .pointer (some (a2.add 2))) rfl (fun _ => by kernel_rfl)) ?_
        refine HW.take (i := 13) hH rfl (by kernel_rfl) (by kernel_rfl) (Wants.on rfl rfl rfl rfl rfl hb4) rfl (fun _ => hS1) (Rd.ld (v := .pointer t5) rfl (by kernel_rfl) (fun w h => h.2.2.1)) ?_
        refine HW.pure (i := 14) hH rfl (by kernel_rfl) (Wants.on rfl rfl rfl rfl rfl hb4) rfl (fun _ => hS1) (Rd.move (v := .pointer b1) rfl) ?_
        refine HW.pure (i := 15) hH rfl (by kernel_rfl) (Wants.on rfl rfl rfl rfl rfl hb4) rfl (fun _ => hS1) (Rd.nil (q := a3) (by rw [← ha2]; rfl)) ?_
        refine HW.pure (i := 16) hH rfl (by kernel_rfl) (Wants.on rfl rfl rfl rfl rfl hb4) rfl (fun _ => hS1) (Rd.fa (v := .pointer (some (a3.add 2))) rfl (fun _ => by kernel_rfl)) ?_
        refine HW.take (i := 17) hH rfl (by kernel_rfl) (by kernel_rfl) (Wants.on rfl rfl rfl rfl rfl hb4) rfl (fun _ => hS1) (Rd.ld (v := .pointer t6) rfl (by kernel_rfl) (fun w h => h.2.2.2.1)) ?_
        refine HW.call (i := 18) hH (by kernel_rfl) rfl (Wants.on rfl rfl rfl rfl rfl hb4) rfl (Cl.fn (f := 53) rfl Tryz.func53 (by kernel_rfl) rfl) h (fun e w9 h_ => ?_)
        clear h
        obtain ⟨r6, rfl, hS2, h⟩ := h_
        have hS3 := (⟨hS2.1, hS2.2.1, hS2.2.2.1, hS2.2.2.2, trivial⟩ : CellsAt w9 a2 0 [.int .i64 t1, .int .i64 t2] ∧ CellsAt w9 a3 0 [.int .i64 t3, .int .i64 t4] ∧ w9.cell? (a2.add 2) = some (.pointer t5) ∧ w9.cell? (a3.add 2) = some (.pointer t6) ∧ True)
        refine ⟨_, rfl, (fun _ => hS3), ?_⟩
        refine HW.pure (i := 19) hH rfl (by kernel_rfl) (Wants.free rfl) rfl (fun _ => hS3) (Rd.pickT rfl hb4 rfl) ?_
        exact HW.sub hH (by exact ⟨rfl, rfl, rfl, rfl, trivial⟩) (K3 r6 w9 hS3 h)
      · have h := h0_J3 hb4
        refine HW.skip (i := 10) hH rfl (by kernel_rfl) (Skips.on rfl rfl rfl rfl rfl hb4) rfl (fun _ => hS1) ?_
        refine HW.skip (i := 11) hH rfl (by kernel_rfl) (Skips.on rfl rfl rfl rfl rfl hb4) rfl (fun _ => hS1) ?_
        refine HW.skip (i := 12) hH rfl (by kernel_rfl) (Skips.on rfl rfl rfl rfl rfl hb4) rfl (fun _ => hS1) ?_
        refine HW.skip (i := 13) hH rfl (by kernel_rfl) (Skips.on rfl rfl rfl rfl rfl hb4) rfl (fun _ => hS1) ?_
        refine HW.skip (i := 14) hH rfl (by kernel_rfl) (Skips.on rfl rfl rfl rfl rfl hb4) rfl (fun _ => hS1) ?_
        refine HW.skip (i := 15) hH rfl (by kernel_rfl) (Skips.on rfl rfl rfl rfl rfl hb4) rfl (fun _ => hS1) ?_
        refine HW.skip (i := 16) hH rfl (by kernel_rfl) (Skips.on rfl rfl rfl rfl rfl hb4) rfl (fun _ => hS1) ?_
        refine HW.skip (i := 17) hH rfl (by kernel_rfl) (Skips.on rfl rfl rfl rfl rfl hb4) rfl (fun _ => hS1) ?_
        refine HW.skip (i := 18) hH rfl (by kernel_rfl) (Skips.on rfl rfl rfl rfl rfl hb4) rfl (fun _ => hS1) ?_
        refine HW.pure (i := 19) hH rfl (by kernel_rfl) (Wants.free rfl) rfl (fun _ => hS1) (Rd.pickF rfl hb4 rfl) ?_
        exact HW.sub hH (by exact ⟨rfl, rfl, rfl, rfl, trivial⟩) (K3 false w7 hS1 h)
    intro b4 w8 hS4 h_
    have h := hJ3 b4 w8 h_; clear h_
    refine HW.pure (i := 20) hH rfl (by kernel_rfl) (Wants.free rfl) rfl (fun _ => hS4) (Rd.move (v := .bool b4) rfl) ?_
    obtain ⟨J4, hJ4, h1_J4, h0_J4⟩ := h
    suffices K4 : ∀ (b5 : Bool) (w10 : World), J4 b5 w10 → H 1 #[true, true, true, true, true, true, true, true, true, true, true, true, true, true, true, true, true, true, true, true, true, true, true, true, true, true, true, false] [(4, .bool false), (43, .bool b5)] w10 by
      rcases Bool.eq_false_or_eq_true b4 with hb5 | hb5
      · have h := h1_J4 hb5
        refine HW.pure (i := 21) hH rfl (by kernel_rfl) (Wants.on rfl rfl rfl rfl rfl hb5) rfl (fun _ => hS4) (Rd.move (v := .pointer a1) rfl) ?_
        refine HW.pure (i := 23) hH rfl (by kernel_rfl) (Wants.on rfl rfl rfl rfl rfl hb5) rfl (fun _ => hS4) (Rd.move (v := .pointer b1) rfl) ?_
        refine HW.call (i := 22) hH (by kernel_rfl) rfl (Wants.on rfl rfl rfl rfl rfl hb5) rfl (Cl.fn (f := 55) rfl Tryz.func55 (by kernel_rfl) rfl) h (fun e w11 h_ => ?_)
        clear h
        obtain ⟨r7, rfl, hS5, h⟩ := h_
        have hS6 := (⟨hS5.1, hS5.2.1, hS5.2.2.1, hS5.2.2.2, trivial⟩ : CellsAt w11 a2 0 [.int .i64 t1, .int .i64 t2] ∧ CellsAt w11 a3 0 [.int .i64 t3, .int .i64 t4] ∧ w11.cell? (a2.add 2) = some (.pointer t5) ∧ w11.cell? (a3.add 2) = some (.pointer t6) ∧ True)
        refine ⟨_, rfl, (fun _ => hS6), ?_⟩
        refine HW.call (i := 24) hH (by kernel_rfl) rfl (Wants.on rfl rfl rfl rfl rfl hb5) rfl (Cl.fn (f := 55) rfl Tryz.func55 (by kernel_rfl) rfl) h (fun e w12 h_ => ?_)
        clear h
        obtain ⟨r8, rfl, hS7, h⟩ := h_
        have hS8 := (⟨hS7.1, hS7.2.1, hS7.2.2.1, hS7.2.2.2, trivial⟩ : CellsAt w12 a2 0 [.int .i64 t1, .int .i64 t2] ∧ CellsAt w12 a3 0 [.int .i64 t3, .int .i64 t4] ∧ w12.cell? (a2.add 2) = some (.pointer t5) ∧ w12.cell? (a3.add 2) = some (.pointer t6) ∧ True)
        refine ⟨_, rfl, (fun _ => hS8), ?_⟩
        refine HW.call (i := 25) hH (by kernel_rfl) rfl (Wants.on rfl rfl rfl rfl rfl hb5) rfl (Cl.fn (f := 54) rfl Tryz.func54 (by kernel_rfl) rfl) h (fun e w13 h_ => ?_)
        clear h
        obtain ⟨r9, rfl, h⟩ := h_
        refine ⟨_, rfl, (fun hc => by cases hc), ?_⟩
        refine HW.pure (i := 26) hH rfl (by kernel_rfl) (Wants.free rfl) rfl (fun hc => by cases hc) (Rd.pickT rfl hb5 rfl) ?_
        exact HW.sub hH (by exact ⟨rfl, rfl, trivial⟩) (K4 r9 w13 h)
      · have h := h0_J4 hb5
        refine HW.skip (i := 21) hH rfl (by kernel_rfl) (Skips.on rfl rfl rfl rfl rfl hb5) rfl (fun _ => hS4) ?_
        refine HW.skip (i := 22) hH rfl (by kernel_rfl) (Skips.on rfl rfl rfl rfl rfl hb5) rfl (fun _ => hS4) ?_
        refine HW.skip (i := 23) hH rfl (by kernel_rfl) (Skips.on rfl rfl rfl rfl rfl hb5) rfl (fun _ => hS4) ?_
        refine HW.skip (i := 24) hH rfl (by kernel_rfl) (Skips.on rfl rfl rfl rfl rfl hb5) rfl (fun _ => hS4) ?_
        refine HW.skip1 (i := 25) hH (by kernel_rfl) rfl (Skips.on rfl rfl rfl rfl rfl hb5) rfl (fun hc => by cases hc) ?_
        refine HW.pure (i := 26) hH rfl (by kernel_rfl) (Wants.free rfl) rfl (fun hc => by cases hc) (Rd.pickF rfl hb5 rfl) ?_
        exact HW.sub hH (by exact ⟨rfl, rfl, trivial⟩) (K4 false w8 h)
    intro b5 w10 h_
    have h := hJ4 b5 w10 h_; clear h_
    refine HW.pure (i := 27) hH rfl (by kernel_rfl) (Wants.free rfl) rfl (fun hc => by cases hc) (Rd.assign (v := .bool b5) rfl) ?_
    refine HW.done hH (by kernel_rfl) ?_
    refine NW.then ?_
    refine CW.ret ?_
    exact res1 rfl rfl ⟨b5, rfl, h⟩

end Go.Proofs.YtfcfkhbkkfpehaaGreat
end

/- XGz3 -/
section
set_option linter.unusedVariables false
set_option linter.unusedSimpArgs false
namespace Go.Proofs.YtfcfkhbkkfpehaaGreat
open Go Go.X

/- (*pomander/flow.Flow).Sets -/
def W_flow_Flow_Sets (f1 : Option Addr) (w : World) (R : (Option Addr) → Nat → Nat → World → Prop) : Prop :=
  Calls Tryz.prog 43 #[.pointer f1] w fun e w1 => ∃ (r2 : Bool), e = .returned (.bool r2) ∧ ((r2 = true → R none 0 0 w1) ∧ (r2 = false → ∃ a1 : Addr, f1 = some a1 ∧ (∃ (t1 : Option Addr), w1.cell? (a1.add 2) = some (.pointer t1) ∧ (Calls Tryz.prog 68 #[.pointer t1] w1 fun e w2 => ∃ (r3 : Option Addr) (r3n : Nat) (r3c : Nat), e = .returned (.slice r3 r3n r3c) ∧ (R r3 r3n r3c w2)))))
set_option maxRecDepth 100000 in
theorem go_flow_Flow_Sets (f1 : Option Addr) (w : World) (R : (Option Addr) → Nat → Nat → World → Prop) (h : W_flow_Flow_Sets f1 w R) : Calls Tryz.prog 33 #[.pointer f1] w (fun e w' => ∃ (r1 : Option Addr) (r1n : Nat) (r1c : Nat), e = .returned (.slice r1 r1n r1c) ∧ R r1 r1n r1c w') := by
  unfold W_flow_Flow_Sets at h
  refine enter (N := 10) Tryz.func33 rfl rfl ?_
  refine CW.seq ?_
  refine CW.region fun L hL => ?_
  refine LW.rd hL rfl (Wants.free rfl) rfl (Rd.assign (v := .slice none 0 0) rfl) ?_
  refine LW.nil hL rfl ?_
  refine NW.then ?_
  refine CW.seq ?_
  refine CW.seq ?_
  refine CW.region fun L hL => ?_
  refine LW.rd hL rfl (Wants.free rfl) rfl (Rd.move (v := .pointer f1) rfl) ?_
  refine LW.call hL rfl (Wants.free rfl) rfl (Cl.fn (f := 43) rfl Tryz.func43 (by kernel_rfl) rfl) h (fun e w1 h_ => ?_)
  clear h
  obtain ⟨r2, rfl, h⟩ := h_
  refine ⟨_, rfl, ?_⟩
  refine LW.nil hL rfl ?_
  refine NW.then ?_
  refine CW.cond rfl (fun hb1 => ?_) (fun hb1 => ?_)
  · replace h := h.1 hb1
    refine CW.seq ?_
    refine CW.region fun L hL => ?_
    refine LW.rd hL rfl (Wants.free rfl) rfl (Rd.assign (v := .slice none 0 0) rfl) ?_
    refine LW.nil hL rfl ?_
    refine NW.then ?_
    refine CW.ret ?_
    refine RW.then ?_
    exact res1 rfl rfl ⟨none, 0, 0, rfl, h⟩
  · replace h := h.2 hb1
    refine CW.skip ?_
    refine NW.then ?_
    refine CW.seq ?_
    refine CW.region fun L hL => ?_
    refine LW.rd hL rfl (Wants.free rfl) rfl (Rd.move (v := .pointer f1) rfl) ?_
    obtain ⟨a1, ha1, h⟩ := h
    refine LW.rd hL rfl (Wants.free rfl) rfl (Rd.nil (q := a1) (by rw [← ha1]; rfl)) ?_
    refine LW.rd hL rfl (Wants.free rfl) rfl (Rd.fa (v := .pointer (some (a1.add 2))) rfl (fun _ => by kernel_rfl)) ?_
    obtain ⟨t1, hc1, h⟩ := h
    refine LW.rd hL rfl (Wants.free rfl) rfl (Rd.ld (v := .pointer t1) rfl (by kernel_rfl) (eqs hc1)) ?_
    refine LW.call hL rfl (Wants.free rfl) rfl (Cl.fn (f := 68) rfl Tryz.func68 (by kernel_rfl) rfl) h (fun e w2 h_ => ?_)
    clear h
    obtain ⟨r3, r3n, r3c, rfl, h⟩ := h_
    refine ⟨_, rfl, ?_⟩
    refine LW.rd hL rfl (Wants.free rfl) rfl (Rd.assign (v := .slice r3 r3n r3c) rfl) ?_
    refine LW.nil hL rfl ?_
    refine NW.then ?_
    refine CW.ret ?_
    exact res1 rfl rfl ⟨r3, r3n, r3c, rfl, h⟩

/- (*pomander/flow.Flow).Pages -/
def W_flow_Flow_Pages (f1 : Option Addr) (w : World) (R : Int → Int → World → Prop) : Prop :=
  Calls Tryz.prog 43 #[.pointer f1] w fun e w1 => ∃ (r3 : Bool), e = .returned (.bool r3) ∧ ((r3 = true → R 0 0 w1) ∧ (r3 = false → ∀ (w2 : World), Chg [] w1 w2 → (∃ a1 : Addr, f1 = some a1 ∧ (∃ (t1 : Option Addr), w2.cell? (a1.add 3) = some (.pointer t1) ∧ (∃ (t2 : Option Addr), w2.cell? (a1.add 4) = some (.pointer t2) ∧ (Calls Tryz.prog 74 #[.pointer t1] w2 fun e w3 => ∃ (r4 : Int), e = .returned (.int .i64 r4) ∧ ((w3.cell? (a1.add 3) = some (.pointer t1) ∧ w3.cell? (a1.add 4) = some (.pointer t2)) ∧ (Calls Tryz.prog 74 #[.pointer t2] w3 fun e w4 => ∃ (r5 : Int), e = .returned (.int .i64 r5) ∧ (R r4 r5 w4)))))))))
set_option maxRecDepth 100000 in
theorem go_flow_Flow_Pages (f1 : Option Addr) (w : World) (R : Int → Int → World → Prop) (h : W_flow_Flow_Pages f1 w R) : Calls Tryz.prog 36 #[.pointer f1] w (fun e w' => ∃ (r1 : Int) (r2 : Int), e = .returned (.tuple #[.int .i64 r1, .int .i64 r2]) ∧ R r1 r2 w') := by
  unfold W_flow_Flow_Pages at h
  refine enter (N := 16) Tryz.func36 rfl rfl ?_
  refine CW.seq ?_
  refine CW.region fun L hL => ?_
  refine LW.rd hL rfl (Wants.free rfl) rfl (Rd.assign (v := .int .i64 0) rfl) ?_
  refine LW.rd hL rfl (Wants.free rfl) rfl (Rd.assign (v := .int .i64 0) rfl) ?_
  refine LW.nil hL rfl ?_
  refine NW.then ?_
  refine CW.seq ?_
  refine CW.seq ?_
  refine CW.region fun L hL => ?_
  refine LW.rd hL rfl (Wants.free rfl) rfl (Rd.move (v := .pointer f1) rfl) ?_
  refine LW.call hL rfl (Wants.free rfl) rfl (Cl.fn (f := 43) rfl Tryz.func43 (by kernel_rfl) rfl) h (fun e w1 h_ => ?_)
  clear h
  obtain ⟨r3, rfl, h⟩ := h_
  refine ⟨_, rfl, ?_⟩
  refine LW.nil hL rfl ?_
  refine NW.then ?_
  refine CW.cond rfl (fun hb1 => ?_) (fun hb1 => ?_)
  · replace h := h.1 hb1
    refine CW.seq ?_
    refine CW.region fun L hL => ?_
    refine LW.rd hL rfl (Wants.free rfl) rfl (Rd.assign (v := .int .i64 0) rfl) ?_
    refine LW.rd hL rfl (Wants.free rfl) rfl (Rd.assign (v := .int .i64 0) rfl) ?_
    refine LW.nil hL rfl ?_
    refine NW.then ?_
    refine CW.ret ?_
    refine RW.then ?_
    exact res2 rfl rfl rfl ⟨0, 0, rfl, h⟩
  · replace h := h.2 hb1
    refine CW.skip ?_
    refine NW.then ?_
    refine CW.seq ?_
    obtain ⟨w2, hw_w2⟩ : ∃ x, x = World.drew w1 := ⟨_, rfl⟩
    have hc_w2 := sil_drew (Chg.refl [] w1) hw_w2
    replace h := h  w2  hc_w2
    obtain ⟨a1, ha1, h⟩ := h
    obtain ⟨t1, hc1, h⟩ := h
    obtain ⟨t2, hc2, h⟩ := h
    refine CW.drawn (fun w => w.cell? (a1.add 3) = some (.pointer t1) ∧ w.cell? (a1.add 4) = some (.pointer t2) ∧ True) 9 (by kernel_rfl) fun H hH => ?_
    rw [← hw_w2]
    have hS1 : w2.cell? (a1.add 3) = some (.pointer t1) ∧ w2.cell? (a1.add 4) = some (.pointer t2) ∧ True := ⟨hc1, hc2, trivial⟩
    refine HW.pure (i := 0) hH rfl (by kernel_rfl) (Wants.free rfl) rfl (fun _ => hS1) (Rd.move (v := .pointer f1) rfl) ?_
    refine HW.pure (i := 1) hH rfl (by kernel_rfl) (Wants.free rfl) rfl (fun _ => hS1) (Rd.nil (q := a1) (by rw [← ha1]; rfl)) ?_
    refine HW.pure (i := 2) hH rfl (by kernel_rfl) (Wants.free rfl) rfl (fun _ => hS1) (Rd.fa (v := .pointer (some (a1.add 3))) rfl (fun _ => by kernel_rfl)) ?_
    refine HW.take (i := 3) hH rfl (by kernel_rfl) (by kernel_rfl) (Wants.free rfl) rfl (fun _ => hS1) (Rd.ld (v := .pointer t1) rfl (by kernel_rfl) (fun w h => h.1)) ?_
    refine HW.pure (i := 5) hH rfl (by kernel_rfl) (Wants.free rfl) rfl (fun _ => hS1) (Rd.move (v := .pointer f1) rfl) ?_
    refine HW.pure (i := 6) hH rfl (by kernel_rfl) (Wants.free rfl) rfl (fun _ => hS1) (Rd.nil (q := a1) (by rw [← ha1]; rfl)) ?_
    refine HW.pure (i := 7) hH rfl (by kernel_rfl) (Wants.free rfl) rfl (fun _ => hS1) (Rd.fa (v := .pointer (some (a1.add 4))) rfl (fun _ => by kernel_rfl)) ?_
    refine HW.take (i := 8) hH rfl (by kernel_rfl) (by kernel_rfl) (Wants.free rfl) rfl (fun _ => hS1) (Rd.ld (v := .pointer t2) rfl (by kernel_rfl) (fun w h => h.2.1)) ?_
    refine HW.call (i := 4) hH (by kernel_rfl) rfl (Wants.free rfl) rfl (Cl.fn (f := 74) rfl Tryz.func74 (by kernel_rfl) rfl) h (fun e w3 h_ => ?_)
    clear h
    obtain ⟨r4, rfl, hS2, h⟩ := h_
    have hS3 := (⟨hS2.1, hS2.2, trivial⟩ : w3.cell? (a1.add 3) = some (.pointer t1) ∧ w3.cell? (a1.add 4) = some (.pointer t2) ∧ True)
    refine ⟨_, rfl, (fun _ => hS3), ?_⟩
    refine HW.call (i := 9) hH (by kernel_rfl) rfl (Wants.free rfl) rfl (Cl.fn (f := 74) rfl Tryz.func74 (by kernel_rfl) rfl) h (fun e w4 h_ => ?_)
    clear h
    obtain ⟨r5, rfl, h⟩ := h_
    refine ⟨_, rfl, (fun hc => by cases hc), ?_⟩
    refine HW.pure (i := 10) hH rfl (by kernel_rfl) (Wants.free rfl) rfl (fun hc => by cases hc) (Rd.assign (v := .int .i64 r4) rfl) ?_
    refine HW.pure (i := 11) hH rfl (by kernel_rfl) (Wants.free rfl) rfl (fun hc => by cases hc) (Rd.assign (v := .int .i64 r5) rfl) ?_
    refine HW.done hH (by kernel_rfl) ?_
    refine NW.then ?_
    refine CW.ret ?_
    exact res2 rfl rfl rfl ⟨r4, r5, rfl, h⟩

end Go.Proofs.YtfcfkhbkkfpehaaGreat
end

/- XFSame -/
section
/- Flows that are the same: slices.Equal, labels.Same, maps.Equal, flow.Same. -/
set_option linter.unusedVariables false
set_option linter.unusedSimpArgs false
namespace Go.Proofs.YtfcfkhbkkfpehaaGreat
open Go Go.RowKit Go.X Go.XR

end Go.Proofs.YtfcfkhbkkfpehaaGreat
end

/- XRef1 -/
section
/- The document's flows: New, May, Keep, Put, Mark. -/
set_option linter.unusedVariables false
set_option linter.unusedSimpArgs false
namespace Go.Proofs.YtfcfkhbkkfpehaaGreat
open Go Go.RowKit Go.X

/-! ### Rows of equal elements -/
theorem flat_length {α : Type} {enc : α → List Value} {size : Nat} (hs : ∀ x, (enc x).length = size) (l : List α) : (l.flatMap enc).length = l.length * size := by
  induction l with
  | nil => simp
  | cons a l ih => simp only [List.flatMap_cons, List.length_append, hs, ih, List.length_cons]; rw [Nat.add_mul]; omega

abbrev Pr := (Int × Int) × Int
def encPr (x : Pr) : List Value := [.int .i64 x.1.1, .int .i64 x.1.2, .int .u32 x.2]
structure Rf where
  fr : Int
  se : Int
  most : Int
  sets : List Int
  pairs : List Pr

/-- The document's flow as a value, of two rows. -/
structure RefAt (w : World) (R : Rf) (p4 : Option Addr) (n4 c4 : Nat) (p5 : Option Addr) (n5 c5 : Nat) : Prop where
  sets : RowAt w 22 1 p4 n4 c4 (R.sets.map (.int .u32))
  pairs : RowAt w 131 3 p5 n5 c5 (R.pairs.flatMap encPr)
theorem RefAt.chg {w w' : World} {R : Rf} {p4 p5 : Option Addr} {n4 c4 n5 c5 : Nat} {f : List Nat} (h : RefAt w R p4 n4 c4 p5 n5 c5) (hc : Chg f w w') (h4 : ∀ i ∈ rowB p4, i ∉ f) (h5 : ∀ i ∈ rowB p5, i ∉ f) : RefAt w' R p4 n4 c4 p5 n5 c5 :=
  ⟨h.sets.chg hc h4, h.pairs.chg hc h5⟩
theorem RefAt.n4 {w : World} {R : Rf} {p4 p5 : Option Addr} {n4 c4 n5 c5 : Nat} (h : RefAt w R p4 n4 c4 p5 n5 c5) : n4 = R.sets.length := by have := h.sets.length; simp at this; omega
theorem RefAt.n5 {w : World} {R : Rf} {p4 p5 : Option Addr} {n4 c4 n5 c5 : Nat} (h : RefAt w R p4 n4 c4 p5 n5 c5) : n5 = R.pairs.length := by
  have := h.pairs.length; rw [flat_length (size := 3) (fun _ => rfl)] at this; omega

end Go.Proofs.YtfcfkhbkkfpehaaGreat
end

/- XRef2 -/
section
/- The document's flows: Keep, ahead, Put. -/
set_option linter.unusedVariables false
set_option linter.unusedSimpArgs false
namespace Go.Proofs.YtfcfkhbkkfpehaaGreat
open Go Go.RowKit Go.X

/-- Which place is ahead. -/
def aheadP (a b : Int × Int) : Prop := a.1 < b.1 ∨ a.1 = b.1 ∧ a.2 < b.2
instance (a b : Int × Int) : Decidable (aheadP a b) := by unfold aheadP; exact inferInstance
def stepPut (p : Int × Int) (set : Int) (s : List Pr × Bool) (x : Pr) : List Pr × Bool :=
  let s1 := if !s.2 && decide (aheadP p x.1) then (s.1 ++ [(p, set)], true) else s
  let o2 := if x.1 = p then s1.1 else s1.1 ++ [x]
  if x.1 = p ∧ s1.2 = false then (o2 ++ [(p, set)], true) else (o2, s1.2)
def foldPut (p : Int × Int) (set : Int) (l : List Pr) : List Pr × Bool := l.foldl (stepPut p set) ([], set == 0)
def refPut (p : Int × Int) (set : Int) (l : List Pr) : List Pr := let s := foldPut p set l; if s.2 then s.1 else s.1 ++ [(p, set)]
theorem foldPut_snoc (p : Int × Int) (set : Int) (l : List Pr) (x : Pr) : foldPut p set (l ++ [x]) = stepPut p set (foldPut p set l) x := by simp [foldPut]
end Go.Proofs.YtfcfkhbkkfpehaaGreat
end

/- XRef3 -/
section
/- The document's flows: Put. -/
set_option linter.unusedVariables false
set_option linter.unusedSimpArgs false
namespace Go.Proofs.YtfcfkhbkkfpehaaGreat
open Go Go.RowKit Go.X

end Go.Proofs.YtfcfkhbkkfpehaaGreat
end

/- XRef4 -/
section
/- The document's flows: New, Mark. -/
set_option linter.unusedVariables false
set_option linter.unusedSimpArgs false
namespace Go.Proofs.YtfcfkhbkkfpehaaGreat
open Go Go.RowKit Go.X

def refFill (p : Int × Int) (set : Int) (l : List Pr) : Nat → List Pr
  | 0 => l
  | n + 1 => refPut (p.1, p.2 + n) set (refFill p set l n)
def refMarkE (R : Rf) (p : Int × Int) (n set : Int) : Int :=
  if ¬ mayP R.fr R.se p ∨ 65536 ≤ set then 2 else if n < 0 ∨ 65536 < n ∨ (0 < n ∧ ¬ mayP R.fr R.se (p.1, p.2 + n - 1)) then 4 else keepE R.most R.sets set
def refMark (R : Rf) (p : Int × Int) (n set : Int) : Rf := if refMarkE R p n set = 0 then { R with sets := keepS R.most R.sets set, pairs := refFill p set R.pairs n.toNat } else R

end Go.Proofs.YtfcfkhbkkfpehaaGreat
end

/- XRel -/
section
/- The program's flow and the document's one, as values: what they say alike behind marks and touches. -/
set_option linter.unusedVariables false
set_option linter.unusedSimpArgs false
namespace Go.Proofs.YtfcfkhbkkfpehaaGreat
open Go Go.RowKit Go.X

def lookPr (l : List Pr) (q : Int × Int) : Int := (lookK q l).getD 0

def PutInv (p : Int × Int) (set : Int) (l : List Pr) (s : List Pr × Bool) : Prop :=
  (∀ q, q ≠ p → lookK q s.1 = lookK q l) ∧ (s.2 = true → lookK p s.1 = if set = 0 then none else some set) ∧ (s.2 = false → lookK p s.1 = none ∧ set ≠ 0)

theorem putInv_step {p : Int × Int} {set : Int} {l : List Pr} {s : List Pr × Bool} (h : PutInv p set l s) (x : Pr) : PutInv p set (l ++ [x]) (stepPut p set s x) := by
  obtain ⟨out, put⟩ := s
  obtain ⟨h1, h2, h3⟩ := h
  simp only [] at h1 h2 h3
  have hone : ∀ (q : Int × Int) (y : Pr), lookK q [y] = if y.1 = q then some y.2 else none := fun q y => by rw [lookK_cons, lookK_nil]
  unfold stepPut
  cases put with
  | true =>
    simp only [Bool.not_true, Bool.false_and, Bool.false_eq_true, if_false, Bool.true_eq_false, and_false]
    have h2' := h2 rfl
    by_cases hx : x.1 = p
    · simp only [hx, if_true]
      refine ⟨fun q hq => ?_, fun _ => h2', fun h => by simp at h⟩
      rw [h1 q hq, lookK_append, hone, hx, if_neg (Ne.symm hq), Option.or_none]
    · simp only [hx, if_false]
      refine ⟨fun q hq => ?_, fun _ => ?_, fun h => by simp at h⟩
      · rw [lookK_append, lookK_append, h1 q hq]
      · rw [lookK_append, h2', hone, if_neg hx, Option.or_none]
  | false =>
    obtain ⟨h3', hs⟩ := h3 rfl
    by_cases ha : aheadP p x.1
    · have hx : x.1 ≠ p := fun e => by rw [e] at ha; unfold aheadP at ha; omega
      simp only [Bool.not_false, Bool.true_and, ha, decide_true, if_true, hx, if_false, Bool.true_eq_false, and_false, false_and]
      refine ⟨fun q hq => ?_, fun _ => ?_, fun h => by simp at h⟩
      · rw [lookK_append, lookK_append, lookK_append, hone, hone, h1 q hq]
        simp only [Ne.symm hq, if_false, Option.or_none]
      · rw [lookK_append, lookK_append, h3', hone, hone]
        simp [hs]
    · simp only [Bool.not_false, Bool.true_and, ha, decide_false, Bool.false_eq_true, if_false]
      by_cases hx : x.1 = p
      · simp only [hx, if_true, and_self]
        refine ⟨fun q hq => ?_, fun _ => ?_, fun h => by simp at h⟩
        · rw [lookK_append, lookK_append, hone, hone, h1 q hq, hx]; simp [Ne.symm hq]
        · rw [lookK_append, h3', hone]
          simp [hs]
      · simp only [hx, if_false, false_and]
        refine ⟨fun q hq => ?_, fun h => by simp at h, fun _ => ⟨?_, hs⟩⟩
        · rw [lookK_append, lookK_append, h1 q hq]
        · rw [lookK_append, h3', hone, if_neg hx]; rfl

theorem putInv_fold (p : Int × Int) (set : Int) (l : List Pr) : PutInv p set l (foldPut p set l) := by
  have : ∀ (l l0 : List Pr) (s : List Pr × Bool), PutInv p set l0 s → PutInv p set (l0 ++ l) (l.foldl (stepPut p set) s) := by
    intro l
    induction l with
    | nil => intro l0 s h; simpa using h
    | cons x l ih =>
      intro l0 s h
      have := ih (l0 ++ [x]) _ (putInv_step h x)
      simpa using this
  have := this l [] ([], set == 0) ⟨fun q _ => rfl, fun h => by simp at h; simp [h, lookK_nil], fun h => by simp at h; exact ⟨rfl, h⟩⟩
  simpa [foldPut] using this

theorem look_refPut (p : Int × Int) (set : Int) (l : List Pr) (q : Int × Int) : lookPr (refPut p set l) q = if q = p then set else lookPr l q := by
  obtain ⟨h1, h2, h3⟩ := putInv_fold p set l
  unfold refPut lookPr
  simp only []
  by_cases hs : (foldPut p set l).2 = true
  · rw [if_pos hs]
    by_cases hq : q = p
    · subst hq
      rw [h2 hs, if_pos rfl]
      by_cases h0 : set = 0
      · simp [h0]
      · simp [h0]
    · rw [h1 q hq, if_neg hq]
  · rw [if_neg hs]
    have hs' : (foldPut p set l).2 = false := by simpa using hs
    rw [lookK_append, lookK_cons, lookK_nil]
    by_cases hq : q = p
    · subst hq
      rw [(h3 hs').1]; simp
    · rw [h1 q hq, if_neg (Ne.symm hq), if_neg hq, Option.or_none]

structure RelF (F : Fl) (R : Rf) : Prop where
  fr : R.fr = F.fr
  se : R.se = F.se
  most : R.most = F.most
  sets : R.sets = F.sets
  look : ∀ q, lookPr R.pairs q = F.g q

theorem RelF.new (fr se most : Int) : RelF (flowNew fr se most) ⟨fr, se, most, [0], []⟩ := ⟨rfl, rfl, rfl, rfl, fun _ => rfl⟩
theorem look_refFill (p : Int × Int) (set : Int) (l : List Pr) (g : Int × Int → Int) (hg : ∀ q, lookPr l q = g q) (n : Nat) (q : Int × Int) : lookPr (refFill p set l n) q = fillP g p set n q := by
  induction n generalizing q with
  | zero => exact hg q
  | succ n ih =>
    simp only [refFill, fillP, putP]
    rw [look_refPut, ih]
theorem RelF.markE {F : Fl} {R : Rf} (h : RelF F R) (p : Int × Int) (n set : Int) : refMarkE R p n set = markE F p n set := by
  unfold refMarkE Proofs.YtfcfkhbkkfpehaaGreat.markE
  rw [h.fr, h.se, h.most, h.sets]
theorem RelF.mark {F : Fl} {R : Rf} (h : RelF F R) (p : Int × Int) (n set : Int) : RelF (markF F p n set) (refMark R p n set) := by
  unfold markF refMark
  rw [h.markE]
  by_cases he : Proofs.YtfcfkhbkkfpehaaGreat.markE F p n set = 0
  · rw [if_pos he, if_pos he]
    refine ⟨h.fr, h.se, h.most, ?_, fun q => ?_⟩
    · simp only [h.most, h.sets]
    · exact look_refFill p set R.pairs F.g h.look _ q
  · rw [if_neg he, if_neg he]; exact h

/-! ### Touches applied -/
def keepStep (most : Int) (g : Int × Int → Int) (s : List Int × List Pr × Int) (t : Tch) : List Int × List Pr × Int :=
  if s.2.2 ≠ 0 ∨ t.1 = (0, 0) then s else
    if keepE most s.1 (joinP g t.2) ≠ 0 then (s.1, s.2.1, keepE most s.1 (joinP g t.2)) else (keepS most s.1 (joinP g t.2), upd t.1 (joinP g t.2) s.2.1, 0)
def keepAll (most : Int) (g : Int × Int → Int) (ts : List Tch) (sets : List Int) : List Int × List Pr × Int := ts.foldl (keepStep most g) (sets, [], 0)
theorem keepAll_snoc (most : Int) (g : Int × Int → Int) (ts : List Tch) (sets : List Int) (t : Tch) : keepAll most g (ts ++ [t]) sets = keepStep most g (keepAll most g ts sets) t := by simp [keepAll]
theorem keepAll_bad {most : Int} {g : Int × Int → Int} {ts us : List Tch} {sets : List Int} (h : (keepAll most g ts sets).2.2 ≠ 0) : keepAll most g (ts ++ us) sets = keepAll most g ts sets := by
  have : ∀ (us : List Tch) (s : List Int × List Pr × Int), s.2.2 ≠ 0 → us.foldl (keepStep most g) s = s := by
    intro us
    induction us with
    | nil => intro s _; rfl
    | cons u us ih =>
      intro s hs
      have e : keepStep most g s u = s := by unfold keepStep; rw [if_pos (.inl hs)]
      rw [List.foldl_cons, e]; exact ih s hs
  unfold keepAll at h ⊢
  rw [List.foldl_append]; exact this us _ h
def rightAll (fr se : Int) (ts : List Tch) : Prop := ∀ t ∈ ts, rightT fr se t
instance (fr se : Int) (ts : List Tch) : Decidable (rightAll fr se ts) := by unfold rightAll; exact inferInstance
def applyE (F : Fl) (ts : List Tch) : Int := if rightAll F.fr F.se ts then (keepAll F.most F.g ts F.sets).2.2 else 2
def overP (g : Int × Int → Int) (now : List Pr) : Int × Int → Int := fun q => (lookK q now).getD (g q)
def applyF (F : Fl) (ts : List Tch) : Fl :=
  if rightAll F.fr F.se ts then { F with sets := (keepAll F.most F.g ts F.sets).1, g := if (keepAll F.most F.g ts F.sets).2.2 = 0 then overP F.g (keepAll F.most F.g ts F.sets).2.1 else F.g } else F
theorem overP_nil (g : Int × Int → Int) : overP g [] = g := by funext q; simp [overP, lookK_nil]
theorem overP_upd (g : Int × Int → Int) (now : List Pr) (p : Int × Int) (set : Int) : overP g (upd p set now) = putP (overP g now) p set := by
  funext q
  unfold overP putP
  rw [lookK_upd]
  by_cases h : q = p <;> simp [h]

def putStep (g : Int × Int → Int) (l : List Pr) (t : Tch) : List Pr := if t.1 = (0, 0) then l else refPut t.1 (joinP g t.2) l
def putAll (g : Int × Int → Int) (ts : List Tch) (l : List Pr) : List Pr := ts.foldl (putStep g) l
def refApplyE (R : Rf) (ts : List Tch) : Int := if rightAll R.fr R.se ts then (keepAll R.most (lookPr R.pairs) ts R.sets).2.2 else 2
def refApply (R : Rf) (ts : List Tch) : Rf :=
  if rightAll R.fr R.se ts then { R with sets := (keepAll R.most (lookPr R.pairs) ts R.sets).1, pairs := if (keepAll R.most (lookPr R.pairs) ts R.sets).2.2 = 0 then putAll (lookPr R.pairs) ts R.pairs else R.pairs } else R

theorem look_putAll (most : Int) (g : Int × Int → Int) (ts : List Tch) (sets : List Int) (l : List Pr) (hl : ∀ q, lookPr l q = g q) (h0 : (keepAll most g ts sets).2.2 = 0) (q : Int × Int) :
    lookPr (putAll g ts l) q = overP g (keepAll most g ts sets).2.1 q := by
  have : ∀ (ts us : List Tch) (l : List Pr), (keepAll most g (us ++ ts) sets).2.2 = 0 → (∀ q, lookPr l q = overP g (keepAll most g us sets).2.1 q) →
      ∀ q, lookPr (ts.foldl (putStep g) l) q = overP g (keepAll most g (us ++ ts) sets).2.1 q := by
    intro ts
    induction ts with
    | nil => intro us l h0 hl q; simpa using hl q
    | cons t ts ih =>
      intro us l h0 hl q
      have e : us ++ t :: ts = (us ++ [t]) ++ ts := by simp
      rw [e] at h0 ⊢
      have h1 : (keepAll most g (us ++ [t]) sets).2.2 = 0 := by
        by_cases hb : (keepAll most g (us ++ [t]) sets).2.2 = 0
        · exact hb
        · exfalso; rw [keepAll_bad hb] at h0; exact hb h0
      have h2 : (keepAll most g us sets).2.2 = 0 := by
        by_cases hb : (keepAll most g us sets).2.2 = 0
        · exact hb
        · exfalso; rw [keepAll_bad hb] at h1; exact hb h1
      rw [List.foldl_cons]
      refine ih (us ++ [t]) _ h0 (fun q => ?_) q
      rw [keepAll_snoc]
      rw [keepAll_snoc] at h1
      unfold keepStep at h1 ⊢
      unfold putStep
      by_cases ht : t.1 = (0, 0)
      · rw [if_pos ht, if_pos (.inr ht)]; exact hl q
      · have hn : ¬ ((keepAll most g us sets).2.2 ≠ 0 ∨ t.1 = (0, 0)) := by rintro (h | h); exact h h2; exact ht h
        rw [if_neg hn] at h1 ⊢
        rw [if_neg ht]
        by_cases hk : keepE most (keepAll most g us sets).1 (joinP g t.2) ≠ 0
        · rw [if_pos hk] at h1; exact absurd h1 hk
        · rw [if_neg hk]
          simp only []
          rw [overP_upd, look_refPut]
          unfold putP
          rw [hl q]
  exact this ts [] l h0 (fun q => by rw [show (keepAll most g [] sets).2.1 = [] from rfl, overP_nil]; exact hl q) q

theorem RelF.g {F : Fl} {R : Rf} (h : RelF F R) : lookPr R.pairs = F.g := funext h.look
theorem RelF.applyE {F : Fl} {R : Rf} (h : RelF F R) (ts : List Tch) : refApplyE R ts = applyE F ts := by
  unfold refApplyE Proofs.YtfcfkhbkkfpehaaGreat.applyE
  rw [h.fr, h.se, h.most, h.sets, h.g]
theorem RelF.apply {F : Fl} {R : Rf} (h : RelF F R) (ts : List Tch) : RelF (applyF F ts) (refApply R ts) := by
  unfold applyF refApply
  rw [h.fr, h.se, h.most, h.sets, h.g]
  by_cases hr : rightAll F.fr F.se ts
  · rw [if_pos hr, if_pos hr]
    refine ⟨rfl, rfl, rfl, rfl, fun q => ?_⟩
    simp only []
    by_cases h0 : (keepAll F.most F.g ts F.sets).2.2 = 0
    · rw [if_pos h0, if_pos h0]
      exact look_putAll F.most F.g ts F.sets R.pairs h.look h0 q
    · rw [if_neg h0, if_neg h0]; exact h.look q
  · rw [if_neg hr, if_neg hr]; exact h

end Go.Proofs.YtfcfkhbkkfpehaaGreat
end

/- XOpen -/
section
/- Arguments that came in, opened: slices of structs as lists. -/
set_option linter.unusedVariables false
set_option linter.unusedSimpArgs false
set_option linter.unusedSectionVars false
namespace Go.X
open Go Go.RowKit Go.ChangeShapes Go.WideShapes

theorem list_of {α : Type} {n : Nat} {Q : Nat → α → Prop} (h : ∀ i, i < n → ∃ x, Q i x) : ∃ l : List α, l.length = n ∧ ∀ (i : Nat) (x : α), l[i]? = some x → Q i x := by
  induction n with
  | zero => exact ⟨[], rfl, by simp⟩
  | succ n ih =>
    obtain ⟨l, hl, hq⟩ := ih (fun i hi => h i (by omega))
    obtain ⟨x, hx⟩ := h n (by omega)
    refine ⟨l ++ [x], by simp [hl], fun i y hy => ?_⟩
    by_cases hi : i < l.length
    · rw [List.getElem?_append_left hi] at hy; exact hq i y hy
    · rw [List.getElem?_append_right (by omega)] at hy
      have hi' : i - l.length = 0 := by
        have := (List.getElem?_eq_some_iff.1 hy).1
        simp at this; omega
      rw [hi'] at hy; simp at hy; subst hy
      have : i = n := by omega
      rw [this]; exact hx

section
variable {H : Type} {enc : TypeId × Value → H} {P : Program} {w : World} {base : Nat} {spare : Nat → Bool} {held : Bool}
theorem cellsAt_cells? {a : Addr} {n : Nat} {cs : List Value} (h : w.cells? base a n = some cs) : CellsAt w a 0 cs ∧ cs.length = n := by
  obtain ⟨_, h2, h3⟩ := World.cells?_some h
  refine ⟨?_, h2⟩
  have : ∀ (l : List Value) (i : Nat), (∀ k v, l[k]? = some v → w.cell? (a.add (i + k)) = some v) → CellsAt w a i l := by
    intro l
    induction l with
    | nil => intro i _; trivial
    | cons v l ih => intro i h; exact ⟨by simpa using h 0 v rfl, ih (i + 1) (fun k u hu => by rw [show i + 1 + k = i + (k + 1) by omega]; exact h (k + 1) u (by simpa using hu))⟩
  refine this cs 0 fun k v hk => ?_
  have hlt : k < n := by rw [← h2]; exact (List.getElem?_eq_some_iff.1 hk).1
  rw [Nat.zero_add, h3 k hlt, hk]
/-- A slice that came in. -/
theorem open_slice {t e : TypeId} {fuel : Nat} {cs : List Value} {x : DataW H × List MemPlace} (ht : P.underlying t = some (.slice e)) (h : DataW.trod enc P w base spare held fuel t cs = some x) :
    ∃ (p : Option Addr) (len cap : Nat), cs = [.slice p len cap] ∧ len ≤ maxLen ∧ ∀ i, i < len → ∃ (a : Addr) (cs' : List Value) (n : Nat) (y : DataW H × List MemPlace), p = some a ∧ CellsAt w (a.add (i * P.cellsOf e)) 0 cs' ∧ cs'.length = P.cellsOf e ∧ DataW.trod enc P w base spare held n e cs' = some y := by
  rcases DataW.trod_slice ht h with ⟨h0, _⟩ | ⟨a, len, cap, elems, rest, n, _, rfl, rfl, hb, hl, hm, hlen, hel, _, _⟩
  · exact ⟨none, 0, 0, h0, by simp [maxLen], fun i hi => absurd hi (by omega)⟩
  · refine ⟨some a, len, cap, rfl, by omega, fun i hi => ?_⟩
    have h1 := hel i hi
    rw [List.getElem?_eq_getElem (by omega)] at h1
    obtain ⟨cs', hcs, hy⟩ := Option.bind_eq_some_iff.1 h1
    obtain ⟨k1, k2⟩ := cellsAt_cells? hcs
    exact ⟨a, cs', n, _, rfl, k1, k2, hy⟩
theorem wf_i64 {n : Int} (h : (Lit.int .i64 n).wf = true) : -9223372036854775808 ≤ n ∧ n ≤ 9223372036854775807 := by
  simp [Lit.wf, IntKind.min, IntKind.max, IntKind.bits, IntKind.signed] at h
  omega
theorem wf_u32 {n : Int} (h : (Lit.int .u32 n).wf = true) : 0 ≤ n ∧ n < 4294967296 := by
  simp [Lit.wf, IntKind.min, IntKind.max, IntKind.bits, IntKind.signed] at h
  omega
/-- All arguments read as they did. -/
theorem all_below (hl : laidOutB P = true) {W W' : World} (hb : Below W.heap.size W W') : ∀ (ts : List TypeId) (vs : List Value) (ds : List (DataW H)) (ps : List MemPlace), (∀ t ∈ ts, P.readableRec t = true ∧ t < P.types.size) →
    DataW.TrodAll enc P W 0 (fun _ => true) true ts vs ds ps → (∀ x ∈ ps, x.block < W.heap.size) → DataW.TrodAll enc P W' 0 (fun b => decide (b < W.heap.size)) true ts vs ds ps
  | [], [], [], ps, _, h, _ => h
  | t :: ts, v :: vs, d :: ds, ps, ht, h, hlt => by
    obtain ⟨p, q, h1, h2, rfl⟩ := h
    exact ⟨p, q, Below.trod hl (ht t (.head _)).1 (ht t (.head _)).2 h1 hb (fun x hx => hlt x (List.mem_append.2 (.inl hx))), all_below hl hb ts vs ds q (fun t h => ht t (.tail _ h)) h2 (fun x hx => hlt x (List.mem_append.2 (.inr hx))), rfl⟩
  | [], [], _ :: _, _, _, h, _ => h.elim
  | [], _ :: _, _, _, _, h, _ => h.elim
  | _ :: _, [], _, _, _, h, _ => h.elim
  | _ :: _, _ :: _, [], _, _, h, _ => h.elim
end
end Go.X
end

/- XOpen2 -/
section
/- Arguments that came in, opened: places, touches, marks. -/
set_option linter.unusedVariables false
set_option linter.unusedSimpArgs false
namespace Go.Proofs.YtfcfkhbkkfpehaaGreat
open Go Go.RowKit Go.X

theorem len1 {α : Type} {l : List α} (h : l.length = 1) : ∃ a, l = [a] := by
  cases l with
  | nil => simp at h
  | cons a l => exact ⟨a, by rw [List.eq_nil_of_length_eq_zero (l := l) (by simpa using h)]⟩
theorem len2 {α : Type} {l : List α} (h : l.length = 2) : ∃ a b, l = [a, b] := by
  cases l with
  | nil => simp at h
  | cons a l => obtain ⟨b, rfl⟩ := len1 (l := l) (by simpa using h); exact ⟨a, b, rfl⟩
theorem len3 {α : Type} {l : List α} (h : l.length = 3) : ∃ a b c, l = [a, b, c] := by
  cases l with
  | nil => simp at h
  | cons a l => obtain ⟨b, c, rfl⟩ := len2 (l := l) (by simpa using h); exact ⟨a, b, c, rfl⟩
section
variable {H : Type} {enc : TypeId × Value → H} {w : World} {base : Nat} {spare : Nat → Bool} {held : Bool} {fuel : Nat} {x : DataW H × List MemPlace} {cs : List Value}
theorem cells56 : Tryz.prog.cellsOf 62 = 2 := by kernel_rfl
theorem cells81 : Tryz.prog.cellsOf 65 = 3 := by kernel_rfl
theorem cells3 : Tryz.prog.cellsOf 3 = 1 := by kernel_rfl
theorem cells54 : Tryz.prog.cellsOf 60 = 1 := by kernel_rfl
theorem cells22 : Tryz.prog.cellsOf 22 = 1 := by kernel_rfl
theorem cells47 : Tryz.prog.cellsOf 63 = 1 := by kernel_rfl
theorem un54 : Tryz.prog.underlying 60 = some (.int .i64) := by kernel_rfl
theorem un3 : Tryz.prog.underlying 3 = some (.int .i64) := by kernel_rfl
theorem un22 : Tryz.prog.underlying 22 = some (.int .u32) := by kernel_rfl

theorem open_place (h : DataW.trod enc Tryz.prog w base spare held fuel 62 cs = some x) : ∃ p : Int × Int, cs = [.int .i64 p.1, .int .i64 p.2] ∧ i64s p.1 ∧ i64s p.2 := by
  obtain ⟨xs, n, _, _, hl, hlen, hf⟩ := DataW.trod_struct Tryz.underlying62 h
  have h0 : DataW.trod enc Tryz.prog w base spare held n 60 ((cs.drop 0).take (Tryz.prog.cellsOf 60)) = xs[0]? := hf 0 _ rfl
  have h1 : DataW.trod enc Tryz.prog w base spare held n 3 ((cs.drop 1).take (Tryz.prog.cellsOf 3)) = xs[1]? := hf 1 _ rfl
  simp only [cells54, cells3] at h0 h1
  rw [cells56] at hl
  rw [List.getElem?_eq_getElem (by rw [hlen]; decide)] at h0 h1
  obtain ⟨a, e0, _, w0⟩ := DataW.trod_int un54 h0
  obtain ⟨b, e1, _, w1⟩ := DataW.trod_int un3 h1
  obtain ⟨c0, c1, rfl⟩ := len2 hl
  simp at e0 e1
  subst e0 e1
  exact ⟨(a, b), rfl, wf_i64 w0, wf_i64 w1⟩

/-- What lies in the heap's old part. -/
def oldS (w : World) (i : Nat) : Prop := i < w.heap.size

theorem cellsAt_lt {a : Addr} {i : Nat} {c : Value} {cs : List Value} (h : CellsAt w a i (c :: cs)) : a.block < w.heap.size := by
  have := World.block_lt_of_cell? w _ h.1
  rwa [add_block] at this

theorem open_places (h : DataW.trod enc Tryz.prog w base spare held fuel 63 cs = some x) : ∃ p n c ps, cs = [.slice p n c] ∧ n ≤ maxLen ∧ PlacesAt w (oldS w) p n ps := by
  obtain ⟨p, n, c, rfl, hn, hel⟩ := open_slice Tryz.underlying63 h
  obtain ⟨l, hl, hq⟩ := list_of (Q := fun j (x : Int × Int) => i64s x.1 ∧ i64s x.2 ∧ ∃ a, p = some a ∧ oldS w a.block ∧ CellsAt w (a.add (j * 2)) 0 [.int .i64 x.1, .int .i64 x.2]) (n := n) (fun i hi => by
    obtain ⟨a, cs', m, y, ha, hc, _, hy⟩ := hel i hi
    obtain ⟨q, rfl, k1, k2⟩ := open_place hy
    rw [cells56] at hc
    exact ⟨q, k1, k2, a, ha, by have := cellsAt_lt hc; rwa [add_block] at this, hc⟩)
  exact ⟨p, n, c, l, rfl, hn, hl, hq⟩

theorem open_touch (h : DataW.trod enc Tryz.prog w base spare held fuel 65 cs = some x) : ∃ (t : Tch) (q : Option Addr) (qn qc : Nat), cs = [.int .i64 t.1.1, .int .i64 t.1.2, .slice q qn qc] ∧ i64s t.1.1 ∧ i64s t.1.2 ∧ qn ≤ maxLen ∧ PlacesAt w (oldS w) q qn t.2 := by
  obtain ⟨xs, n, _, _, hl, hlen, hf⟩ := DataW.trod_struct Tryz.underlying65 h
  have h0 : DataW.trod enc Tryz.prog w base spare held n 62 ((cs.drop 0).take (Tryz.prog.cellsOf 62)) = xs[0]? := hf 0 _ rfl
  have h1 : DataW.trod enc Tryz.prog w base spare held n 63 ((cs.drop 2).take (Tryz.prog.cellsOf 63)) = xs[1]? := hf 1 _ rfl
  simp only [cells56, cells47] at h0 h1
  rw [cells81] at hl
  rw [List.getElem?_eq_getElem (by rw [hlen]; decide)] at h0 h1
  obtain ⟨p, e0, k1, k2⟩ := open_place h0
  obtain ⟨q, qn, qc, ps, e1, hq, hps⟩ := open_places h1
  obtain ⟨c0, c1, c2, rfl⟩ := len3 hl
  simp at e0 e1
  obtain ⟨rfl, rfl⟩ := e0
  subst e1
  exact ⟨(p, ps), q, qn, qc, rfl, k1, k2, hq, hps⟩

theorem open_touches (h : DataW.trod enc Tryz.prog w base spare held fuel 27 cs = some x) : ∃ p n c ts, cs = [.slice p n c] ∧ n ≤ maxLen ∧ TouchesAt w (oldS w) p n ts ∧ ∀ t ∈ ts, t.2.length ≤ maxLen := by
  obtain ⟨p, n, c, rfl, hn, hel⟩ := open_slice Tryz.underlying27 h
  obtain ⟨l, hl, hq⟩ := list_of (Q := fun j (t : Tch) => (i64s t.1.1 ∧ i64s t.1.2 ∧ ∃ a q qn qc, p = some a ∧ oldS w a.block ∧ CellsAt w (a.add (j * 3)) 0 [.int .i64 t.1.1, .int .i64 t.1.2, .slice q qn qc] ∧ PlacesAt w (oldS w) q qn t.2) ∧ t.2.length ≤ maxLen) (n := n) (fun i hi => by
    obtain ⟨a, cs', m, y, ha, hc, _, hy⟩ := hel i hi
    obtain ⟨t, q, qn, qc, rfl, k1, k2, k3, k4⟩ := open_touch hy
    rw [cells81] at hc
    exact ⟨t, ⟨k1, k2, a, q, qn, qc, ha, by have := cellsAt_lt hc; rwa [add_block] at this, hc, k4⟩, by rw [k4.length]; exact k3⟩)
  refine ⟨p, n, c, l, rfl, hn, ⟨hl, fun j t ht => (hq j t ht).1⟩, fun t ht => ?_⟩
  obtain ⟨j, hj⟩ := List.getElem?_of_mem ht
  exact (hq j t hj).2

/-- Places with sets. -/
structure MarksAt (w : World) (S : Nat → Prop) (p : Option Addr) (n : Nat) (ms : List Pr) : Prop where
  length : ms.length = n
  each : ∀ (j : Nat) (x : Pr), ms[j]? = some x → i64s x.1.2 ∧ 0 ≤ x.2 ∧ x.2 < 4294967296 ∧ ∃ a, p = some a ∧ S a.block ∧ CellsAt w (a.add (j * 3)) 0 [.int .i64 x.1.1, .int .i64 x.1.2, .int .u32 x.2]
theorem MarksAt.chg {w w' : World} {S : Nat → Prop} {p : Option Addr} {n : Nat} {ps : List Pr} {f : List Nat} (h : MarksAt w S p n ps) (hc : Chg f w w') (hf : ∀ i ∈ f, ¬ S i) : MarksAt w' S p n ps :=
  ⟨h.length, fun j x hx => let ⟨h1, h2, h3, a, h4, h5, h6⟩ := h.each j x hx; ⟨h1, h2, h3, a, h4, h5, hc.cells (by rw [add_block]; exact fun hm => hf _ hm h5) h6⟩⟩
end
end Go.Proofs.YtfcfkhbkkfpehaaGreat
end

/- XPol1 -/
section
/- Policies: New, none, Strict, Stops; the laws' helpers known, broad, made. -/
set_option linter.unusedVariables false
set_option linter.unusedSimpArgs false
namespace Go.Proofs.YtfcfkhbkkfpehaaGreat
open Go Go.RowKit Go.X

def u16 (n : Int) : Prop := 0 ≤ n ∧ n < 65536
theorem or_u16 {a b : Int} (ha : u16 a) (hb : u16 b) : u16 (bits .or .u32 a b) := by
  obtain ⟨a1, a2⟩ := ha
  obtain ⟨b1, b2⟩ := hb
  rw [u32_or a b a1 (by omega) b1 (by omega)]
  have : a.toNat ||| b.toNat < 2 ^ 16 := Nat.or_lt_two_pow (by omega) (by omega)
  exact ⟨by omega, by omega⟩
theorem joinP_u16 {g : Int × Int → Int} (hg : ∀ p, u16 (g p)) (ps : List (Int × Int)) : u16 (joinP g ps) := by
  unfold joinP
  have : ∀ (ps : List (Int × Int)) (s : Int), u16 s → u16 (ps.foldl (fun s p => bits .or .u32 s (g p)) s) := by
    intro ps
    induction ps with
    | nil => intro s h; exact h
    | cons p ps ih => intro s h; exact ih _ (or_u16 h (hg p))
  exact this ps 0 ⟨by omega, by omega⟩
/-- A policy: eleven sets. -/
structure PolAt (w : World) (b : Nat) (r : List Int) : Prop where
  heap : w.heap[b]? = some (.cells (r.map (Value.int .u32) ++ [Value.bool true]).toArray 109 (0, 0))
  length : r.length = 11
theorem PolAt.chg {w w' : World} {b : Nat} {r : List Int} {f : List Nat} (h : PolAt w b r) (hc : Chg f w w') (hf : b ∉ f) : PolAt w' b r := ⟨hc.obj hf h.heap, h.length⟩
theorem PolAt.lt {w : World} {b : Nat} {r : List Int} (h : PolAt w b r) : b < w.heap.size := lt_of_heap h.heap
theorem PolAt.at {w : World} {b : Nat} {r : List Int} (h : PolAt w b r) {i : Nat} {x : Int} (hx : r[i]? = some x) : w.cell? ⟨b, i, none⟩ = some (.int .u32 x) := by
  have hi : i < r.length := (List.getElem?_eq_some_iff.1 hx).1
  rw [cell_of h.heap]
  simp only [List.getElem?_toArray]
  rw [List.getElem?_append_left (by simpa using hi), List.getElem?_map, hx]; rfl
theorem PolAt.made {w : World} {b : Nat} {r : List Int} (h : PolAt w b r) : w.cell? ⟨b, 11, none⟩ = some (.bool true) := by
  rw [cell_of h.heap]
  simp only [List.getElem?_toArray]
  rw [List.getElem?_append_right (by simp [h.length])]; simp [h.length]

/-- Touches of this call's own: one touch, one place. -/
theorem touches_one {w : World} {b1 b2 : Nat} {p : Int × Int} {to : Int × Int} (h1 : w.heap[b1]? = some (.cells #[.int .i64 p.1, .int .i64 p.2] 62 (0, 0))) (h2 : w.heap[b2]? = some (.cells #[.int .i64 to.1, .int .i64 to.2, .slice (some (⟨b1, 0, none⟩ : Addr)) 1 1] 65 (0, 0)))
    (hp : i64s p.1 ∧ i64s p.2) (ht : i64s to.1 ∧ i64s to.2) : TouchesAt w (fun i => i = b1 ∨ i = b2) (some ⟨b2, 0, none⟩) 1 [(to, [p])] := by
  refine ⟨rfl, fun j t hj => ?_⟩
  cases j with
  | zero =>
    simp at hj; subst hj
    refine ⟨ht.1, ht.2, _, _, _, _, rfl, .inr rfl, by rw [Nat.zero_mul, add_at]; exact cellsAt_of h2, rfl, fun i x hi => ?_⟩
    cases i with
    | zero =>
      simp at hi; subst hi
      exact ⟨hp.1, hp.2, _, rfl, .inl rfl, by rw [Nat.zero_mul, add_at]; exact cellsAt_of h1⟩
    | succ i => simp at hi
  | succ j => simp at hj

end Go.Proofs.YtfcfkhbkkfpehaaGreat
end

/- XG1 -/
section
set_option linter.unusedVariables false
set_option linter.unusedSimpArgs false
namespace Go.Proofs.YtfcfkhbkkfpehaaGreat
open Go Go.X

/- pomander/pomanderlaw12.vast -/
def W_pomanderlaw12_vast (l1 : Option Addr) (l1n : Nat) (l1c : Nat) (w : World) (R : Bool → World → Prop) : Prop :=
  ((decide ((l1n : Int) > 30)) = true → R true w) ∧ ((decide ((l1n : Int) > 30)) = false → ∃ (I1 : Bool → Int → World → Prop) (m1 : Bool → Int → World → Nat), I1 false 0 w ∧ ∀ (x1 : Bool) (i1 : Int) (w1 : World), I1 x1 i1 w1 → ((decide (i1 < (l1n : Int))) = true → ∃ a1 : Addr, l1 = some a1 ∧ (0 : Int) ≤ i1 ∧ i1 < (l1n : Int) ∧ (∃ (t1 : Int), w1.cell? ((a1.add (Int.toNat i1 * 6)).add 1) = some (.int .i64 t1) ∧ (∃ J1 : Bool → World → Prop, (∀ (b1 : Bool) (w2 : World), J1 b1 w2 → ∃ J2 : Bool → World → Prop, (∀ (b2 : Bool) (w3 : World), J2 b2 w3 → (b2 = true → R true w3) ∧ (b2 = false → (I1 x1 (IntKind.wrap .i64 (i1 + 1)) w3 ∧ m1 x1 (IntKind.wrap .i64 (i1 + 1)) w3 < m1 x1 i1 w1))) ∧ ((b1 = false → ∃ (t2 : Option Addr) (t2n : Nat) (t2c : Nat), w2.cell? ((a1.add (Int.toNat i1 * 6)).add 5) = some (.slice t2 t2n t2c) ∧ (Calls Tryz.prog 56 #[.slice t2 t2n t2c] w2 fun e w4 => ∃ (r2 : Bool), e = .returned (.bool r2) ∧ (J2 r2 w4))) ∧ (b1 = true → J2 true w2))) ∧ (((decide (t1 > 200)) = true → J1 (decide (t1 ≤ 65536)) w1) ∧ ((decide (t1 > 200)) = false → J1 false w1))))) ∧ ((decide (i1 < (l1n : Int))) = false → R false w1))
set_option maxRecDepth 100000 in
theorem go_pomanderlaw12_vast (l1 : Option Addr) (l1n : Nat) (l1c : Nat) (w : World) (R : Bool → World → Prop) (h : W_pomanderlaw12_vast l1 l1n l1c w R) : Calls Tryz.prog 24 #[.slice l1 l1n l1c] w (fun e w' => ∃ (r1 : Bool), e = .returned (.bool r1) ∧ R r1 w') := by
  unfold W_pomanderlaw12_vast at h
  refine enter (N := 35) Tryz.func24 rfl rfl ?_
  refine CW.seq ?_
  refine CW.region fun L hL => ?_
  refine LW.rd hL rfl (Wants.free rfl) rfl (Rd.assign (v := .bool false) rfl) ?_
  refine LW.nil hL rfl ?_
  refine NW.then ?_
  refine CW.seq ?_
  refine CW.seq ?_
  refine CW.region fun L hL => ?_
  refine LW.rd hL rfl (Wants.free rfl) rfl (Rd.move (v := .slice l1 l1n l1c) rfl) ?_
  refine LW.rd hL rfl (Wants.free rfl) rfl (Rd.builtin (v := .int .i64 (l1n : Int)) rfl (fun _ _ => by kernel_rfl)) ?_
  refine LW.rd hL rfl (Wants.free rfl) rfl (Rd.bin (v := .bool (decide ((l1n : Int) > 30))) rfl rfl (fun w => by kernel_rfl)) ?_
  refine LW.nil hL rfl ?_
  refine NW.then ?_
  refine CW.cond rfl (fun hb1 => ?_) (fun hb1 => ?_)
  · replace h := h.1 hb1
    refine CW.seq ?_
    refine CW.region fun L hL => ?_
    refine LW.rd hL rfl (Wants.free rfl) rfl (Rd.assign (v := .bool true) rfl) ?_
    refine LW.nil hL rfl ?_
    refine NW.then ?_
    refine CW.ret ?_
    refine RW.then ?_
    exact res1 rfl rfl ⟨true, rfl, h⟩
  · replace h := h.2 hb1
    refine CW.skip ?_
    refine NW.then ?_
    refine CW.seq ?_
    refine CW.seq ?_
    refine CW.region fun L hL => ?_
    refine LW.rd hL rfl (Wants.free rfl) rfl (Rd.assign (v := .int .i64 0) rfl) ?_
    refine LW.nil hL rfl ?_
    refine NW.then ?_
    refine CW.block ?_
    obtain ⟨I1, m1, hI1, h⟩ := h
    refine CW.loop (S := Bool × Int) (fun s1 => [(0, .slice l1 l1n l1c), (2, .bool s1.1), (3, .int .i64 s1.2)]) (fun s1 w1 => I1 s1.1 s1.2 w1) (fun s1 w1 => m1 s1.1 s1.2 w1) (false, 0) (by exact ⟨rfl, rfl, rfl, trivial⟩) hI1 (fun s1 w1 hI1 => ?_)
    obtain ⟨x1, i1⟩ := s1; replace h := h x1 i1 w1 hI1
    refine CW.seq ?_
    refine CW.seq ?_
    refine CW.region fun L hL => ?_
    refine LW.rd hL rfl (Wants.free rfl) rfl (Rd.move (v := .int .i64 i1) rfl) ?_
    refine LW.rd hL rfl (Wants.free rfl) rfl (Rd.move (v := .slice l1 l1n l1c) rfl) ?_
    refine LW.rd hL rfl (Wants.free rfl) rfl (Rd.builtin (v := .int .i64 (l1n : Int)) rfl (fun _ _ => by kernel_rfl)) ?_
    refine LW.rd hL rfl (Wants.free rfl) rfl (Rd.bin (v := .bool (decide (i1 < (l1n : Int)))) rfl rfl (fun w => by kernel_rfl)) ?_
    refine LW.nil hL rfl ?_
    refine NW.then ?_
    refine CW.cond rfl (fun hb2 => ?_) (fun hb2 => ?_)
    · replace h := h.1 hb2
      refine CW.skip ?_
      refine NW.then ?_
      refine CW.seq ?_
      refine CW.block ?_
      refine CW.seq ?_
      refine CW.region fun L hL => ?_
      refine LW.rd hL rfl (Wants.free rfl) rfl (Rd.move (v := .slice l1 l1n l1c) rfl) ?_
      refine LW.rd hL rfl (Wants.free rfl) rfl (Rd.move (v := .int .i64 i1) rfl) ?_
      obtain ⟨a1, he1, hi1, hi2, h⟩ := h
      refine LW.rd hL rfl (Wants.free rfl) rfl (Rd.iaS (q := a1) (sz := 6) (by rw [← he1]; rfl) rfl Tryz.underlying69 (by kernel_rfl) hi1 hi2) ?_
      refine LW.rd hL rfl (Wants.free rfl) rfl (Rd.fa (v := .pointer (some ((a1.add (Int.toNat i1 * 6)).add 1))) rfl (fun _ => by kernel_rfl)) ?_
      obtain ⟨t1, hc1, h⟩ := h
      refine LW.rd hL rfl (Wants.free rfl) rfl (Rd.ld (v := .int .i64 t1) rfl (by kernel_rfl) (eqs hc1)) ?_
      refine LW.rd hL rfl (Wants.free rfl) rfl (Rd.bin (v := .bool (decide (t1 > 200))) rfl rfl (fun w => by kernel_rfl)) ?_
      refine LW.rd hL rfl (Wants.free rfl) rfl (Rd.move (v := .bool (decide (t1 > 200))) rfl) ?_
      obtain ⟨J1, hJ1, h1_J1, h0_J1⟩ := h
      suffices K1 : ∀ (b1 : Bool) (w2 : World), J1 b1 w2 → L 14 [(0, .slice l1 l1n l1c), (2, .bool x1), (3, .int .i64 i1), (26, .bool b1)] w2 by
        rcases Bool.eq_false_or_eq_true (decide (t1 > 200)) with hb3 | hb3
        · have h := h1_J1 hb3
          refine LW.rd hL rfl (Wants.on rfl rfl rfl rfl rfl hb3) rfl (Rd.move (v := .slice l1 l1n l1c) rfl) ?_
          refine LW.rd hL rfl (Wants.on rfl rfl rfl rfl rfl hb3) rfl (Rd.move (v := .int .i64 i1) rfl) ?_
          refine LW.rd hL rfl (Wants.on rfl rfl rfl rfl rfl hb3) rfl (Rd.iaS (q := a1) (sz := 6) (by rw [← he1]; rfl) rfl Tryz.underlying69 (by kernel_rfl) hi1 hi2) ?_
          refine LW.rd hL rfl (Wants.on rfl rfl rfl rfl rfl hb3) rfl (Rd.fa (v := .pointer (some ((a1.add (Int.toNat i1 * 6)).add 1))) rfl (fun _ => by kernel_rfl)) ?_
          refine LW.rd hL rfl (Wants.on rfl rfl rfl rfl rfl hb3) rfl (Rd.ld (v := .int .i64 t1) rfl (by kernel_rfl) (eqs hc1)) ?_
          refine LW.rd hL rfl (Wants.on rfl rfl rfl rfl rfl hb3) rfl (Rd.bin (v := .bool (decide (t1 ≤ 65536))) rfl rfl (fun w => by kernel_rfl)) ?_
          refine LW.rd hL rfl (Wants.free rfl) rfl (Rd.pickT rfl hb3 rfl) ?_
          exact LW.sub hL (by exact ⟨rfl, rfl, rfl, rfl, trivial⟩) (K1 (decide (t1 ≤ 65536)) w1 h)
        · have h := h0_J1 hb3
          refine LW.skip hL rfl (Skips.on rfl rfl rfl rfl rfl hb3) rfl ?_
          refine LW.skip hL rfl (Skips.on rfl rfl rfl rfl rfl hb3) rfl ?_
          refine LW.skip hL rfl (Skips.on rfl rfl rfl rfl rfl hb3) rfl ?_
          refine LW.skip hL rfl (Skips.on rfl rfl rfl rfl rfl hb3) rfl ?_
          refine LW.skip hL rfl (Skips.on rfl rfl rfl rfl rfl hb3) rfl ?_
          refine LW.skip hL rfl (Skips.on rfl rfl rfl rfl rfl hb3) rfl ?_
          refine LW.rd hL rfl (Wants.free rfl) rfl (Rd.pickF rfl hb3 rfl) ?_
          exact LW.sub hL (by exact ⟨rfl, rfl, rfl, rfl, trivial⟩) (K1 false w1 h)
      intro b1 w2 h_
      have h := hJ1 b1 w2 h_; clear h_
      refine LW.rd hL rfl (Wants.free rfl) rfl (Rd.move (v := .bool b1) rfl) ?_
      obtain ⟨J2, hJ2, h1_J2, h0_J2⟩ := h
      suffices K2 : ∀ (b2 : Bool) (w3 : World), J2 b2 w3 → L 22 [(0, .slice l1 l1n l1c), (2, .bool x1), (3, .int .i64 i1), (34, .bool b2)] w3 by
        rcases Bool.eq_false_or_eq_true b1 with hb4 | hb4
        · have h := h0_J2 hb4
          refine LW.skip hL rfl (Skips.on rfl rfl rfl rfl rfl hb4) rfl ?_
          refine LW.skip hL rfl (Skips.on rfl rfl rfl rfl rfl hb4) rfl ?_
          refine LW.skip hL rfl (Skips.on rfl rfl rfl rfl rfl hb4) rfl ?_
          refine LW.skip hL rfl (Skips.on rfl rfl rfl rfl rfl hb4) rfl ?_
          refine LW.skip hL rfl (Skips.on rfl rfl rfl rfl rfl hb4) rfl ?_
          refine LW.skip hL rfl (Skips.on rfl rfl rfl rfl rfl hb4) rfl ?_
          refine LW.rd hL rfl (Wants.free rfl) rfl (Rd.pickT rfl hb4 rfl) ?_
          exact LW.sub hL (by exact ⟨rfl, rfl, rfl, rfl, trivial⟩) (K2 true w2 h)
        · have h := h1_J2 hb4
          refine LW.rd hL rfl (Wants.on rfl rfl rfl rfl rfl hb4) rfl (Rd.move (v := .slice l1 l1n l1c) rfl) ?_
          refine LW.rd hL rfl (Wants.on rfl rfl rfl rfl rfl hb4) rfl (Rd.move (v := .int .i64 i1) rfl) ?_
          refine LW.rd hL rfl (Wants.on rfl rfl rfl rfl rfl hb4) rfl (Rd.iaS (q := a1) (sz := 6) (by rw [← he1]; rfl) rfl Tryz.underlying69 (by kernel_rfl) hi1 hi2) ?_
          refine LW.rd hL rfl (Wants.on rfl rfl rfl rfl rfl hb4) rfl (Rd.fa (v := .pointer (some ((a1.add (Int.toNat i1 * 6)).add 5))) rfl (fun _ => by kernel_rfl)) ?_
          obtain ⟨t2, t2n, t2c, hc2, h⟩ := h
          refine LW.rd hL rfl (Wants.on rfl rfl rfl rfl rfl hb4) rfl (Rd.ld (v := .slice t2 t2n t2c) rfl (by kernel_rfl) (eqs hc2)) ?_
          refine LW.call hL rfl (Wants.on rfl rfl rfl rfl rfl hb4) rfl (Cl.fn (f := 56) rfl Tryz.func56 (by kernel_rfl) rfl) h (fun e w4 h_ => ?_)
          clear h
          obtain ⟨r2, rfl, h⟩ := h_
          refine ⟨_, rfl, ?_⟩
          refine LW.rd hL rfl (Wants.free rfl) rfl (Rd.pickF rfl hb4 rfl) ?_
          exact LW.sub hL (by exact ⟨rfl, rfl, rfl, rfl, trivial⟩) (K2 r2 w4 h)
      intro b2 w3 h_
      have h := hJ2 b2 w3 h_; clear h_
      refine LW.nil hL rfl ?_
      refine NW.then ?_
      refine CW.cond rfl (fun hb5 => ?_) (fun hb5 => ?_)
      · replace h := h.1 hb5
        refine CW.seq ?_
        refine CW.region fun L hL => ?_
        refine LW.rd hL rfl (Wants.free rfl) rfl (Rd.assign (v := .bool true) rfl) ?_
        refine LW.nil hL rfl ?_
        refine NW.then ?_
        refine CW.ret ?_
        refine RW.block ?_
        refine RW.then ?_
        refine RW.then ?_
        refine RW.block ?_
        refine RW.then ?_
        exact res1 rfl rfl ⟨true, rfl, h⟩
      · replace h := h.2 hb5
        refine CW.skip ?_
        refine NW.block ?_
        refine NW.then ?_
        refine CW.region fun L hL => ?_
        refine LW.rd hL rfl (Wants.free rfl) rfl (Rd.move (v := .int .i64 i1) rfl) ?_
        refine LW.rd hL rfl (Wants.free rfl) rfl (Rd.bin (v := .int .i64 (IntKind.wrap .i64 (i1 + 1))) rfl rfl (fun w => by kernel_rfl)) ?_
        refine LW.rd hL rfl (Wants.free rfl) rfl (Rd.assign (v := .int .i64 (IntKind.wrap .i64 (i1 + 1))) rfl) ?_
        refine LW.nil hL rfl ?_
        exact NW.loop (S := Bool × Int) (Ek := fun s1 => [(0, .slice l1 l1n l1c), (2, .bool s1.1), (3, .int .i64 s1.2)]) (x1, IntKind.wrap .i64 (i1 + 1)) (by exact ⟨rfl, rfl, rfl, trivial⟩) h
    · replace h := h.2 hb2
      refine CW.exit ?_
      refine XW.then ?_
      refine XW.then ?_
      refine XW.hit ?_
      refine NW.then ?_
      refine CW.seq ?_
      refine CW.region fun L hL => ?_
      refine LW.rd hL rfl (Wants.free rfl) rfl (Rd.assign (v := .bool false) rfl) ?_
      refine LW.nil hL rfl ?_
      refine NW.then ?_
      refine CW.ret ?_
      exact res1 rfl rfl ⟨false, rfl, h⟩

/- pomander/pomanderlaw12.broad -/
def W_pomanderlaw12_broad (l1 : Option Addr) (l1n : Nat) (l1c : Nat) (w : World) (R : Bool → World → Prop) : Prop :=
  ((decide ((l1n : Int) > 20)) = true → R true w) ∧ ((decide ((l1n : Int) > 20)) = false → ∃ (I1 : Bool → Int → World → Prop) (m1 : Bool → Int → World → Nat), I1 false 0 w ∧ ∀ (x1 : Bool) (i1 : Int) (w1 : World), I1 x1 i1 w1 → ((decide (i1 < (l1n : Int))) = true → ∃ a1 : Addr, l1 = some a1 ∧ (0 : Int) ≤ i1 ∧ i1 < (l1n : Int) ∧ (∃ (t1 : Option Addr) (t1n : Nat) (t1c : Nat), w1.cell? ((a1.add (Int.toNat i1 * 3)).add 2) = some (.slice t1 t1n t1c) ∧ (((decide ((t1n : Int) > 20)) = true → R true w1) ∧ ((decide ((t1n : Int) > 20)) = false → (I1 x1 (IntKind.wrap .i64 (i1 + 1)) w1 ∧ m1 x1 (IntKind.wrap .i64 (i1 + 1)) w1 < m1 x1 i1 w1))))) ∧ ((decide (i1 < (l1n : Int))) = false → R false w1))
set_option maxRecDepth 100000 in
theorem go_pomanderlaw12_broad (l1 : Option Addr) (l1n : Nat) (l1c : Nat) (w : World) (R : Bool → World → Prop) (h : W_pomanderlaw12_broad l1 l1n l1c w R) : Calls Tryz.prog 56 #[.slice l1 l1n l1c] w (fun e w' => ∃ (r1 : Bool), e = .returned (.bool r1) ∧ R r1 w') := by
  unfold W_pomanderlaw12_broad at h
  refine enter (N := 20) Tryz.func56 rfl rfl ?_
  refine CW.seq ?_
  refine CW.region fun L hL => ?_
  refine LW.rd hL rfl (Wants.free rfl) rfl (Rd.assign (v := .bool false) rfl) ?_
  refine LW.nil hL rfl ?_
  refine NW.then ?_
  refine CW.seq ?_
  refine CW.seq ?_
  refine CW.region fun L hL => ?_
  refine LW.rd hL rfl (Wants.free rfl) rfl (Rd.move (v := .slice l1 l1n l1c) rfl) ?_
  refine LW.rd hL rfl (Wants.free rfl) rfl (Rd.builtin (v := .int .i64 (l1n : Int)) rfl (fun _ _ => by kernel_rfl)) ?_
  refine LW.rd hL rfl (Wants.free rfl) rfl (Rd.bin (v := .bool (decide ((l1n : Int) > 20))) rfl rfl (fun w => by kernel_rfl)) ?_
  refine LW.nil hL rfl ?_
  refine NW.then ?_
  refine CW.cond rfl (fun hb1 => ?_) (fun hb1 => ?_)
  · replace h := h.1 hb1
    refine CW.seq ?_
    refine CW.region fun L hL => ?_
    refine LW.rd hL rfl (Wants.free rfl) rfl (Rd.assign (v := .bool true) rfl) ?_
    refine LW.nil hL rfl ?_
    refine NW.then ?_
    refine CW.ret ?_
    refine RW.then ?_
    exact res1 rfl rfl ⟨true, rfl, h⟩
  · replace h := h.2 hb1
    refine CW.skip ?_
    refine NW.then ?_
    refine CW.seq ?_
    refine CW.seq ?_
    refine CW.region fun L hL => ?_
    refine LW.rd hL rfl (Wants.free rfl) rfl (Rd.assign (v := .int .i64 0) rfl) ?_
    refine LW.nil hL rfl ?_
    refine NW.then ?_
    refine CW.block ?_
    obtain ⟨I1, m1, hI1, h⟩ := h
    refine CW.loop (S := Bool × Int) (fun s1 => [(0, .slice l1 l1n l1c), (2, .bool s1.1), (3, .int .i64 s1.2)]) (fun s1 w1 => I1 s1.1 s1.2 w1) (fun s1 w1 => m1 s1.1 s1.2 w1) (false, 0) (by exact ⟨rfl, rfl, rfl, trivial⟩) hI1 (fun s1 w1 hI1 => ?_)
    obtain ⟨x1, i1⟩ := s1; replace h := h x1 i1 w1 hI1
    refine CW.seq ?_
    refine CW.seq ?_
    refine CW.region fun L hL => ?_
    refine LW.rd hL rfl (Wants.free rfl) rfl (Rd.move (v := .int .i64 i1) rfl) ?_
    refine LW.rd hL rfl (Wants.free rfl) rfl (Rd.move (v := .slice l1 l1n l1c) rfl) ?_
    refine LW.rd hL rfl (Wants.free rfl) rfl (Rd.builtin (v := .int .i64 (l1n : Int)) rfl (fun _ _ => by kernel_rfl)) ?_
    refine LW.rd hL rfl (Wants.free rfl) rfl (Rd.bin (v := .bool (decide (i1 < (l1n : Int)))) rfl rfl (fun w => by kernel_rfl)) ?_
    refine LW.nil hL rfl ?_
    refine NW.then ?_
    refine CW.cond rfl (fun hb2 => ?_) (fun hb2 => ?_)
    · replace h := h.1 hb2
      refine CW.skip ?_
      refine NW.then ?_
      refine CW.seq ?_
      refine CW.block ?_
      refine CW.seq ?_
      refine CW.region fun L hL => ?_
      refine LW.rd hL rfl (Wants.free rfl) rfl (Rd.move (v := .slice l1 l1n l1c) rfl) ?_
      refine LW.rd hL rfl (Wants.free rfl) rfl (Rd.move (v := .int .i64 i1) rfl) ?_
      obtain ⟨a1, he1, hi1, hi2, h⟩ := h
      refine LW.rd hL rfl (Wants.free rfl) rfl (Rd.iaS (q := a1) (sz := 3) (by rw [← he1]; rfl) rfl Tryz.underlying27 (by kernel_rfl) hi1 hi2) ?_
      refine LW.rd hL rfl (Wants.free rfl) rfl (Rd.fa (v := .pointer (some ((a1.add (Int.toNat i1 * 3)).add 2))) rfl (fun _ => by kernel_rfl)) ?_
      obtain ⟨t1, t1n, t1c, hc1, h⟩ := h
      refine LW.rd hL rfl (Wants.free rfl) rfl (Rd.ld (v := .slice t1 t1n t1c) rfl (by kernel_rfl) (eqs hc1)) ?_
      refine LW.rd hL rfl (Wants.free rfl) rfl (Rd.builtin (v := .int .i64 (t1n : Int)) rfl (fun _ _ => by kernel_rfl)) ?_
      refine LW.rd hL rfl (Wants.free rfl) rfl (Rd.bin (v := .bool (decide ((t1n : Int) > 20))) rfl rfl (fun w => by kernel_rfl)) ?_
      refine LW.nil hL rfl ?_
      refine NW.then ?_
      refine CW.cond rfl (fun hb3 => ?_) (fun hb3 => ?_)
      · replace h := h.1 hb3
        refine CW.seq ?_
        refine CW.region fun L hL => ?_
        refine LW.rd hL rfl (Wants.free rfl) rfl (Rd.assign (v := .bool true) rfl) ?_
        refine LW.nil hL rfl ?_
        refine NW.then ?_
        refine CW.ret ?_
        refine RW.block ?_
        refine RW.then ?_
        refine RW.then ?_
        refine RW.block ?_
        refine RW.then ?_
        exact res1 rfl rfl ⟨true, rfl, h⟩
      · replace h := h.2 hb3
        refine CW.skip ?_
        refine NW.block ?_
        refine NW.then ?_
        refine CW.region fun L hL => ?_
        refine LW.rd hL rfl (Wants.free rfl) rfl (Rd.move (v := .int .i64 i1) rfl) ?_
        refine LW.rd hL rfl (Wants.free rfl) rfl (Rd.bin (v := .int .i64 (IntKind.wrap .i64 (i1 + 1))) rfl rfl (fun w => by kernel_rfl)) ?_
        refine LW.rd hL rfl (Wants.free rfl) rfl (Rd.assign (v := .int .i64 (IntKind.wrap .i64 (i1 + 1))) rfl) ?_
        refine LW.nil hL rfl ?_
        exact NW.loop (S := Bool × Int) (Ek := fun s1 => [(0, .slice l1 l1n l1c), (2, .bool s1.1), (3, .int .i64 s1.2)]) (x1, IntKind.wrap .i64 (i1 + 1)) (by exact ⟨rfl, rfl, rfl, trivial⟩) h
    · replace h := h.2 hb2
      refine CW.exit ?_
      refine XW.then ?_
      refine XW.then ?_
      refine XW.hit ?_
      refine NW.then ?_
      refine CW.seq ?_
      refine CW.region fun L hL => ?_
      refine LW.rd hL rfl (Wants.free rfl) rfl (Rd.assign (v := .bool false) rfl) ?_
      refine LW.nil hL rfl ?_
      refine NW.then ?_
      refine CW.ret ?_
      exact res1 rfl rfl ⟨false, rfl, h⟩

/- pomander/pomanderlaw12.known -/
def W_pomanderlaw12_known  (w : World) (R : Bool → World → Prop) : Prop :=
  Calls Tryz.prog 26 #[.agg #[.int .i64 1, .int .i64 1], .int .i64 4] w fun e w1 => ∃ (r2 : Option Addr) (r3 : Int), e = .returned (.tuple #[.pointer r2, .int .i64 r3]) ∧ (∀ (b2 b1 : Nat) (w5 : World), (w1.heap.size ≤ b2 ∧ b2 < w5.heap.size) → (w1.heap.size ≤ b1 ∧ b1 < w5.heap.size) → Chg [] w1 w5 → (Calls Tryz.prog 31 #[.pointer r2, .agg #[.int .i64 13, .int .i64 0], .int .i64 2, .int .u32 1] w5 fun e w6 => ∃ (r4 : Int), e = .returned (.int .i64 r4) ∧ (Same w5 w6 [b2, b1] ∧ (∀ b3 : Nat, b3 = World.size w6 → ∀ w7 : World, w7 = World.alloc w6 (.cells #[.int .i64 13, .int .i64 0] 62) → (∀ b4 : Nat, b4 = World.size w7 → ∀ w8 : World, w8 = World.alloc w7 (.cells #[.int .i64 1, .int .i64 1, .slice (some (⟨b3, 0, none⟩ : Addr)) 1 1] 65) → (Calls Tryz.prog 32 #[.pointer r2, .slice (some (⟨b4, 0, none⟩ : Addr)) 1 1] w8 fun e w9 => ∃ (r5 : Int), e = .returned (.int .i64 r5) ∧ (Same w8 w9 [b2] ∧ (Calls Tryz.prog 35 #[.pointer r2, .agg #[.int .i64 1, .int .i64 1]] w9 fun e w10 => ∃ (r6 : Int) (r7 : Int), e = .returned (.tuple #[.int .u32 r6, .int .i64 r7]) ∧ (R ((((r3 == 0 && r4 == 0) && r5 == 0) && r6 == 1) && r7 == 0) w10)))))))))
set_option maxRecDepth 100000 in
theorem go_pomanderlaw12_known  (w : World) (R : Bool → World → Prop) (h : W_pomanderlaw12_known  w R) : Calls Tryz.prog 25 #[] w (fun e w' => ∃ (r1 : Bool), e = .returned (.bool r1) ∧ R r1 w') := by
  unfold W_pomanderlaw12_known at h
  refine enter (N := 50) Tryz.func25 rfl rfl ?_
  refine CW.seq ?_
  refine CW.region fun L hL => ?_
  refine LW.rd hL rfl (Wants.free rfl) rfl (Rd.assign (v := .bool false) rfl) ?_
  refine LW.nil hL rfl ?_
  refine NW.then ?_
  refine CW.seq ?_
  refine CW.region fun L hL => ?_
  refine LW.rd hL rfl (Wants.free rfl) rfl (Rd.build (v := .agg #[.int .i64 1, .int .i64 1]) rfl (fun _ => by kernel_rfl)) ?_
  refine LW.call hL rfl (Wants.free rfl) rfl (Cl.fn (f := 26) rfl Tryz.func26 (by kernel_rfl) rfl) h (fun e w1 h_ => ?_)
  clear h
  obtain ⟨r2, r3, rfl, h⟩ := h_
  refine ⟨_, rfl, ?_⟩
  refine LW.rd hL rfl (Wants.free rfl) rfl (Rd.move (v := .tuple #[.pointer r2, .int .i64 r3]) rfl) ?_
  refine LW.rd hL rfl (Wants.free rfl) rfl (Rd.extract (v := .pointer r2) rfl rfl) ?_
  refine LW.rd hL rfl (Wants.free rfl) rfl (Rd.extract (v := .int .i64 r3) rfl rfl) ?_
  refine LW.rd hL rfl (Wants.free rfl) rfl (Rd.assign (v := .pointer r2) rfl) ?_
  refine LW.rd hL rfl (Wants.free rfl) rfl (Rd.assign (v := .int .i64 r3) rfl) ?_
  refine LW.nil hL rfl ?_
  refine NW.then ?_
  refine CW.seq ?_
  refine CW.region fun L hL => ?_
  refine LW.rd hL rfl (Wants.free rfl) rfl (Rd.build (v := .agg #[.int .i64 13, .int .i64 0]) rfl (fun _ => by kernel_rfl)) ?_
  refine LW.rd hL rfl (Wants.free rfl) rfl (Rd.build (v := .agg #[.int .i64 1, .int .i64 1]) rfl (fun _ => by kernel_rfl)) ?_
  obtain ⟨b1, hb_b1⟩ : ∃ b1, b1 = World.size w1 := ⟨_, rfl⟩
  obtain ⟨w2, hw_w2⟩ : ∃ w2, w2 = World.alloc w1 (.cells #[.int .i64 0, .int .i64 0] 62) := ⟨_, rfl⟩
  refine LW.val hL rfl (Wants.free rfl) rfl (boxE hb_b1 hw_w2 (Vl.alloc (z := .agg #[.int .i64 0, .int .i64 0]) (by kernel_rfl))) ?_
  have hB := Boxes.alloc (cs := [.int .i64 0, .int .i64 0]) (T := 62) (Boxes.nil w1) hb_b1 hw_w2
  have hlo_b1 := sil_lo (Chg.refl [] w1) hb_b1
  have hc_w2 := sil_alloc (Chg.refl [] w1) hw_w2
  obtain ⟨b2, hb_b2⟩ : ∃ b2, b2 = World.size w2 := ⟨_, rfl⟩
  obtain ⟨w3, hw_w3⟩ : ∃ w3, w3 = World.alloc w2 (.cells #[.int .i64 0, .int .i64 0] 62) := ⟨_, rfl⟩
  refine LW.val hL rfl (Wants.free rfl) rfl (boxE hb_b2 hw_w3 (Vl.alloc (z := .agg #[.int .i64 0, .int .i64 0]) (by kernel_rfl))) ?_
  replace hB := Boxes.alloc (cs := [.int .i64 0, .int .i64 0]) (T := 62) hB hb_b2 hw_w3
  have hlo_b2 := sil_lo hc_w2 hb_b2
  have hc_w3 := sil_alloc hc_w2 hw_w3
  obtain ⟨w4, hw_w4⟩ : ∃ x, x = setCells w3 (⟨b1, 0, none⟩ : Addr) 0 [.int .i64 13, .int .i64 0] := ⟨_, rfl⟩
  refine LW.eff hL rfl (Wants.free rfl) rfl (stNE hw_w4 (Ef.stN (cs := [.int .i64 13, .int .i64 0]) rfl rfl (by kernel_rfl) (List.forall_mem_cons.2 ⟨rfl, (List.forall_mem_cons.2 ⟨rfl, (List.forall_mem_nil _)⟩)⟩) (has_of (hB.at (i := 1) rfl) (by simp)) (free_of' (hB.at (i := 1) rfl)))) ?_
  replace hB : Boxes w4 [(b2, [.int .i64 0, .int .i64 0], 62), (b1, [.int .i64 13, .int .i64 0], 62)] := Boxes.store (vs := [.int .i64 13, .int .i64 0]) (i := 1) (o := 0) hB rfl rfl rfl rfl hw_w4
  have hc_w4 := sil_new hc_w3 (sil_cN hw_w4) hlo_b1
  obtain ⟨w5, hw_w5⟩ : ∃ x, x = setCells w4 (⟨b2, 0, none⟩ : Addr) 0 [.int .i64 1, .int .i64 1] := ⟨_, rfl⟩
  refine LW.eff hL rfl (Wants.free rfl) rfl (stNE hw_w5 (Ef.stN (cs := [.int .i64 1, .int .i64 1]) rfl rfl (by kernel_rfl) (List.forall_mem_cons.2 ⟨rfl, (List.forall_mem_cons.2 ⟨rfl, (List.forall_mem_nil _)⟩)⟩) (has_of (hB.at (i := 0) rfl) (by simp)) (free_of' (hB.at (i := 0) rfl)))) ?_
  replace hB : Boxes w5 [(b2, [.int .i64 1, .int .i64 1], 62), (b1, [.int .i64 13, .int .i64 0], 62)] := Boxes.store (vs := [.int .i64 1, .int .i64 1]) (i := 0) (o := 0) hB rfl rfl rfl rfl hw_w5
  have hc_w5 := sil_new hc_w4 (sil_cN hw_w5) hlo_b2
  refine LW.nil hL rfl ?_
  refine NW.then ?_
  refine CW.seq ?_
  refine CW.region fun L hL => ?_
  refine LW.rd hL rfl (Wants.free rfl) rfl (Rd.move (v := .pointer r2) rfl) ?_
  refine LW.rd hL rfl (Wants.free rfl) rfl (Rd.ldN (cs := [.int .i64 13, .int .i64 0]) rfl (by kernel_rfl) (by kernel_rfl) (cellsS (box_cells (hB.at (i := 1) rfl) rfl))) ?_
  replace h := h b2 b1 w5 ⟨hlo_b2, lt_of_heap (hB.at (i := 0) rfl)⟩ ⟨hlo_b1, lt_of_heap (hB.at (i := 1) rfl)⟩ hc_w5
  refine LW.call hL rfl (Wants.free rfl) rfl (Cl.fn (f := 31) rfl Tryz.func31 (by kernel_rfl) rfl) h (fun e w6 h_ => ?_)
  clear h
  obtain ⟨r4, rfl, h⟩ := h_
  obtain ⟨hsm1, h⟩ := h
  replace hB := Boxes.sameS hB hsm1 (by simp)
  refine ⟨_, rfl, ?_⟩
  refine LW.rd hL rfl (Wants.free rfl) rfl (Rd.assign (v := .int .i64 r4) rfl) ?_
  refine LW.nil hL rfl ?_
  refine NW.then ?_
  refine CW.seq ?_
  refine CW.region fun L hL => ?_
  refine LW.rd hL rfl (Wants.free rfl) rfl (Rd.move (v := .pointer r2) rfl) ?_
  refine LW.rd hL rfl (Wants.free rfl) rfl (Rd.ldN (cs := [.int .i64 1, .int .i64 1]) rfl (by kernel_rfl) (by kernel_rfl) (cellsS (box_cells (hB.at (i := 0) rfl) rfl))) ?_
  refine LW.rd hL rfl (Wants.free rfl) rfl (Rd.ldN (cs := [.int .i64 13, .int .i64 0]) rfl (by kernel_rfl) (by kernel_rfl) (cellsS (box_cells (hB.at (i := 1) rfl) rfl))) ?_
  obtain ⟨b3, hb_b3⟩ : ∃ b3, b3 = World.size w6 := ⟨_, rfl⟩
  obtain ⟨w7, hw_w7⟩ : ∃ w7, w7 = World.alloc w6 (.cells #[.int .i64 13, .int .i64 0] 62) := ⟨_, rfl⟩
  replace h := h b3 hb_b3 w7 hw_w7
  refine LW.val hL rfl (Wants.free rfl) rfl (sliceE (n := 1) hb_b3 hw_w7 (fun w => Vl.buildSlice (vs := [(0, .agg #[.int .i64 13, .int .i64 0])]) rfl (by kernel_rfl))) ?_
  replace hB := hB.grow hw_w7
  refine LW.rd hL rfl (Wants.free rfl) rfl (Rd.build (v := .agg #[.int .i64 1, .int .i64 1, .slice (some (⟨b3, 0, none⟩ : Addr)) 1 1]) rfl (fun _ => by kernel_rfl)) ?_
  obtain ⟨b4, hb_b4⟩ : ∃ b4, b4 = World.size w7 := ⟨_, rfl⟩
  obtain ⟨w8, hw_w8⟩ : ∃ w8, w8 = World.alloc w7 (.cells #[.int .i64 1, .int .i64 1, .slice (some (⟨b3, 0, none⟩ : Addr)) 1 1] 65) := ⟨_, rfl⟩
  replace h := h b4 hb_b4 w8 hw_w8
  refine LW.val hL rfl (Wants.free rfl) rfl (sliceE (n := 1) hb_b4 hw_w8 (fun w => Vl.buildSlice (vs := [(0, .agg #[.int .i64 1, .int .i64 1, .slice (some (⟨b3, 0, none⟩ : Addr)) 1 1])]) rfl (by kernel_rfl))) ?_
  replace hB := hB.grow hw_w8
  refine LW.call hL rfl (Wants.free rfl) rfl (Cl.fn (f := 32) rfl Tryz.func32 (by kernel_rfl) rfl) h (fun e w9 h_ => ?_)
  clear h
  obtain ⟨r5, rfl, h⟩ := h_
  obtain ⟨hsm2, h⟩ := h
  replace hB := Boxes.sameS (hB.sel [0] (by decide) rfl) hsm2 (by simp)
  refine ⟨_, rfl, ?_⟩
  refine LW.rd hL rfl (Wants.free rfl) rfl (Rd.assign (v := .int .i64 r5) rfl) ?_
  refine LW.nil hL rfl ?_
  refine NW.then ?_
  refine CW.seq ?_
  refine CW.region fun L hL => ?_
  refine LW.rd hL rfl (Wants.free rfl) rfl (Rd.move (v := .pointer r2) rfl) ?_
  refine LW.rd hL rfl (Wants.free rfl) rfl (Rd.ldN (cs := [.int .i64 1, .int .i64 1]) rfl (by kernel_rfl) (by kernel_rfl) (cellsS (box_cells (hB.at (i := 0) rfl) rfl))) ?_
  refine LW.call hL rfl (Wants.free rfl) rfl (Cl.fn (f := 35) rfl Tryz.func35 (by kernel_rfl) rfl) h (fun e w10 h_ => ?_)
  clear h
  obtain ⟨r6, r7, rfl, h⟩ := h_
  refine ⟨_, rfl, ?_⟩
  refine LW.rd hL rfl (Wants.free rfl) rfl (Rd.move (v := .tuple #[.int .u32 r6, .int .i64 r7]) rfl) ?_
  refine LW.rd hL rfl (Wants.free rfl) rfl (Rd.extract (v := .int .u32 r6) rfl rfl) ?_
  refine LW.rd hL rfl (Wants.free rfl) rfl (Rd.extract (v := .int .i64 r7) rfl rfl) ?_
  refine LW.rd hL rfl (Wants.free rfl) rfl (Rd.assign (v := .int .u32 r6) rfl) ?_
  refine LW.rd hL rfl (Wants.free rfl) rfl (Rd.assign (v := .int .i64 r7) rfl) ?_
  refine LW.nil hL rfl ?_
  refine NW.then ?_
  refine CW.seq ?_
  refine CW.region fun L hL => ?_
  refine LW.rd hL rfl (Wants.free rfl) rfl (Rd.move (v := .int .i64 r3) rfl) ?_
  refine LW.rd hL rfl (Wants.free rfl) rfl (Rd.bin (v := .bool (r3 == 0)) rfl rfl (fun w => by kernel_rfl)) ?_
  refine LW.rd hL rfl (Wants.free rfl) rfl (Rd.move (v := .bool (r3 == 0)) rfl) ?_
  suffices K1 : L 6 [(0, .bool false), (6, .int .i64 r5), (7, .int .u32 r6), (8, .int .i64 r7), (37, .bool (r3 == 0 && r4 == 0))] w10 by
    rcases Bool.eq_false_or_eq_true (r3 == 0) with hb2 | hb2
    · skip
      refine LW.rd hL rfl (Wants.on rfl rfl rfl rfl rfl hb2) rfl (Rd.move (v := .int .i64 r4) rfl) ?_
      refine LW.rd hL rfl (Wants.on rfl rfl rfl rfl rfl hb2) rfl (Rd.bin (v := .bool (r4 == 0)) rfl rfl (fun w => by kernel_rfl)) ?_
      refine LW.rd hL rfl (Wants.free rfl) rfl (Rd.pickT rfl hb2 rfl) ?_
      exact LW.sub hL (by exact ⟨rfl, rfl, rfl, rfl, (by rw [hb2]; rfl), trivial⟩) K1
    · skip
      refine LW.skip hL rfl (Skips.on rfl rfl rfl rfl rfl hb2) rfl ?_
      refine LW.skip hL rfl (Skips.on rfl rfl rfl rfl rfl hb2) rfl ?_
      refine LW.rd hL rfl (Wants.free rfl) rfl (Rd.pickF rfl hb2 rfl) ?_
      exact LW.sub hL (by exact ⟨rfl, rfl, rfl, rfl, (by rw [hb2]; rfl), trivial⟩) K1
  refine LW.rd hL rfl (Wants.free rfl) rfl (Rd.move (v := .bool (r3 == 0 && r4 == 0)) rfl) ?_
  suffices K2 : L 10 [(0, .bool false), (7, .int .u32 r6), (8, .int .i64 r7), (41, .bool ((r3 == 0 && r4 == 0) && r5 == 0))] w10 by
    rcases Bool.eq_false_or_eq_true (r3 == 0 && r4 == 0) with hb4 | hb4
    · skip
      refine LW.rd hL rfl (Wants.on rfl rfl rfl rfl rfl hb4) rfl (Rd.move (v := .int .i64 r5) rfl) ?_
      refine LW.rd hL rfl (Wants.on rfl rfl rfl rfl rfl hb4) rfl (Rd.bin (v := .bool (r5 == 0)) rfl rfl (fun w => by kernel_rfl)) ?_
      refine LW.rd hL rfl (Wants.free rfl) rfl (Rd.pickT rfl hb4 rfl) ?_
      exact LW.sub hL (by exact ⟨rfl, rfl, rfl, (by rw [hb4]; rfl), trivial⟩) K2
    · skip
      refine LW.skip hL rfl (Skips.on rfl rfl rfl rfl rfl hb4) rfl ?_
      refine LW.skip hL rfl (Skips.on rfl rfl rfl rfl rfl hb4) rfl ?_
      refine LW.rd hL rfl (Wants.free rfl) rfl (Rd.pickF rfl hb4 rfl) ?_
      exact LW.sub hL (by exact ⟨rfl, rfl, rfl, (by rw [hb4]; rfl), trivial⟩) K2
  refine LW.rd hL rfl (Wants.free rfl) rfl (Rd.move (v := .bool ((r3 == 0 && r4 == 0) && r5 == 0)) rfl) ?_
  suffices K3 : L 14 [(0, .bool false), (8, .int .i64 r7), (45, .bool (((r3 == 0 && r4 == 0) && r5 == 0) && r6 == 1))] w10 by
    rcases Bool.eq_false_or_eq_true ((r3 == 0 && r4 == 0) && r5 == 0) with hb6 | hb6
    · skip
      refine LW.rd hL rfl (Wants.on rfl rfl rfl rfl rfl hb6) rfl (Rd.move (v := .int .u32 r6) rfl) ?_
      refine LW.rd hL rfl (Wants.on rfl rfl rfl rfl rfl hb6) rfl (Rd.bin (v := .bool (r6 == 1)) rfl rfl (fun w => by kernel_rfl)) ?_
      refine LW.rd hL rfl (Wants.free rfl) rfl (Rd.pickT rfl hb6 rfl) ?_
      exact LW.sub hL (by exact ⟨rfl, rfl, (by rw [hb6]; rfl), trivial⟩) K3
    · skip
      refine LW.skip hL rfl (Skips.on rfl rfl rfl rfl rfl hb6) rfl ?_
      refine LW.skip hL rfl (Skips.on rfl rfl rfl rfl rfl hb6) rfl ?_
      refine LW.rd hL rfl (Wants.free rfl) rfl (Rd.pickF rfl hb6 rfl) ?_
      exact LW.sub hL (by exact ⟨rfl, rfl, (by rw [hb6]; rfl), trivial⟩) K3
  refine LW.rd hL rfl (Wants.free rfl) rfl (Rd.move (v := .bool (((r3 == 0 && r4 == 0) && r5 == 0) && r6 == 1)) rfl) ?_
  suffices K4 : L 18 [(0, .bool false), (49, .bool ((((r3 == 0 && r4 == 0) && r5 == 0) && r6 == 1) && r7 == 0))] w10 by
    rcases Bool.eq_false_or_eq_true (((r3 == 0 && r4 == 0) && r5 == 0) && r6 == 1) with hb8 | hb8
    · skip
      refine LW.rd hL rfl (Wants.on rfl rfl rfl rfl rfl hb8) rfl (Rd.move (v := .int .i64 r7) rfl) ?_
      refine LW.rd hL rfl (Wants.on rfl rfl rfl rfl rfl hb8) rfl (Rd.bin (v := .bool (r7 == 0)) rfl rfl (fun w => by kernel_rfl)) ?_
      refine LW.rd hL rfl (Wants.free rfl) rfl (Rd.pickT rfl hb8 rfl) ?_
      exact LW.sub hL (by exact ⟨rfl, (by rw [hb8]; rfl), trivial⟩) K4
    · skip
      refine LW.skip hL rfl (Skips.on rfl rfl rfl rfl rfl hb8) rfl ?_
      refine LW.skip hL rfl (Skips.on rfl rfl rfl rfl rfl hb8) rfl ?_
      refine LW.rd hL rfl (Wants.free rfl) rfl (Rd.pickF rfl hb8 rfl) ?_
      exact LW.sub hL (by exact ⟨rfl, (by rw [hb8]; rfl), trivial⟩) K4
  refine LW.rd hL rfl (Wants.free rfl) rfl (Rd.assign (v := .bool ((((r3 == 0 && r4 == 0) && r5 == 0) && r6 == 1) && r7 == 0)) rfl) ?_
  refine LW.nil hL rfl ?_
  refine NW.then ?_
  refine CW.ret ?_
  exact res1 rfl rfl ⟨((((r3 == 0 && r4 == 0) && r5 == 0) && r6 == 1) && r7 == 0), rfl, h⟩

/- (*pomander/flow.Flow).Apply -/
def W_flow_Flow_Apply (f1 : Option Addr) (l1 : Option Addr) (l1n : Nat) (l1c : Nat) (w : World) (R : Int → World → Prop) : Prop :=
  Calls Tryz.prog 43 #[.pointer f1] w fun e w1 => ∃ (r2 : Bool), e = .returned (.bool r2) ∧ ((r2 = true → R 1 w1) ∧ (r2 = false → Calls Tryz.prog 66 #[.pointer f1, .slice l1 l1n l1c] w1 fun e w2 => ∃ (r3 : Bool), e = .returned (.bool r3) ∧ (((!r3) = true → R 2 w2) ∧ ((!r3) = false → ∀ b1 : Nat, b1 = World.size w2 → ∀ w3 : World, w3 = World.alloc w2 (.map #[] 0) → (∃ (I1 : Int → Int → World → Prop) (m1 : Int → Int → World → Nat), I1 0 0 w3 ∧ ∀ (x1 : Int) (x2 : Int) (w4 : World), I1 x1 x2 w4 → ((decide (x2 < (l1n : Int))) = true → ∃ J1 : Int → World → Prop, (∀ (x3 : Int) (w5 : World), J1 x3 w5 → (I1 x3 (IntKind.wrap .i64 (x2 + 1)) w5 ∧ m1 x3 (IntKind.wrap .i64 (x2 + 1)) w5 < m1 x1 x2 w4)) ∧ (∃ a1 : Addr, l1 = some a1 ∧ (0 : Int) ≤ x2 ∧ x2 < (l1n : Int) ∧ (∃ (t1 : Int) (t2 : Int) (t3 : Option Addr) (t3n : Nat) (t3c : Nat), CellsAt w4 (a1.add (Int.toNat x2 * 3)) 0 [.int .i64 t1, .int .i64 t2, .slice t3 t3n t3c] ∧ (∀ (b2 : Nat) (w7 : World), (w4.heap.size ≤ b2 ∧ b2 < w7.heap.size) → Chg [] w4 w7 → ((((t1 == 0) && (t2 == 0)) = true → J1 x1 w7) ∧ (((t1 == 0) && (t2 == 0)) = false → Calls Tryz.prog 67 #[.pointer f1, .slice t3 t3n t3c] w7 fun e w8 => ∃ (r4 : Int), e = .returned (.int .u32 r4) ∧ (Same w7 w8 [b2] ∧ (Calls Tryz.prog 64 #[.pointer f1, .int .u32 r4] w8 fun e w9 => ∃ (r5 : Int), e = .returned (.int .i64 r5) ∧ (Same w8 w9 [b2] ∧ (((!(r5 == 0)) = true → R r5 w9) ∧ ((!(r5 == 0)) = false → ∃ w10 : World, (Instr.mapUpdate 99 (.map (some b1)) (.agg #[.int .i64 t1, .int .i64 t2]) (.int .u32 r4)).run Tryz.prog w9 = .ok () w10 ∧ (J1 x1 w10)))))))))))) ∧ ((decide (x2 < (l1n : Int))) = false → ∃ (it1 : Option Addr) (w11 : World), (Instr.range 99 (.map (some b1))).run Tryz.prog w4 = .ok (.pointer it1) w11 ∧ (∃ (I2 : World → Prop) (m2 : World → Nat), I2 w11 ∧ ∀ (w12 : World), I2 w12 → ∃ (nx1 : Array Value) (ok1 : Bool) (w13 : World), (Instr.next (.pointer it1) false 0).run Tryz.prog w12 = .ok (.tuple nx1) w13 ∧ nx1[0]? = some (.bool ok1) ∧ ((ok1 = true → ∃ (k1 : Int) (k2 : Int) (v1 : Int), (Instr.entry (.pointer it1)).run Tryz.prog w13 = .ok (.tuple #[.agg #[.int .i64 k1, .int .i64 k2], .int .u32 v1]) w13 ∧ (∀ (b3 : Nat) (w15 : World), (w13.heap.size ≤ b3 ∧ b3 < w15.heap.size) → Chg [] w13 w15 → (Calls Tryz.prog 65 #[.pointer f1, .agg #[.int .i64 k1, .int .i64 k2], .int .u32 v1] w15 fun e w16 => e = .returned (.tuple #[]) ∧ ((I2 w16 ∧ m2 w16 < m2 w12))))) ∧ (ok1 = false → R 0 w13)))))))))
set_option maxRecDepth 100000 in
theorem go_flow_Flow_Apply (f1 : Option Addr) (l1 : Option Addr) (l1n : Nat) (l1c : Nat) (w : World) (R : Int → World → Prop) (h : W_flow_Flow_Apply f1 l1 l1n l1c w R) : Calls Tryz.prog 32 #[.pointer f1, .slice l1 l1n l1c] w (fun e w' => ∃ (r1 : Int), e = .returned (.int .i64 r1) ∧ R r1 w') := by
  unfold W_flow_Flow_Apply at h
  refine enter (N := 57) Tryz.func32 rfl rfl ?_
  refine CW.seq ?_
  refine CW.region fun L hL => ?_
  refine LW.rd hL rfl (Wants.free rfl) rfl (Rd.assign (v := .int .i64 0) rfl) ?_
  refine LW.nil hL rfl ?_
  refine NW.then ?_
  refine CW.seq ?_
  refine CW.block ?_
  refine CW.seq ?_
  refine CW.region fun L hL => ?_
  refine LW.rd hL rfl (Wants.free rfl) rfl (Rd.move (v := .pointer f1) rfl) ?_
  refine LW.call hL rfl (Wants.free rfl) rfl (Cl.fn (f := 43) rfl Tryz.func43 (by kernel_rfl) rfl) h (fun e w1 h_ => ?_)
  clear h
  obtain ⟨r2, rfl, h⟩ := h_
  refine ⟨_, rfl, ?_⟩
  refine LW.rd hL rfl (Wants.free rfl) rfl (Rd.assign (v := .bool r2) rfl) ?_
  refine LW.nil hL rfl ?_
  refine NW.then ?_
  refine CW.cond rfl (fun hb1 => ?_) (fun hb1 => ?_)
  · replace h := h.1 hb1
    refine CW.seq ?_
    refine CW.region fun L hL => ?_
    refine LW.rd hL rfl (Wants.free rfl) rfl (Rd.assign (v := .int .i64 1) rfl) ?_
    refine LW.nil hL rfl ?_
    refine NW.then ?_
    refine CW.ret ?_
    refine RW.block ?_
    refine RW.then ?_
    exact res1 rfl rfl ⟨1, rfl, h⟩
  · replace h := h.2 hb1
    refine CW.seq ?_
    refine CW.region fun L hL => ?_
    refine LW.rd hL rfl (Wants.free rfl) rfl (Rd.move (v := .pointer f1) rfl) ?_
    refine LW.rd hL rfl (Wants.free rfl) rfl (Rd.move (v := .slice l1 l1n l1c) rfl) ?_
    refine LW.call hL rfl (Wants.free rfl) rfl (Cl.fn (f := 66) rfl Tryz.func66 (by kernel_rfl) rfl) h (fun e w2 h_ => ?_)
    clear h
    obtain ⟨r3, rfl, h⟩ := h_
    refine ⟨_, rfl, ?_⟩
    refine LW.rd hL rfl (Wants.free rfl) rfl (Rd.un (v := .bool (!r3)) rfl (fun _ => by kernel_rfl)) ?_
    refine LW.rd hL rfl (Wants.free rfl) rfl (Rd.assign (v := .bool (!r3)) rfl) ?_
    refine LW.nil hL rfl ?_
    refine NW.then ?_
    refine CW.cond rfl (fun hb2 => ?_) (fun hb2 => ?_)
    · replace h := h.1 hb2
      refine CW.seq ?_
      refine CW.region fun L hL => ?_
      refine LW.rd hL rfl (Wants.free rfl) rfl (Rd.assign (v := .int .i64 2) rfl) ?_
      refine LW.nil hL rfl ?_
      refine NW.then ?_
      refine CW.ret ?_
      refine RW.block ?_
      refine RW.then ?_
      exact res1 rfl rfl ⟨2, rfl, h⟩
    · replace h := h.2 hb2
      refine CW.skip ?_
      refine NW.block ?_
      refine NW.then ?_
      refine CW.seq ?_
      refine CW.region fun L hL => ?_
      obtain ⟨b1, hb_b1⟩ : ∃ b1, b1 = World.size w2 := ⟨_, rfl⟩
      obtain ⟨w3, hw_w3⟩ : ∃ w3, w3 = World.alloc w2 (.map #[] 0) := ⟨_, rfl⟩
      replace h := h b1 hb_b1 w3 hw_w3
      refine LW.val hL rfl (Wants.free rfl) rfl (mapE hb_b1 hw_w3 Vl.makeMap) ?_
      refine LW.rd hL rfl (Wants.free rfl) rfl (Rd.assign (v := .map (some b1)) rfl) ?_
      refine LW.nil hL rfl ?_
      refine NW.then ?_
      refine CW.seq ?_
      refine CW.seq ?_
      refine CW.region fun L hL => ?_
      refine LW.rd hL rfl (Wants.free rfl) rfl (Rd.move (v := .slice l1 l1n l1c) rfl) ?_
      refine LW.rd hL rfl (Wants.free rfl) rfl (Rd.builtin (v := .int .i64 (l1n : Int)) rfl (fun _ _ => by kernel_rfl)) ?_
      refine LW.rd hL rfl (Wants.free rfl) rfl (Rd.move (v := .int .i64 0) rfl) ?_
      refine LW.nil hL rfl ?_
      refine NW.then ?_
      refine CW.block ?_
      obtain ⟨I1, m1, hI1, h⟩ := h
      refine CW.loop (S := Int × Int) (fun s1 => [(0, .pointer f1), (5, .map (some b1)), (21, .slice l1 l1n l1c), (22, .int .i64 (l1n : Int)), (4, .int .i64 s1.1), (23, .int .i64 s1.2)]) (fun s1 w4 => I1 s1.1 s1.2 w4) (fun s1 w4 => m1 s1.1 s1.2 w4) (0, 0) (by exact ⟨rfl, rfl, rfl, rfl, rfl, rfl, trivial⟩) hI1 (fun s1 w4 hI1 => ?_)
      obtain ⟨x1, x2⟩ := s1; replace h := h x1 x2 w4 hI1
      refine CW.seq ?_
      refine CW.region fun L hL => ?_
      refine LW.rd hL rfl (Wants.free rfl) rfl (Rd.bin (v := .bool (decide (x2 < (l1n : Int)))) rfl rfl (fun w => by kernel_rfl)) ?_
      refine LW.nil hL rfl ?_
      refine NW.then ?_
      refine CW.seq ?_
      refine CW.cond rfl (fun hb3 => ?_) (fun hb3 => ?_)
      · replace h := h.1 hb3
        refine CW.skip ?_
        refine NW.then ?_
        obtain ⟨J1, hJ1, h⟩ := h
        refine CW.cut (S := Int) (fun x3 => [(0, .pointer f1), (5, .map (some b1)), (21, .slice l1 l1n l1c), (22, .int .i64 (l1n : Int)), (23, .int .i64 x2), (4, .int .i64 x3)]) (fun x3 w5 => J1 x3 w5) (fun x3 w5 h_ => ?_) ?_
        · replace h := hJ1 x3 w5 h_; clear h_
          refine CW.region fun L hL => ?_
          refine LW.rd hL rfl (Wants.free rfl) rfl (Rd.bin (v := .int .i64 (IntKind.wrap .i64 (x2 + 1))) rfl rfl (fun w => by kernel_rfl)) ?_
          refine LW.rd hL rfl (Wants.free rfl) rfl (Rd.move (v := .int .i64 (IntKind.wrap .i64 (x2 + 1))) rfl) ?_
          refine LW.nil hL rfl ?_
          exact NW.loop (S := Int × Int) (Ek := fun s1 => [(0, .pointer f1), (5, .map (some b1)), (21, .slice l1 l1n l1c), (22, .int .i64 (l1n : Int)), (4, .int .i64 s1.1), (23, .int .i64 s1.2)]) (x3, IntKind.wrap .i64 (x2 + 1)) (by exact ⟨rfl, rfl, rfl, rfl, rfl, rfl, trivial⟩) h
        · skip
          refine CW.block ?_
          refine CW.seq ?_
          refine CW.region fun L hL => ?_
          obtain ⟨a1, he1, hi1, hi2, h⟩ := h
          refine LW.rd hL rfl (Wants.free rfl) rfl (Rd.iaS (q := a1) (sz := 3) (by rw [← he1]; rfl) rfl Tryz.underlying27 (by kernel_rfl) hi1 hi2) ?_
          obtain ⟨t1, t2, t3, t3n, t3c, hc1, h⟩ := h
          refine LW.rd hL rfl (Wants.free rfl) rfl (Rd.ldN (cs := [.int .i64 t1, .int .i64 t2, .slice t3 t3n t3c]) rfl (by kernel_rfl) (by kernel_rfl) (cellsS hc1)) ?_
          obtain ⟨b2, hb_b2⟩ : ∃ b2, b2 = World.size w4 := ⟨_, rfl⟩
          obtain ⟨w6, hw_w6⟩ : ∃ w6, w6 = World.alloc w4 (.cells #[.int .i64 0, .int .i64 0, .slice none 0 0] 65) := ⟨_, rfl⟩
          refine LW.val hL rfl (Wants.free rfl) rfl (boxE hb_b2 hw_w6 (Vl.alloc (z := .agg #[.int .i64 0, .int .i64 0, .slice none 0 0]) (by kernel_rfl))) ?_
          have hB := Boxes.alloc (cs := [.int .i64 0, .int .i64 0, .slice none 0 0]) (T := 65) (Boxes.nil w4) hb_b2 hw_w6
          have hlo_b2 := sil_lo (Chg.refl [] w4) hb_b2
          have hc_w6 := sil_alloc (Chg.refl [] w4) hw_w6
          obtain ⟨w7, hw_w7⟩ : ∃ x, x = setCells w6 (⟨b2, 0, none⟩ : Addr) 0 [.int .i64 t1, .int .i64 t2, .slice t3 t3n t3c] := ⟨_, rfl⟩
          refine LW.eff hL rfl (Wants.free rfl) rfl (stNE hw_w7 (Ef.stN (cs := [.int .i64 t1, .int .i64 t2, .slice t3 t3n t3c]) rfl rfl (by kernel_rfl) (List.forall_mem_cons.2 ⟨rfl, (List.forall_mem_cons.2 ⟨rfl, (List.forall_mem_cons.2 ⟨rfl, (List.forall_mem_nil _)⟩)⟩)⟩) (has_of (hB.at (i := 0) rfl) (by simp)) (free_of' (hB.at (i := 0) rfl)))) ?_
          replace hB : Boxes w7 [(b2, [.int .i64 t1, .int .i64 t2, .slice t3 t3n t3c], 65)] := Boxes.store (vs := [.int .i64 t1, .int .i64 t2, .slice t3 t3n t3c]) (i := 0) (o := 0) hB rfl rfl rfl rfl hw_w7
          have hc_w7 := sil_new hc_w6 (sil_cN hw_w7) hlo_b2
          refine LW.nil hL rfl ?_
          refine NW.then ?_
          refine CW.seq ?_
          refine CW.seq ?_
          refine CW.region fun L hL => ?_
          refine LW.rd hL rfl (Wants.free rfl) rfl (Rd.fa (v := .pointer (some (⟨b2, 0, none⟩ : Addr))) rfl (fun _ => by kernel_rfl)) ?_
          refine LW.rd hL rfl (Wants.free rfl) rfl (Rd.ldN (cs := [.int .i64 t1, .int .i64 t2]) rfl (by kernel_rfl) (by kernel_rfl) (cellsS (box_cells (hB.at (i := 0) rfl) rfl))) ?_
          refine LW.rd hL rfl (Wants.free rfl) rfl (Rd.build (v := .agg #[.int .i64 0, .int .i64 0]) rfl (fun _ => by kernel_rfl)) ?_
          refine LW.rd hL rfl (Wants.free rfl) rfl (Rd.bin (v := .bool ((t1 == 0) && (t2 == 0))) rfl rfl (fun w => eqS_62 _ _ _ _ w)) ?_
          refine LW.nil hL rfl ?_
          refine NW.then ?_
          replace h := h b2 w7 ⟨hlo_b2, lt_of_heap (hB.at (i := 0) rfl)⟩ hc_w7
          refine CW.cond rfl (fun hb4 => ?_) (fun hb4 => ?_)
          · replace h := h.1 hb4
            refine CW.exit ?_
            refine XW.then ?_
            refine XW.hit ?_
            exact NW.cut (S := Int) (Ek := fun x3 => [(0, .pointer f1), (5, .map (some b1)), (21, .slice l1 l1n l1c), (22, .int .i64 (l1n : Int)), (23, .int .i64 x2), (4, .int .i64 x3)]) x1 (by exact ⟨rfl, rfl, rfl, rfl, rfl, rfl, trivial⟩) h
          · replace h := h.2 hb4
            refine CW.skip ?_
            refine NW.then ?_
            refine CW.seq ?_
            refine CW.region fun L hL => ?_
            refine LW.rd hL rfl (Wants.free rfl) rfl (Rd.move (v := .pointer f1) rfl) ?_
            refine LW.rd hL rfl (Wants.free rfl) rfl (Rd.fa (v := .pointer (some (⟨b2, 2, none⟩ : Addr))) rfl (fun _ => by kernel_rfl)) ?_
            refine LW.rd hL rfl (Wants.free rfl) rfl (Rd.ld (v := .slice t3 t3n t3c) rfl (by kernel_rfl) (eqs (box_cell (hB.at (i := 0) rfl) rfl))) ?_
            refine LW.call hL rfl (Wants.free rfl) rfl (Cl.fn (f := 67) rfl Tryz.func67 (by kernel_rfl) rfl) h (fun e w8 h_ => ?_)
            clear h
            obtain ⟨r4, rfl, h⟩ := h_
            obtain ⟨hsm1, h⟩ := h
            replace hB := Boxes.sameS hB hsm1 (by simp)
            refine ⟨_, rfl, ?_⟩
            refine LW.rd hL rfl (Wants.free rfl) rfl (Rd.assign (v := .int .u32 r4) rfl) ?_
            refine LW.nil hL rfl ?_
            refine NW.then ?_
            refine CW.seq ?_
            refine CW.seq ?_
            refine CW.region fun L hL => ?_
            refine LW.rd hL rfl (Wants.free rfl) rfl (Rd.move (v := .pointer f1) rfl) ?_
            refine LW.rd hL rfl (Wants.free rfl) rfl (Rd.move (v := .int .u32 r4) rfl) ?_
            refine LW.call hL rfl (Wants.free rfl) rfl (Cl.fn (f := 64) rfl Tryz.func64 (by kernel_rfl) rfl) h (fun e w9 h_ => ?_)
            clear h
            obtain ⟨r5, rfl, h⟩ := h_
            obtain ⟨hsm2, h⟩ := h
            replace hB := Boxes.sameS hB hsm2 (by simp)
            refine ⟨_, rfl, ?_⟩
            refine LW.rd hL rfl (Wants.free rfl) rfl (Rd.assign (v := .int .i64 r5) rfl) ?_
            refine LW.nil hL rfl ?_
            refine NW.then ?_
            refine CW.seq ?_
            refine CW.region fun L hL => ?_
            refine LW.rd hL rfl (Wants.free rfl) rfl (Rd.move (v := .int .i64 r5) rfl) ?_
            refine LW.rd hL rfl (Wants.free rfl) rfl (Rd.bin (v := .bool (!(r5 == 0))) rfl rfl (fun w => by kernel_rfl)) ?_
            refine LW.nil hL rfl ?_
            refine NW.then ?_
            refine CW.cond rfl (fun hb5 => ?_) (fun hb5 => ?_)
            · replace h := h.1 hb5
              refine CW.seq ?_
              refine CW.region fun L hL => ?_
              refine LW.rd hL rfl (Wants.free rfl) rfl (Rd.move (v := .int .i64 r5) rfl) ?_
              refine LW.rd hL rfl (Wants.free rfl) rfl (Rd.assign (v := .int .i64 r5) rfl) ?_
              refine LW.nil hL rfl ?_
              refine NW.then ?_
              refine CW.ret ?_
              refine RW.then ?_
              refine RW.block ?_
              refine RW.then ?_
              refine RW.then ?_
              refine RW.block ?_
              refine RW.then ?_
              exact res1 rfl rfl ⟨r5, rfl, h⟩
            · replace h := h.2 hb5
              refine CW.skip ?_
              refine NW.then ?_
              refine CW.region fun L hL => ?_
              refine LW.rd hL rfl (Wants.free rfl) rfl (Rd.move (v := .map (some b1)) rfl) ?_
              refine LW.rd hL rfl (Wants.free rfl) rfl (Rd.fa (v := .pointer (some (⟨b2, 0, none⟩ : Addr))) rfl (fun _ => by kernel_rfl)) ?_
              refine LW.rd hL rfl (Wants.free rfl) rfl (Rd.ldN (cs := [.int .i64 t1, .int .i64 t2]) rfl (by kernel_rfl) (by kernel_rfl) (cellsS (box_cells (hB.at (i := 0) rfl) rfl))) ?_
              refine LW.rd hL rfl (Wants.free rfl) rfl (Rd.move (v := .int .u32 r4) rfl) ?_
              obtain ⟨w10, hm1, h⟩ := h
              refine LW.eff hL rfl (Wants.free rfl) rfl (Ef.mapUpdate rfl rfl rfl hm1) ?_
              refine LW.nil hL rfl ?_
              refine NW.block ?_
              exact NW.cut (S := Int) (Ek := fun x3 => [(0, .pointer f1), (5, .map (some b1)), (21, .slice l1 l1n l1c), (22, .int .i64 (l1n : Int)), (23, .int .i64 x2), (4, .int .i64 x3)]) x1 (by exact ⟨rfl, rfl, rfl, rfl, rfl, rfl, trivial⟩) h
      · replace h := h.2 hb3
        refine CW.exit ?_
        refine XW.then ?_
        refine XW.then ?_
        refine XW.hit ?_
        refine NW.then ?_
        refine CW.seq ?_
        refine CW.seq ?_
        refine CW.region fun L hL => ?_
        refine LW.rd hL rfl (Wants.free rfl) rfl (Rd.move (v := .map (some b1)) rfl) ?_
        obtain ⟨it1, w11, hm2, h⟩ := h
        refine LW.val hL rfl (Wants.free rfl) rfl (Vl.range (v := .pointer it1) rfl hm2) ?_
        refine LW.nil hL rfl ?_
        refine NW.then ?_
        refine CW.block ?_
        obtain ⟨I2, m2, hI2, h⟩ := h
        refine CW.loop (S := Unit) (fun s2 => [(0, .pointer f1), (4, .int .i64 x1), (47, .pointer it1)]) (fun s2 w12 => I2 w12) (fun s2 w12 => m2 w12) () (by exact ⟨rfl, rfl, rfl, trivial⟩) hI2 (fun s2 w12 hI2 => ?_)
        replace h := h w12 hI2
        refine CW.seq ?_
        refine CW.region fun L hL => ?_
        obtain ⟨nx1, ok1, w13, hm3, hk1, h⟩ := h
        refine LW.val hL rfl (Wants.free rfl) rfl (Vl.next (v := .tuple nx1) rfl hm3) ?_
        refine LW.rd hL rfl (Wants.free rfl) rfl (Rd.extract (v := .bool ok1) rfl hk1) ?_
        refine LW.nil hL rfl ?_
        refine NW.then ?_
        refine CW.seq ?_
        refine CW.cond rfl (fun hb6 => ?_) (fun hb6 => ?_)
        · replace h := h.1 hb6
          refine CW.skip ?_
          refine NW.then ?_
          refine CW.block ?_
          refine CW.seq ?_
          refine CW.region fun L hL => ?_
          obtain ⟨k1, k2, v1, hl1, h⟩ := h
          refine LW.rd hL rfl (Wants.free rfl) rfl (Rd.entry (v := .tuple #[.agg #[.int .i64 k1, .int .i64 k2], .int .u32 v1]) rfl (fun _ e => e ▸ hl1)) ?_
          refine LW.rd hL rfl (Wants.free rfl) rfl (Rd.extract (v := .agg #[.int .i64 k1, .int .i64 k2]) rfl rfl) ?_
          refine LW.rd hL rfl (Wants.free rfl) rfl (Rd.extract (v := .int .u32 v1) rfl rfl) ?_
          obtain ⟨b3, hb_b3⟩ : ∃ b3, b3 = World.size w13 := ⟨_, rfl⟩
          obtain ⟨w14, hw_w14⟩ : ∃ w14, w14 = World.alloc w13 (.cells #[.int .i64 0, .int .i64 0] 62) := ⟨_, rfl⟩
          refine LW.val hL rfl (Wants.free rfl) rfl (boxE hb_b3 hw_w14 (Vl.alloc (z := .agg #[.int .i64 0, .int .i64 0]) (by kernel_rfl))) ?_
          have hB := Boxes.alloc (cs := [.int .i64 0, .int .i64 0]) (T := 62) (Boxes.nil w13) hb_b3 hw_w14
          have hlo_b3 := sil_lo (Chg.refl [] w13) hb_b3
          have hc_w14 := sil_alloc (Chg.refl [] w13) hw_w14
          obtain ⟨w15, hw_w15⟩ : ∃ x, x = setCells w14 (⟨b3, 0, none⟩ : Addr) 0 [.int .i64 k1, .int .i64 k2] := ⟨_, rfl⟩
          refine LW.eff hL rfl (Wants.free rfl) rfl (stNE hw_w15 (Ef.stN (cs := [.int .i64 k1, .int .i64 k2]) rfl rfl (by kernel_rfl) (List.forall_mem_cons.2 ⟨rfl, (List.forall_mem_cons.2 ⟨rfl, (List.forall_mem_nil _)⟩)⟩) (has_of (hB.at (i := 0) rfl) (by simp)) (free_of' (hB.at (i := 0) rfl)))) ?_
          replace hB : Boxes w15 [(b3, [.int .i64 k1, .int .i64 k2], 62)] := Boxes.store (vs := [.int .i64 k1, .int .i64 k2]) (i := 0) (o := 0) hB rfl rfl rfl rfl hw_w15
          have hc_w15 := sil_new hc_w14 (sil_cN hw_w15) hlo_b3
          refine LW.rd hL rfl (Wants.free rfl) rfl (Rd.assign (v := .int .u32 v1) rfl) ?_
          refine LW.nil hL rfl ?_
          refine NW.then ?_
          refine CW.region fun L hL => ?_
          refine LW.rd hL rfl (Wants.free rfl) rfl (Rd.move (v := .pointer f1) rfl) ?_
          refine LW.rd hL rfl (Wants.free rfl) rfl (Rd.ldN (cs := [.int .i64 k1, .int .i64 k2]) rfl (by kernel_rfl) (by kernel_rfl) (cellsS (box_cells (hB.at (i := 0) rfl) rfl))) ?_
          refine LW.rd hL rfl (Wants.free rfl) rfl (Rd.move (v := .int .u32 v1) rfl) ?_
          replace h := h b3 w15 ⟨hlo_b3, lt_of_heap (hB.at (i := 0) rfl)⟩ hc_w15
          refine LW.call hL rfl (Wants.free rfl) rfl (Cl.fn (f := 65) rfl Tryz.func65 (by kernel_rfl) rfl) h (fun e w16 h_ => ?_)
          clear h
          obtain ⟨rfl, h⟩ := h_
          refine ⟨_, rfl, ?_⟩
          refine LW.nil hL rfl ?_
          refine NW.block ?_
          exact NW.loop (S := Unit) (Ek := fun s2 => [(0, .pointer f1), (4, .int .i64 x1), (47, .pointer it1)]) () (by exact ⟨rfl, rfl, rfl, trivial⟩) h
        · replace h := h.2 hb6
          refine CW.exit ?_
          refine XW.then ?_
          refine XW.then ?_
          refine XW.hit ?_
          refine NW.then ?_
          refine CW.seq ?_
          refine CW.region fun L hL => ?_
          refine LW.rd hL rfl (Wants.free rfl) rfl (Rd.assign (v := .int .i64 0) rfl) ?_
          refine LW.nil hL rfl ?_
          refine NW.then ?_
          refine CW.ret ?_
          exact res1 rfl rfl ⟨0, rfl, h⟩

end Go.Proofs.YtfcfkhbkkfpehaaGreat
end

/- XApply -/
section
/- Flows: Apply. -/
set_option linter.unusedVariables false
set_option linter.unusedSimpArgs false
namespace Go.Proofs.YtfcfkhbkkfpehaaGreat
open Go Go.RowKit Go.X

theorem keepAll_now {most : Int} {g : Int × Int → Int} {sets : List Int} (ts : List Tch) : ∀ x ∈ (keepAll most g ts sets).2.1, ∃ t ∈ ts, t.1 = x.1 ∧ t.1 ≠ (0, 0) ∧ x.2 = joinP g t.2 := by
  have : ∀ (ts us : List Tch) (s : List Int × List Pr × Int), (∀ x ∈ s.2.1, ∃ t ∈ us, t.1 = x.1 ∧ t.1 ≠ (0, 0) ∧ x.2 = joinP g t.2) →
      ∀ x ∈ (ts.foldl (keepStep most g) s).2.1, ∃ t ∈ us ++ ts, t.1 = x.1 ∧ t.1 ≠ (0, 0) ∧ x.2 = joinP g t.2 := by
    intro ts
    induction ts with
    | nil => intro us s h x hx; simpa using h x hx
    | cons t ts ih =>
      intro us s h x hx
      have := ih (us ++ [t]) (keepStep most g s t) (fun x hx => by
        unfold keepStep at hx
        split at hx
        · obtain ⟨u, hu, r⟩ := h x hx
          exact ⟨u, List.mem_append_left _ hu, r⟩
        · rename_i hn
          split at hx
          · obtain ⟨u, hu, r⟩ := h x hx
            exact ⟨u, List.mem_append_left _ hu, r⟩
          · rcases mem_upd hx with rfl | hx
            · exact ⟨t, by simp, rfl, fun e => hn (.inr e), rfl⟩
            · obtain ⟨u, hu, r⟩ := h x hx
              exact ⟨u, List.mem_append_left _ hu, r⟩) x hx
      simpa using this
  exact this ts [] (sets, [], 0) (by simp)

def ApplyInv (w : World) (b b1 : Nat) (F : Fl) (fp : List Nat) (ts : List Tch) (w' : World) : Prop :=
  (keepAll F.most F.g ts F.sets).2.2 = 0 ∧ ∃ fp', FlowAt w' b { F with sets := (keepAll F.most F.g ts F.sets).1 } fp' ∧ Chg fp w w' ∧ (∀ i ∈ fp', i ∈ fp ∨ (w.heap.size ≤ i ∧ i ≠ b1)) ∧
    MapIs w' b1 encP (fun n : Int => .int .u32 n) (keepAll F.most F.g ts F.sets).2.1

theorem flow_apply {w : World} {b : Nat} {F : Fl} {fp : List Nat} (h : FlowAt w b F fp) {S : Nat → Prop} {p : Option Addr} {n c : Nat} {ts : List Tch} (hp : TouchesAt w S p n ts) (hS : ∀ i ∈ fp, ¬ S i) (hn : n ≤ 9223372036854775807) (hin : ∀ t ∈ ts, t.2.length ≤ 9223372036854775807) :
    Calls Tryz.prog 32 #[.pointer (some ⟨b, 0, none⟩), .slice p n c] w fun e w' => ∃ r : Int, e = .returned (.int .i64 r) ∧
      (r = applyE F ts ∧ ∃ fp', FlowAt w' b (applyF F ts) fp' ∧ Chg fp w w' ∧ ∀ i ∈ fp', i ∈ fp ∨ w.heap.size ≤ i) := by
  have hlt0 := h.lt
  refine go_flow_Flow_Apply _ _ _ _ _ _ ?_
  unfold W_flow_Flow_Apply
  refine (flow_none h).mono ?_
  rintro _ w1 ⟨_, rfl, rfl, hw⟩
  subst w1
  refine ⟨_, rfl, fun h => by simp at h, fun _ => ?_⟩
  refine (flow_right (c := c) h hp hn hin).mono ?_
  rintro _ w2 ⟨_, rfl, rfl, c2⟩
  refine ⟨_, rfl, fun hb => ?_, fun hb => ?_⟩
  · have hb' : ¬ rightAll F.fr F.se ts := by simpa [rightAll] using hb
    refine ⟨by unfold applyE; rw [if_neg hb'], fp, ?_, c2.nil, fun i hi => .inl hi⟩
    unfold applyF; rw [if_neg hb']; exact h.chg c2 (by simp)
  have hr : rightAll F.fr F.se ts := by simpa [rightAll] using hb
  refine v_alloc fun b1 w3 eb1 hb1 c3 => ?_
  have c03 := c2.trans0 c3
  have s2 := c2.size
  have hM0 : MapIs w3 b1 encP (fun n : Int => .int .u32 n) ([] : List Pr) := ⟨#[], 0, hb1, rfl, by simp, by simp, by simp⟩
  have hb1fp : b1 ∉ fp := fun hm => by have := hlt0 _ hm; omega
  refine ⟨fun _ x w' => ∃ j : Nat, x = (j : Int) ∧ j ≤ n ∧ ApplyInv w b b1 F fp (ts.take j) w', fun _ x _ => (n - x).toNat, ⟨0, rfl, by omega, rfl, fp, h.chg c03 (by simp), c03.nil, fun i hi => .inl hi, hM0⟩, ?_⟩
  rintro x1 _ w4 ⟨j, rfl, hj, h0, fp4, hF4, c4, hf4, hM4⟩
  have hlt4 := hF4.lt
  have hb14 : b1 ∉ fp4 := fun hm => by
    rcases hf4 _ hm with h | h
    · exact hb1fp h
    · exact h.2 rfl
  refine ⟨fun hlt => ?_, fun hge => ?_⟩
  · have hlt' : j < n := by simpa using hlt
    obtain ⟨t, hj'⟩ := get_of (l := ts) (j := j) (by rw [hp.length]; exact hlt')
    have hmem : t ∈ ts := List.mem_of_getElem? hj'
    obtain ⟨k1, k2, a, q, qn, qc, rfl, ha, hc, hps⟩ := (hp.chg c4 hS).each j _ hj'
    refine ⟨fun _ w' => ApplyInv w b b1 F fp (ts.take (j + 1)) w', fun x w5 h5 => ?_, a, rfl, by omega, by omega, t.1.1, t.1.2, q, qn, qc, by simpa using hc, fun b2 w7 l7 c7 => ⟨fun he => ?_, fun hne => ?_⟩⟩
    · rw [wr (by omega) (by omega)]
      exact ⟨⟨j + 1, by omega, by omega, h5⟩, by simp only []; omega⟩
    · have he' : t.1 = (0, 0) := by
        have : t.1.1 = 0 ∧ t.1.2 = 0 := by simpa using he
        exact Prod.ext this.1 this.2
      unfold ApplyInv
      rw [take_snoc hj', keepAll_snoc]
      unfold keepStep
      rw [if_pos (.inr he')]
      exact ⟨h0, fp4, hF4.chg c7 (by simp), c4.trans c7 (by simp), hf4, hM4.chg c7 (by simp)⟩
    have hne' : t.1 ≠ (0, 0) := by
      intro e; rw [e] at hne; simp at hne
    refine (flow_together (c := qc) (hF4.chg c7 (by simp)) (hps.chg c7 (by simp)) (by rw [← hps.length]; exact hin t hmem)).mono ?_
    rintro _ w8 ⟨_, rfl, rfl, c8⟩
    simp only []
    have hu := joinP_u16 (fun p => h.each p) t.2
    refine ⟨_, rfl, Same.chg c8 (by simp; omega), ?_⟩
    have s8 := c8.size
    have hF8 := (hF4.chg c7 (by simp)).chg c8 (by simp)
    refine (flow_keep hF8 hu.1).mono ?_
    rintro _ w9 ⟨r5, rfl, rfl, fp9, hF9, c9, hf9⟩
    have s4 := c4.size
    have s7 := c7.size
    have c49 : Chg fp4 w4 w9 := ((c7.trans0 c8).nil).trans c9 (fun i hi _ => hi)
    have hf49 : ∀ i ∈ fp9, i ∈ fp4 ∨ w4.heap.size ≤ i := fun i hi => by
      rcases hf9 i hi with h | h
      · exact .inl h
      · exact .inr (by omega)
    obtain ⟨c09, hf09⟩ := grow_trans (fp := fp) (fp' := fp4) c4 (fun i hi => (hf4 i hi).imp id And.left) c49 hf49
    have hl4 : b1 < w4.heap.size := hM4.lt
    have hf9' : ∀ i ∈ fp9, i ∈ fp ∨ (w.heap.size ≤ i ∧ i ≠ b1) := fun i hi => by
      rcases hf49 i hi with h | h
      · exact hf4 i h
      · exact .inr ⟨by omega, by omega⟩
    refine ⟨_, rfl, Same.of c9 (by simp; exact ⟨by omega, fun hm => by have := hlt4 _ hm; omega⟩), fun hbad => ?_, fun hz => ?_⟩
    · have hbad' : keepE F.most (keepAll F.most F.g (ts.take j) F.sets).1 (joinP F.g t.2) ≠ 0 := by simpa using hbad
      have hs : keepAll F.most F.g (ts.take (j + 1)) F.sets = ((keepAll F.most F.g (ts.take j) F.sets).1, (keepAll F.most F.g (ts.take j) F.sets).2.1, keepE F.most (keepAll F.most F.g (ts.take j) F.sets).1 (joinP F.g t.2)) := by
        rw [take_snoc hj', keepAll_snoc]; unfold keepStep
        rw [if_neg (by rintro (h | h); exact h h0; exact hne' h), if_pos hbad']
      have hall : keepAll F.most F.g ts F.sets = keepAll F.most F.g (ts.take (j + 1)) F.sets := by
        have := keepAll_bad (most := F.most) (g := F.g) (ts := ts.take (j + 1)) (us := ts.drop (j + 1)) (sets := F.sets) (by rw [hs]; exact hbad')
        rwa [List.take_append_drop] at this
      refine ⟨?_, fp9, ?_, c09, hf09⟩
      · unfold applyE; rw [if_pos hr, hall, hs]
      · unfold applyF; rw [if_pos hr, hall, hs]
        simp only [if_neg hbad']
        rw [keepS_bad hbad'] at hF9; exact hF9
    have hz' : keepE F.most (keepAll F.most F.g (ts.take j) F.sets).1 (joinP F.g t.2) = 0 := by simpa using hz
    have hM9 := ((hM4.chg c7 (by simp)).chg c8 (by simp)).chg c9 hb14
    obtain ⟨w10, hu10, c10, hs10, hM10⟩ := hM9.update (P := Tryz.prog) (T := 99) u143 keyPlace (t.1.1, t.1.2) (joinP F.g t.2)
    refine ⟨w10, hu10, ?_⟩
    unfold ApplyInv
    rw [take_snoc hj', keepAll_snoc]
    unfold keepStep
    rw [if_neg (by rintro (h | h); exact h h0; exact hne' h), if_neg (by rw [hz']; simp)]
    exact ⟨rfl, fp9, hF9.chg c10 (fun i hi hm => by
      simp at hm; subst hm
      rcases hf9' _ hi with h | h
      · exact hb1fp h
      · exact h.2 rfl), c09.trans c10 (fun i hi hlt => by simp at hi; omega), hf9', hM10⟩
  have hge' : ¬ j < n := by simpa using hge
  have htk : ts.take j = ts := List.take_of_length_le (by rw [hp.length]; omega)
  rw [htk] at h0 hF4 hM4
  obtain ⟨it, w11, hrg, c11, hit, hI11⟩ := iter_range (P := Tryz.prog) (T := 99) hM4 u143
  have s4 := c4.size
  have hl4 : b1 < w4.heap.size := hM4.lt
  have hne1 : it ≠ b1 := by omega
  have hitfp : it ∉ fp4 := fun hm => by have := hlt4 _ hm; omega
  have hE : applyE F ts = 0 := by unfold applyE; rw [if_pos hr, h0]
  refine ⟨_, w11, hrg, ?_⟩
  refine ⟨fun w' => ∃ done fp', FlowAt w' b { F with sets := (keepAll F.most F.g ts F.sets).1, g := overP F.g done } fp' ∧ IterAt w' it b1 encP (fun n : Int => .int .u32 n) (keepAll F.most F.g ts F.sets).2.1 done ∧ Chg fp w w' ∧ (∀ i ∈ fp', i ∈ fp ∨ (w.heap.size ≤ i ∧ i ≠ b1 ∧ i ≠ it)),
    fun w' => (keepAll F.most F.g ts F.sets).2.1.length - seenN w' it, ⟨[], fp4, by rw [overP_nil]; exact hF4.chg c11 (by simp), hI11, c4.trans c11 (by simp), fun i hi => ?_⟩, ?_⟩
  · rcases hf4 i hi with h | h
    · exact .inl h
    · exact .inr ⟨h.1, h.2, fun e => hitfp (e ▸ hi)⟩
  rintro w12 ⟨done, fp12, hF12, hI12, c12, hf12⟩
  have hlt12 := hF12.lt
  rcases iter_next (P := Tryz.prog) hI12 hne1 keyPlace.inj 0 with ⟨hnx, hall⟩ | ⟨k, v, w13, hkl, hnew, hrun, c13, hI13, hent⟩
  · refine ⟨_, false, w12, hnx, rfl, fun h => by simp at h, fun _ => ⟨hE.symm, fp12, ?_, c12, fun i hi => (hf12 i hi).imp id And.left⟩⟩
    unfold applyF
    rw [if_pos hr, if_pos h0]
    have : overP F.g done = overP F.g (keepAll F.most F.g ts F.sets).2.1 := by
      funext q; unfold overP; rw [hI12.end_look hall q]
    rw [← this]; exact hF12
  · refine ⟨_, true, w13, hrun, rfl, fun _ => ?_, fun h => by simp at h⟩
    refine ⟨k.1, k.2, v, hent, fun b3 w15 l15 c15 => ?_⟩
    obtain ⟨t, ht, e1, e2, e3⟩ := keepAll_now ts _ hkl
    simp only [] at e1 e3
    have hmay : mayP F.fr F.se k := by
      have := (hr t ht).1
      rw [e1] at this e2
      exact this.resolve_left e2
    have hu := joinP_u16 (fun p => h.each p) t.2
    rw [← e3] at hu
    have hit12 : it ∉ fp12 := fun hm => by
      rcases hf12 _ hm with h | h
      · have := hlt0 _ h; omega
      · exact h.2.2 rfl
    have hF15 := (hF12.chg c13 (fun i hi hm => by simp at hm; exact hit12 (hm ▸ hi))).chg c15 (by simp)
    refine (flow_put (p1 := k.1) (p2 := k.2) hF15 hmay hu.1 hu.2).mono ?_
    rintro _ w16 ⟨rfl, fp16, hF16, c16, hf16⟩
    have s12 := c12.size
    have s13 := c13.size
    have s15 := c15.size
    have c1216 : Chg (it :: fp12) w12 w16 := ((c13.mono (g := it :: fp12) (by simp)).trans c15 (by simp)).trans c16 (fun i hi _ => by simp [hi])
    have c016 : Chg fp w w16 := c12.trans c1216 (fun i hi hlt => by
      rcases List.mem_cons.1 hi with rfl | hi
      · omega
      · exact (hf12 i hi).resolve_right (fun h => by omega))
    have hb112 : b1 ∉ fp12 := fun hm => by
      rcases hf12 _ hm with h | h
      · exact hb1fp h
      · exact h.2.1 rfl
    have hI16 := (hI13.chg c15 (by simp) (by simp)).chg c16 hit12 hb112
    refine ⟨rfl, ⟨done ++ [(k, v)], fp16, ?_, hI16, c016, fun i hi => ?_⟩, ?_⟩
    · have : overP F.g (done ++ [(k, v)]) = putP (overP F.g done) (k.1, k.2) v := by
        rw [← overP_upd]
        funext q
        unfold overP
        have hn : lookK (k.1, k.2) done = none := lookK_none.2 (fun p hp e => hnew (List.mem_map.2 ⟨p, hp, e⟩))
        unfold upd
        rw [hn]; rfl
      rw [this]; exact hF16
    · have hl16 : it < w12.heap.size := by
        obtain ⟨es, clk, since, c0, seen, ds, h1, _⟩ := hI12
        exact lt_of_heap h1
      rcases hf16 i hi with h | h
      · exact hf12 i h
      · refine .inr ⟨by omega, by omega, by omega⟩
    · have a1 := hI12.count
      have a2 := hI16.count
      have a3 := hI12.more hkl hnew
      simp at a2
      simp only []
      omega
theorem _root_.Go.X.CellsAt.third {w : World} {q : Addr} {a b c : Value} (h : CellsAt w q 0 [a, b, c]) : w.cell? (q.add 2) = some c := h.2.2.1
end Go.Proofs.YtfcfkhbkkfpehaaGreat
end

/- XPol2 -/
section
/- The laws' helpers: broad, made. -/
set_option linter.unusedVariables false
set_option linter.unusedSimpArgs false
namespace Go.Proofs.YtfcfkhbkkfpehaaGreat
open Go Go.RowKit Go.X

def broadP (m : Nat) (ts : List Tch) : Prop := 30 < m ∨ 20 < ts.length ∨ ∃ t ∈ ts, 20 < t.2.length
instance (m : Nat) (ts : List Tch) : Decidable (broadP m ts) := by unfold broadP; exact inferInstance
end Go.Proofs.YtfcfkhbkkfpehaaGreat
end

/- XActs -/
section
/- Acts on flows: what they are, what they do; the laws' helpers vast, broad, known, does. -/
set_option linter.unusedVariables false
set_option linter.unusedSimpArgs false
namespace Go.Proofs.YtfcfkhbkkfpehaaGreat
open Go Go.RowKit Go.X

structure ActV where
  kind : Int
  n : Int
  p : Int × Int
  set : Int
  ts : List Tch

def stepF (F : Fl) (a : ActV) : Fl := if a.kind = 1 then markF F a.p a.n a.set else applyF F a.ts
def stepR (R : Rf) (a : ActV) : Rf := if a.kind = 1 then refMark R a.p a.n a.set else refApply R a.ts
theorem RelF.step {F : Fl} {R : Rf} (h : RelF F R) (a : ActV) : RelF (stepF F a) (stepR R a) := by
  unfold stepF stepR
  split
  · exact h.mark _ _ _
  · exact h.apply _

/-- Acts that lie somewhere. -/
structure ActAt (w : World) (S : Nat → Prop) (q : Option Addr) (qn qc : Nat) (a : ActV) : Prop where
  p : i64s a.p.1 ∧ i64s a.p.2
  set : 0 ≤ a.set ∧ a.set < 4294967296
  n : i64s a.n
  ts : TouchesAt w S q qn a.ts
  qn : qn ≤ maxLen
  inner : ∀ t ∈ a.ts, t.2.length ≤ maxLen
structure ActsAt (w : World) (S : Nat → Prop) (p : Option Addr) (n : Nat) (acts : List ActV) : Prop where
  length : acts.length = n
  each : ∀ (j : Nat) (a : ActV), acts[j]? = some a → ∃ b q qn qc, p = some b ∧ S b.block ∧ CellsAt w (b.add (j * 6)) 0 [.int .i64 a.kind, .int .i64 a.n, .int .i64 a.p.1, .int .i64 a.p.2, .int .u32 a.set, .slice q qn qc] ∧ ActAt w S q qn qc a
theorem ActAt.chg {w w' : World} {S : Nat → Prop} {q : Option Addr} {qn qc : Nat} {a : ActV} {f : List Nat} (h : ActAt w S q qn qc a) (hc : Chg f w w') (hf : ∀ i ∈ f, ¬ S i) : ActAt w' S q qn qc a :=
  { h with ts := h.ts.chg hc hf }
theorem ActsAt.chg {w w' : World} {S : Nat → Prop} {p : Option Addr} {n : Nat} {acts : List ActV} {f : List Nat} (h : ActsAt w S p n acts) (hc : Chg f w w') (hf : ∀ i ∈ f, ¬ S i) : ActsAt w' S p n acts :=
  ⟨h.length, fun j a hj => let ⟨b, q, qn, qc, h1, h2, h3, h4⟩ := h.each j a hj; ⟨b, q, qn, qc, h1, h2, hc.cells (by rw [add_block]; exact fun hm => hf _ hm h2) h3, h4.chg hc hf⟩⟩

def broadT (ts : List Tch) : Prop := 20 < ts.length ∨ ∃ t ∈ ts, 20 < t.2.length
instance (ts : List Tch) : Decidable (broadT ts) := by unfold broadT; exact inferInstance
def vastA (acts : List ActV) : Prop := 30 < acts.length ∨ ∃ a ∈ acts, (200 < a.n ∧ a.n ≤ 65536) ∨ broadT a.ts
instance (acts : List ActV) : Decidable (vastA acts) := by unfold vastA; exact inferInstance

theorem broad12 {w : World} {S : Nat → Prop} {p : Option Addr} {n c : Nat} {ts : List Tch} (hp : TouchesAt w S p n ts) (hn : n ≤ maxLen) :
    Calls Tryz.prog 56 #[.slice p n c] w fun e w' => ∃ r : Bool, e = .returned (.bool r) ∧ (r = decide (broadT ts) ∧ w' = w) := by
  have hl := hp.length
  simp only [maxLen] at hn
  refine go_pomanderlaw12_broad _ _ _ _ _ ?_
  unfold W_pomanderlaw12_broad
  refine ⟨fun h => ⟨?_, rfl⟩, fun h => ?_⟩
  · have h' : 20 < n := by have : (20 : Int) < n := by simpa using h
                           omega
    symm; rw [decide_eq_true_eq]; exact .inl (by omega)
  have h' : ¬ 20 < n := by have : ¬ (20 : Int) < n := by simpa using h
                           omega
  refine ⟨fun _ i w' => ∃ j : Nat, i = (j : Int) ∧ j ≤ n ∧ (∀ t ∈ ts.take j, t.2.length ≤ 20) ∧ w' = w, fun _ i _ => (n - i).toNat, ⟨0, rfl, by omega, by simp, rfl⟩, ?_⟩
  rintro x _ w1 ⟨j, rfl, hj, hall, hw⟩
  subst w1
  refine ⟨fun hlt => ?_, fun hge => ?_⟩
  · have hlt' : j < n := by simpa using hlt
    obtain ⟨t, hx⟩ := get_of (l := ts) (j := j) (by omega)
    obtain ⟨k1, k2, a, q, qn, qc, rfl, ha, hc, hps⟩ := hp.each j _ hx
    have hq := hps.length
    refine ⟨a, rfl, by omega, by omega, q, qn, qc, by simpa using CellsAt.third hc, fun hb => ⟨?_, rfl⟩, fun hb => ?_⟩
    · have hb' : 20 < qn := by have : (20 : Int) < qn := by simpa using hb
                               omega
      symm; rw [decide_eq_true_eq]; exact .inr ⟨t, List.mem_of_getElem? hx, by omega⟩
    · have hb' : ¬ 20 < qn := by have : ¬ (20 : Int) < qn := by simpa using hb
                                 omega
      rw [wr (by omega) (by omega)]
      refine ⟨⟨j + 1, by omega, by omega, ?_, rfl⟩, by simp only []; omega⟩
      rw [take_snoc hx]
      intro z hz
      rcases List.mem_append.1 hz with hz | hz
      · exact hall z hz
      · simp at hz; subst hz; omega
  · have hge' : ¬ j < n := by simpa using hge
    rw [List.take_of_length_le (by omega)] at hall
    refine ⟨?_, rfl⟩
    symm; rw [decide_eq_false_iff_not]
    rintro (hh | ⟨t, ht, hh⟩)
    · omega
    · have := hall t ht; omega

theorem act_cells {w : World} {q : Addr} {a b c d e f : Value} (h : CellsAt w q 0 [a, b, c, d, e, f]) : w.cell? (q.add 1) = some b ∧ w.cell? (q.add 5) = some f := ⟨h.2.1, h.2.2.2.2.2.1⟩

theorem vast_ok {w : World} {S : Nat → Prop} {p : Option Addr} {n c : Nat} {acts : List ActV} (hp : ActsAt w S p n acts) (hn : n ≤ maxLen) :
    Calls Tryz.prog 24 #[.slice p n c] w fun e w' => ∃ r : Bool, e = .returned (.bool r) ∧ (r = decide (vastA acts) ∧ w' = w) := by
  have hl := hp.length
  simp only [maxLen] at hn
  refine go_pomanderlaw12_vast _ _ _ _ _ ?_
  unfold W_pomanderlaw12_vast
  refine ⟨fun h => ⟨?_, rfl⟩, fun h => ?_⟩
  · have h' : 30 < n := by have : (30 : Int) < n := by simpa using h
                           omega
    symm; rw [decide_eq_true_eq]; exact .inl (by omega)
  have h' : ¬ 30 < n := by have : ¬ (30 : Int) < n := by simpa using h
                           omega
  refine ⟨fun _ i w' => ∃ j : Nat, i = (j : Int) ∧ j ≤ n ∧ (∀ a ∈ acts.take j, ¬ ((200 < a.n ∧ a.n ≤ 65536) ∨ broadT a.ts)) ∧ w' = w, fun _ i _ => (n - i).toNat, ⟨0, rfl, by omega, by simp, rfl⟩, ?_⟩
  rintro x _ w1 ⟨j, rfl, hj, hall, hw⟩
  subst w1
  refine ⟨fun hlt => ?_, fun hge => ?_⟩
  · have hlt' : j < n := by simpa using hlt
    obtain ⟨t, hx⟩ := get_of (l := acts) (j := j) (by omega)
    obtain ⟨b, q, qn, qc, rfl, hb, hc, hA⟩ := hp.each j _ hx
    obtain ⟨hc1, hc5⟩ := act_cells hc
    refine ⟨b, rfl, by omega, by omega, t.n, by simpa using hc1, fun b1 w' => w' = w ∧ b1 = decide (200 < t.n ∧ t.n ≤ 65536), ?_, fun hh => ⟨rfl, ?_⟩, fun hh => ⟨rfl, ?_⟩⟩
    rotate_left
    · have hh' : 200 < t.n := by simpa using hh
      exact decide_eq_decide.2 ⟨fun h => ⟨hh', h⟩, And.right⟩
    · have hh' : ¬ 200 < t.n := by simpa using hh
      symm; rw [decide_eq_false_iff_not]; exact fun h => hh' h.1
    rintro b1 w2 ⟨hw, rfl⟩
    subst w2
    refine ⟨fun b2 w' => w' = w ∧ b2 = decide ((200 < t.n ∧ t.n ≤ 65536) ∨ broadT t.ts), ?_, fun hh => ?_, fun hh => ⟨rfl, ?_⟩⟩
    rotate_left
    · rw [decide_eq_false_iff_not] at hh
      refine ⟨q, qn, qc, by simpa using hc5, ?_⟩
      refine (broad12 (c := qc) hA.ts hA.qn).mono ?_
      rintro _ w4 ⟨_, rfl, rfl, hw⟩
      exact ⟨_, rfl, hw, decide_eq_decide.2 ⟨.inr, fun h => h.resolve_left hh⟩⟩
    · rw [decide_eq_true_eq] at hh
      symm; rw [decide_eq_true_eq]; exact .inl hh
    rintro b2 w3 ⟨hw, rfl⟩
    subst w3
    refine ⟨fun hh => ⟨?_, rfl⟩, fun hh => ?_⟩
    · rw [decide_eq_true_eq] at hh
      symm; rw [decide_eq_true_eq]; exact .inr ⟨t, List.mem_of_getElem? hx, hh⟩
    · rw [decide_eq_false_iff_not] at hh
      rw [wr (by omega) (by omega)]
      refine ⟨⟨j + 1, by omega, by omega, ?_, rfl⟩, by simp only []; omega⟩
      rw [take_snoc hx]
      intro z hz
      rcases List.mem_append.1 hz with hz | hz
      · exact hall z hz
      · simp at hz; subst hz; exact hh
  · have hge' : ¬ j < n := by simpa using hge
    rw [List.take_of_length_le (by omega)] at hall
    refine ⟨?_, rfl⟩
    symm; rw [decide_eq_false_iff_not]
    rintro (hh | ⟨t, ht, hh⟩)
    · omega
    · exact hall t ht hh

theorem known12 (w : World) : Calls Tryz.prog 25 #[] w fun e w' => ∃ r : Bool, e = .returned (.bool r) ∧ (r = true ∧ Chg [] w w') := by
  refine go_pomanderlaw12_known _ _ ?_
  unfold W_pomanderlaw12_known
  refine (flow_new w 1 1 4).mono ?_
  rintro _ w1 ⟨r2, r3, rfl, c1, hr⟩
  rw [if_pos (by unfold rightP; decide)] at hr
  obtain ⟨rfl, b, fp, rfl, hF, hfp⟩ := hr
  refine ⟨_, _, rfl, ?_⟩
  intro b2 b1 w5 l2 l1 c5
  have hlt := hF.lt
  have s1 := c1.size
  have s5 := c5.size
  refine (flow_mark (hF.chg c5 (by simp)) (p1 := 13) (p2 := 0) (n := 2) (set := 1) (by unfold i64s; omega) (by omega)).mono ?_
  rintro _ w6 ⟨_, rfl, rfl, fp6, hF6, c6, hf6⟩
  have s6 := c6.size
  have hlt6 := hF6.lt
  refine ⟨_, rfl, Same.of c6 (by simp; exact ⟨⟨by omega, fun hm => by have := hlt _ hm; omega⟩, by omega, fun hm => by have := hlt _ hm; omega⟩), ?_⟩
  refine v_alloc fun b3 w7 e3 h3 c7 => ?_
  refine v_alloc fun b4 w8 e4 h4 c8 => ?_
  have s7 := c7.size
  have s8 := c8.size
  have hT : TouchesAt w8 (fun i => i = b3 ∨ i = b4) (some (⟨b4, 0, none⟩ : Addr)) 1 [((1, 1), [(13, 0)])] := touches_one (p := (13, 0)) (to := (1, 1)) (c8.obj (by simp) h3) h4 (by unfold i64s; simp) (by unfold i64s; simp)
  have hF8 := (hF6.chg c7 (by simp)).chg c8 (by simp)
  refine (flow_apply (c := 1) hF8 hT (fun i hi => by
    have := hlt6 i hi
    rintro (rfl | rfl) <;> omega) (by omega) (by simp)).mono ?_
  rintro _ w9 ⟨_, rfl, rfl, fp9, hF9, c9, hf9⟩
  refine ⟨_, rfl, Same.of c9 (by simp; exact ⟨by omega, fun hm => by
    rcases hf6 _ hm with h | h
    · have := hlt _ h; omega
    · omega⟩), ?_⟩
  refine (flow_Get hF9 (p1 := 1) (p2 := 1) (by unfold i64s; omega)).mono ?_
  rintro _ w10 ⟨r6, r7, rfl, hr⟩
  obtain ⟨hr1, hr2⟩ := hr
  have key : (applyF (markF (flowNew 1 1 4) (13, 0) 2 1) [((1, 1), [(13, 0)])]).g (1, 1) = 1 ∧ applyE (markF (flowNew 1 1 4) (13, 0) 2 1) [((1, 1), [(13, 0)])] = 0 ∧ markE (flowNew 1 1 4) (13, 0) 2 1 = 0 ∧ (applyF (markF (flowNew 1 1 4) (13, 0) 2 1) [((1, 1), [(13, 0)])]).fr = 1 ∧ (applyF (markF (flowNew 1 1 4) (13, 0) 2 1) [((1, 1), [(13, 0)])]).se = 1 := by
    decide +kernel
  obtain ⟨k1, k2, k3, k4, k5⟩ := key
  rw [k4, k5, if_pos (by decide)] at hr2
  refine ⟨_, _, rfl, ?_, ?_⟩
  · rw [k2, k3, hr2.1, hr2.2, k1]; rfl
  · have c06 : Chg [] w w6 := (c1.trans0 c5).trans c6 (fun i hi hlt' => by have := hfp i hi; omega)
    refine ((c06.trans0 c7).trans0 c8).trans c9 (fun i hi hlt' => ?_) |>.trans0 hr1
    rcases hf6 _ hi with h | h
    · have := hfp _ h; omega
    · omega
end Go.Proofs.YtfcfkhbkkfpehaaGreat
end

/- XGood -/
section
/- The document's pairs: rising, none empty, all of places that may be; two such lists that say the same are the same. -/
set_option linter.unusedVariables false
set_option linter.unusedSimpArgs false
namespace Go.Proofs.YtfcfkhbkkfpehaaGreat
open Go Go.RowKit Go.X

theorem ahead_trans {a b c : Int × Int} (h : aheadP a b) (k : aheadP b c) : aheadP a c := by unfold aheadP at *; omega
theorem ahead_irrefl (a : Int × Int) : ¬ aheadP a a := by unfold aheadP; omega
theorem ahead_tri {a b : Int × Int} (h : ¬ aheadP a b) (k : b ≠ a) : aheadP b a := by
  unfold aheadP at *
  by_cases e : a.1 = b.1
  · by_cases e2 : a.2 = b.2
    · exact absurd (Prod.ext e.symm e2.symm) k
    · omega
  · omega
structure Good (fr se : Int) (l : List Pr) : Prop where
  rise : (l.map Prod.fst).Pairwise aheadP
  each : ∀ x ∈ l, x.2 ≠ 0 ∧ mayP fr se x.1
theorem Good.nil (fr se : Int) : Good fr se [] := ⟨by simp, by simp⟩

structure PutG (p : Int × Int) (set : Int) (l : List Pr) (s : List Pr × Bool) : Prop where
  rise : (s.1.map Prod.fst).Pairwise aheadP
  keys : ∀ x ∈ s.1, x ∈ l ∨ (x = (p, set) ∧ set ≠ 0 ∧ ∃ y ∈ l, p = y.1 ∨ aheadP p y.1)
  off : s.2 = false → set ≠ 0 ∧ (∀ y ∈ l, aheadP y.1 p) ∧ ∀ x ∈ s.1, aheadP x.1 p

theorem rise_snoc {l : List Pr} {x : Pr} (h : (l.map Prod.fst).Pairwise aheadP) (hx : ∀ y ∈ l, aheadP y.1 x.1) : ((l ++ [x]).map Prod.fst).Pairwise aheadP := by
  rw [List.map_append, List.pairwise_append]
  refine ⟨h, by simp, fun a ha b hb => ?_⟩
  obtain ⟨y, hy, rfl⟩ := List.mem_map.1 ha
  simp at hb; subst hb
  exact hx y hy
theorem putG_step {p : Int × Int} {set : Int} {l : List Pr} {s : List Pr × Bool} (h : PutG p set l s) {x : Pr} (hx : ∀ y ∈ l, aheadP y.1 x.1) : PutG p set (l ++ [x]) (stepPut p set s x) := by
  have hs : ∀ y ∈ s.1, aheadP y.1 x.1 := fun y hy => by
    rcases h.keys y hy with k | ⟨rfl, _, z, hz, k⟩
    · exact hx y k
    · rcases k with k | k
      · simp only []; rw [k]; exact hx z hz
      · exact ahead_trans k (hx z hz)
  have up : ∀ y ∈ s.1, y ∈ l ++ [x] ∨ (y = (p, set) ∧ set ≠ 0 ∧ ∃ z ∈ l ++ [x], p = z.1 ∨ aheadP p z.1) := fun y hy => by
    rcases h.keys y hy with k | ⟨k1, k0, z, hz, k2⟩
    · exact .inl (by simp [k])
    · exact .inr ⟨k1, k0, z, by simp [hz], k2⟩
  unfold stepPut
  cases hf : s.2 with
  | true =>
    simp only [Bool.not_true, Bool.false_and, Bool.false_eq_true, if_false, hf, and_false, reduceCtorEq]
    by_cases hxp : x.1 = p
    · rw [if_pos hxp]
      exact ⟨h.rise, up, fun h => by cases h⟩
    · rw [if_neg hxp]
      refine ⟨rise_snoc h.rise hs, fun y hy => ?_, fun h => by cases h⟩
      rcases List.mem_append.1 hy with hy | hy
      · exact up y hy
      · exact .inl (by simp at hy; simp [hy])
  | false =>
    obtain ⟨h0, h1, h2⟩ := h.off hf
    by_cases ha : aheadP p x.1
    · have hxp : x.1 ≠ p := fun e => ahead_irrefl p (by rw [e] at ha; exact ha)
      simp only [Bool.not_false, Bool.true_and, ha, decide_true, if_true, hxp, if_false, false_and]
      refine ⟨rise_snoc (rise_snoc h.rise h2) fun y hy => ?_, fun y hy => ?_, fun h => by cases h⟩
      · rcases List.mem_append.1 hy with hy | hy
        · exact hs y hy
        · simp at hy; subst hy; exact ha
      · rcases List.mem_append.1 hy with hy | hy
        · rcases List.mem_append.1 hy with hy | hy
          · exact up y hy
          · simp at hy; exact .inr ⟨hy, h0, x, by simp, .inr ha⟩
        · exact .inl (by simp at hy; simp [hy])
    · simp only [Bool.not_false, Bool.true_and, ha, decide_false, Bool.false_eq_true, if_false, hf, and_true]
      by_cases hxp : x.1 = p
      · simp only [hxp, if_true]
        refine ⟨rise_snoc h.rise h2, fun y hy => ?_, fun h => by cases h⟩
        rcases List.mem_append.1 hy with hy | hy
        · exact up y hy
        · simp at hy; exact .inr ⟨hy, h0, x, by simp, .inl hxp.symm⟩
      · simp only [hxp, if_false]
        have hxa : aheadP x.1 p := ahead_tri ha hxp
        refine ⟨rise_snoc h.rise hs, fun y hy => ?_, fun _ => ⟨h0, fun y hy => ?_, fun y hy => ?_⟩⟩
        · rcases List.mem_append.1 hy with hy | hy
          · exact up y hy
          · exact .inl (by simp at hy; simp [hy])
        · rcases List.mem_append.1 hy with hy | hy
          · exact h1 y hy
          · simp at hy; subst hy; exact hxa
        · rcases List.mem_append.1 hy with hy | hy
          · exact h2 y hy
          · simp at hy; subst hy; exact hxa
theorem putG_fold (p : Int × Int) (set : Int) : ∀ (n : Nat) (l : List Pr), l.length = n → (l.map Prod.fst).Pairwise aheadP → PutG p set l (foldPut p set l)
  | 0, l, hl, _ => by
    obtain rfl := List.eq_nil_of_length_eq_zero hl
    exact ⟨by simp [foldPut], by simp [foldPut], fun h => ⟨by simpa [foldPut] using h, by simp, by simp [foldPut]⟩⟩
  | n + 1, l, hl, hr => by
    have hne : l ≠ [] := fun e => by subst e; simp at hl
    obtain ⟨l', x, rfl⟩ : ∃ l' x, l = l' ++ [x] := ⟨l.dropLast, l.getLast hne, (List.dropLast_concat_getLast hne).symm⟩
    rw [List.map_append, List.pairwise_append] at hr
    rw [foldPut_snoc]
    refine putG_step (putG_fold p set n l' (by simpa using hl) hr.1) fun y hy => ?_
    exact hr.2.2 y.1 (List.mem_map.2 ⟨y, hy, rfl⟩) x.1 (by simp)
theorem Good.put {fr se : Int} {l : List Pr} (h : Good fr se l) {p : Int × Int} {set : Int} (hp : mayP fr se p) : Good fr se (refPut p set l) := by
  have hg := putG_fold p set _ l rfl h.rise
  have hk : ∀ x ∈ (foldPut p set l).1, x.2 ≠ 0 ∧ mayP fr se x.1 := fun x hx => by
    rcases hg.keys x hx with k | ⟨rfl, k0, _⟩
    · exact h.each x k
    · exact ⟨k0, hp⟩
  unfold refPut
  simp only []
  cases hf : (foldPut p set l).2 with
  | true => exact ⟨by simpa using hg.rise, by simpa using hk⟩
  | false =>
    obtain ⟨h0, h1, h2⟩ := hg.off hf
    simp only [Bool.false_eq_true, if_false]
    refine ⟨rise_snoc hg.rise h2, fun x hx => ?_⟩
    rcases List.mem_append.1 hx with hx | hx
    · exact hk x hx
    · simp at hx; subst hx; exact ⟨h0, hp⟩
theorem Good.fill {fr se : Int} {p : Int × Int} {set : Int} {l : List Pr} (h : Good fr se l) : ∀ (n : Nat), (∀ i : Nat, i < n → mayP fr se (p.1, p.2 + i)) → Good fr se (refFill p set l n)
  | 0, _ => h
  | n + 1, hp => (Good.fill h n fun i hi => hp i (by omega)).put (hp n (by omega))
theorem Good.all {fr se : Int} {g : Int × Int → Int} : ∀ (ts : List Tch) {l : List Pr}, Good fr se l → rightAll fr se ts → Good fr se (putAll g ts l)
  | [], _, h, _ => h
  | t :: ts, l, h, hr => by
    show Good fr se (putAll g ts (putStep g l t))
    refine Good.all ts ?_ fun u hu => hr u (by simp [hu])
    unfold putStep
    split
    · exact h
    · rename_i hne
      exact h.put ((hr t (by simp)).1.resolve_left hne)
theorem Good.step {R : Rf} (h : Good R.fr R.se R.pairs) (a : ActV) : Good (stepR R a).fr (stepR R a).se (stepR R a).pairs := by
  unfold stepR
  split
  · unfold refMark
    split
    · rename_i he
      refine h.fill _ fun i hi => ?_
      unfold refMarkE at he
      split at he
      · cases he
      · rename_i k1
        split at he
        · cases he
        · rename_i k2
          have m1 : mayP R.fr R.se a.p := by
            apply Classical.byContradiction; intro k; exact k1 (.inl k)
          have m2 : mayP R.fr R.se (a.p.1, a.p.2 + a.n - 1) := by
            apply Classical.byContradiction; intro k; exact k2 (.inr (.inr ⟨by omega, k⟩))
          obtain ⟨q1, q2, q3, q4⟩ := m1
          obtain ⟨_, _, _, q5⟩ := m2
          simp only [] at q5
          exact ⟨q1, q2, by simp only []; omega, by simp only []; omega⟩
    · exact h
  · unfold refApply
    split
    · rename_i hr
      simp only []
      split
      · exact h.all _ hr
      · exact h
    · exact h

theorem Good.look {fr se : Int} {l : List Pr} (h : Good fr se l) (p : Int × Int) : p ∈ l.map Prod.fst ↔ lookPr l p ≠ 0 := by
  unfold lookPr
  cases hl : lookK p l with
  | none =>
    simp only [Option.getD_none, ne_eq, not_true, iff_false]
    intro hm
    obtain ⟨x, hx, e⟩ := List.mem_map.1 hm
    exact lookK_none.1 hl x hx e
  | some v =>
    have hm := lookK_mem hl
    simp only [Option.getD_some]
    exact ⟨fun _ => (h.each _ hm).1, fun _ => List.mem_map.2 ⟨_, hm, rfl⟩⟩
theorem Good.nodup {fr se : Int} {l : List Pr} (h : Good fr se l) : (l.map Prod.fst).Nodup := List.Pairwise.imp (R := aheadP) (S := (· ≠ ·)) (fun {a b} hab e => by subst e; exact ahead_irrefl a hab) h.rise
theorem Good.eq {fr se : Int} {l : List Pr} (h : Good fr se l) : l = (l.map Prod.fst).map fun p => (p, lookPr l p) := by
  rw [List.map_map]
  refine (List.map_id l).symm.trans (List.map_congr_left fun x hx => ?_)
  have := (lookK_iff h.nodup).2 (show (x.1, x.2) ∈ l from hx)
  simp only [Function.comp, id_eq, lookPr, this, Option.getD_some]
end Go.Proofs.YtfcfkhbkkfpehaaGreat
end

/- XPages -/
section
/- Pages of sets, the sets that are kept: the flow's, the document's. -/
set_option linter.unusedVariables false
set_option linter.unusedSimpArgs false
namespace Go.Proofs.YtfcfkhbkkfpehaaGreat
open Go Go.RowKit Go.X Go.XR

/-! ### The document's pages -/
end Go.Proofs.YtfcfkhbkkfpehaaGreat
end

/- XMisc -/
section
/- Small lemmas of several laws. -/
set_option linter.unusedVariables false
set_option linter.unusedSimpArgs false
set_option maxRecDepth 100000
namespace Go.Proofs.YtfcfkhbkkfpehaaGreat
open Go Go.RowKit Go.X

theorem func_ne_nil130 (f : Nat) (lb : Array Value) (x y : Operand) (w : World) : ((do eqGuard .eql 88 x y (.func (.func f) #[] lb) .nilFunc; binOp .eql 88 (.func (.func f) #[] lb) .nilFunc : Sem Value)).run Tryz.prog w = .ok (.bool false) w := by
  simp only [binOp]
  have e : (Op.equalIn Op.maxDepth 88 (.func (.func f) #[] lb) .nilFunc).run Tryz.prog w = .ok false w := by
    rw [show Op.maxDepth = 9999 + 1 from rfl]
    unfold Op.equalIn
    simp [run_underlying Tryz.underlying88, Result.andThen, go_sem]
  simp [eqGuard, Op.equal, e, run_underlying Tryz.underlying88, Result.andThen, go_sem]
end Go.Proofs.YtfcfkhbkkfpehaaGreat
end

/- XSame12 -/
section
/- The law's helper same: a flow has just the document's sets. -/
set_option linter.unusedVariables false
set_option linter.unusedSimpArgs false
set_option maxRecDepth 100000
namespace Go.Proofs.YtfcfkhbkkfpehaaGreat
open Go Go.RowKit Go.X Go.XR

end Go.Proofs.YtfcfkhbkkfpehaaGreat
end

/- XHfnil -/
section
set_option linter.unusedVariables false
set_option linter.unusedSimpArgs false
namespace Go.Proofs.YtfcfkhbkkfpehaaGreat
open Go Go.X

/- pomander/pomanderlaw12.FlowNil -/
def W_pomanderlaw12_FlowNil (a1 : Int) (a2 : Int) (a3 : Int) (a4 : Int) (a5 : Int) (a6 : Option Addr) (a6n : Nat) (a6c : Nat) (w : World) (R : Bool → World → Prop) : Prop :=
  ∀ (b1 : Nat) (w1 : World), (w.heap.size ≤ b1 ∧ b1 < w1.heap.size) → Chg [] w w1 → (∀ b2 : Nat, b2 = World.size w1 → ∀ w2 : World, w2 = World.alloc w1 (.cells #[.int .i64 a1, .int .i64 a2, .int .i64 a3, .int .i64 a4, .int .u32 a5, .slice a6 a6n a6c] 79) → (Calls Tryz.prog 24 #[.slice (some (⟨b2, 0, none⟩ : Addr)) 1 1] w2 fun e w3 => ∃ (r2 : Bool), e = .returned (.bool r2) ∧ (Same w2 w3 [b1] ∧ ((r2 = true → Calls Tryz.prog 25 #[] w3 fun e w4 => ∃ (r3 : Bool), e = .returned (.bool r3) ∧ (Same w3 w4 [b1] ∧ (R r3 w4))) ∧ (r2 = false → ∀ b3 : Nat, b3 = World.size w3 → ∀ w5 : World, w5 = World.alloc w3 (.cells #[.int .i64 0, .int .i64 0, .pointer none, .pointer none, .pointer none, .map none] 101) → (Calls Tryz.prog 35 #[.pointer none, .agg #[.int .i64 a3, .int .i64 a4]] w5 fun e w6 => ∃ (r4 : Int) (r5 : Int), e = .returned (.tuple #[.int .u32 r4, .int .i64 r5]) ∧ (Same w5 w6 [b1] ∧ (Calls Tryz.prog 31 #[.pointer (some (⟨b3, 0, none⟩ : Addr)), .agg #[.int .i64 a3, .int .i64 a4], .int .i64 a2, .int .u32 a5] w6 fun e w7 => ∃ (r6 : Int), e = .returned (.int .i64 r6) ∧ (Same w6 w7 [b1] ∧ (Calls Tryz.prog 32 #[.pointer none, .slice a6 a6n a6c] w7 fun e w8 => ∃ (r7 : Int), e = .returned (.int .i64 r7) ∧ (Same w7 w8 [b1] ∧ (Calls Tryz.prog 38 #[.pointer (some (⟨b3, 0, none⟩ : Addr)), .slice a6 a6n a6c] w8 fun e w9 => ∃ (r8 : Int) (r9 : Int), e = .returned (.tuple #[.int .u32 r8, .int .i64 r9]) ∧ (Calls Tryz.prog 36 #[.pointer none] w9 fun e w10 => ∃ (r10 : Int) (r11 : Int), e = .returned (.tuple #[.int .i64 r10, .int .i64 r11]) ∧ (∀ (b4 : Nat) (w12 : World), (w10.heap.size ≤ b4 ∧ b4 < w12.heap.size) → Chg [] w10 w12 → (Calls Tryz.prog 34 #[.pointer (some (⟨b3, 0, none⟩ : Addr))] w12 fun e w13 => ∃ (r12 : Value), e = .returned (r12) ∧ (Same w12 w13 [b4] ∧ (∃ (t1 : Bool), (∀ w : World, ((do eqGuard .eql 88 (.tmp 54) (.const (.nilFunc)) (r12) (.nilFunc); binOp .eql 88 (r12) (.nilFunc) : Sem Value)).run Tryz.prog w = .ok (.bool t1) w) ∧ ((t1 = true → R false w13) ∧ (t1 = false → Calls Tryz.prog 34 #[.pointer (some (⟨b3, 0, none⟩ : Addr))] w13 fun e w14 => ∃ (r13 : Value), e = .returned (r13) ∧ (Same w13 w14 [b4] ∧ (∃ (S1 Sp1 : List (Int × Int × Int) → Prop) (keep1 : List Nat), XR.IsFn Tryz.prog r13 ∧ XR.Iterates Tryz.prog r13 (fun x : Int × Int × Int => #[.agg #[.int .i64 x.1, .int .i64 x.2.1], .int .u32 x.2.2]) S1 Sp1 keep1 w14 ∧ (∀ i_ ∈ keep1, i_ < w14.heap.size) ∧ ∃ (I1 : Int → List Nat → List (Int × Int × Int) → World → Prop), (∀ (c1 : Int) (pre_ : List (Int × Int × Int)), XR.Stab w14 (fun O_ w_ => I1 c1 O_ pre_ w_)) ∧ (∀ (O1 : List Nat) (w15 : World), Chg [] w14 w15 → XR.InO w14 O1 w15 → I1 0 O1 ([]) w15) ∧ (∀ (l1 : Nat) (O1 : List Nat) (pre1 : List (Int × Int × Int)) (x1 : Int) (x2 : Int) (x3 : Int) (c1 : Int) (w15 : World), XR.InO w14 O1 w15 → l1 ∈ O1 → Sp1 (pre1 ++ [(x1, x2, x3)]) → I1 c1 O1 pre1 w15 → (∀ (w16 : World), Chg [l1] w15 w16 → (∀ (w17 : World), Chg [b4] w16 w17 → ((w16.heap.size ≤ w17.heap.size ∧ I1 (IntKind.wrap .i64 (c1 + 1)) O1 (pre1 ++ [(x1, x2, x3)]) w17 ∧ Same w16 w17 (keep1 ++ O1)))))) ∧ (∀ (d1 : Nat) (O2 : List Nat) (xs1 : List (Int × Int × Int)) (c1 : Int) (w18 : World), XR.InO w14 O2 w18 → d1 ∈ O2 → S1 xs1 → I1 c1 O2 xs1 w18 → (Calls Tryz.prog 26 #[.agg #[.int .i64 1, .int .i64 1], .int .i64 1] w18 fun e w19 => ∃ (r14 : Option Addr) (r15 : Int), e = .returned (.tuple #[.pointer r14, .int .i64 r15]) ∧ (Same w18 w19 [b4, d1] ∧ (∃ J1 : Bool → World → Prop, (∀ (b5 : Bool) (w20 : World), J1 b5 w20 → ∃ J2 : Bool → World → Prop, (∀ (b6 : Bool) (w21 : World), J2 b6 w21 → ∃ J3 : Bool → World → Prop, (∀ (b7 : Bool) (w23 : World), J3 b7 w23 → ∃ J4 : Bool → World → Prop, (∀ (b8 : Bool) (w25 : World), J4 b8 w25 → ∃ J5 : Bool → World → Prop, (∀ (b9 : Bool) (w27 : World), J5 b9 w27 → ∃ J6 : Bool → World → Prop, (∀ (b10 : Bool) (w29 : World), J6 b10 w29 → ∃ J7 : Bool → World → Prop, (∀ (b11 : Bool) (w31 : World), J7 b11 w31 → ∀ w33 : World, Chg [d1] w31 w33 → (R b11 w33)) ∧ ((b10 = true → Calls Tryz.prog 25 #[] w29 fun e w32 => ∃ (r21 : Bool), e = .returned (.bool r21) ∧ (Same w29 w32 [d1] ∧ (J7 r21 w32))) ∧ (b10 = false → J7 false w29))) ∧ ((b9 = true → Calls Tryz.prog 23 #[.pointer r14, .pointer (some (⟨b3, 0, none⟩ : Addr))] w27 fun e w30 => ∃ (r20 : Bool), e = .returned (.bool r20) ∧ (Same w27 w30 [d1] ∧ (J6 (!r20) w30))) ∧ (b9 = false → J6 false w27))) ∧ ((b8 = true → Calls Tryz.prog 23 #[.pointer none, .pointer r14] w25 fun e w28 => ∃ (r19 : Bool), e = .returned (.bool r19) ∧ (Same w25 w28 [d1] ∧ (J5 (!r19) w28))) ∧ (b8 = false → J5 false w25))) ∧ ((b7 = true → Calls Tryz.prog 23 #[.pointer none, .pointer (some (⟨b3, 0, none⟩ : Addr))] w23 fun e w26 => ∃ (r18 : Bool), e = .returned (.bool r18) ∧ (Same w23 w26 [d1] ∧ (J4 r18 w26))) ∧ (b7 = false → J4 false w23))) ∧ ((b6 = true → Calls Tryz.prog 15 #[.pointer (some (⟨b3, 0, none⟩ : Addr))] w21 fun e w24 => ∃ (r17 : Option Addr), e = .returned (.pointer r17) ∧ (Same w21 w24 [d1] ∧ (J3 (Option.isNone r17) w24))) ∧ (b6 = false → J3 false w21))) ∧ ((b5 = true → Calls Tryz.prog 33 #[.pointer none] w20 fun e w22 => ∃ (r16 : Option Addr) (r16n : Nat) (r16c : Nat), e = .returned (.slice r16 r16n r16c) ∧ (Same w20 w22 [d1] ∧ (J2 ((r16n : Int) == 0) w22))) ∧ (b5 = false → J2 false w20))) ∧ (((((r5 == 1 && r6 == 1) && r7 == 1) && r9 == 1) = true → J1 ((IntKind.wrap .i64 ((IntKind.wrap .i64 (r10 + r11)) + c1)) == 0) w19) ∧ ((((r5 == 1 && r6 == 1) && r7 == 1) && r9 == 1) = false → J1 false w19)))))))))))))))))))))))))))
set_option maxRecDepth 100000 in
theorem go_pomanderlaw12_FlowNil (a1 : Int) (a2 : Int) (a3 : Int) (a4 : Int) (a5 : Int) (a6 : Option Addr) (a6n : Nat) (a6c : Nat) (w : World) (R : Bool → World → Prop) (h : W_pomanderlaw12_FlowNil a1 a2 a3 a4 a5 a6 a6n a6c w R) : Calls Tryz.prog 9 #[.agg #[.int .i64 a1, .int .i64 a2, .int .i64 a3, .int .i64 a4, .int .u32 a5, .slice a6 a6n a6c]] w (fun e w' => ∃ (r1 : Bool), e = .returned (.bool r1) ∧ R r1 w') := by
  unfold W_pomanderlaw12_FlowNil at h
  refine XR.enterM (N := 120) Tryz.func9 rfl rfl ?_
  refine CW.seq ?_
  refine CW.region fun L hL => ?_
  obtain ⟨b1, hb_b1⟩ : ∃ b1, b1 = World.size w := ⟨_, rfl⟩
  obtain ⟨w1, hw_w1⟩ : ∃ w1, w1 = World.alloc w (.cells #[.int .i64 a1, .int .i64 a2, .int .i64 a3, .int .i64 a4, .int .u32 a5, .slice a6 a6n a6c] 79) := ⟨_, rfl⟩
  refine LW.val hL rfl (Wants.free rfl) rfl (boxE hb_b1 hw_w1 (Vl.box (v := .agg #[.int .i64 a1, .int .i64 a2, .int .i64 a3, .int .i64 a4, .int .u32 a5, .slice a6 a6n a6c]) rfl)) ?_
  have hB := Boxes.alloc (cs := [.int .i64 a1, .int .i64 a2, .int .i64 a3, .int .i64 a4, .int .u32 a5, .slice a6 a6n a6c]) (T := 79) (Boxes.nil w) hb_b1 hw_w1
  have hlo_b1 := sil_lo (Chg.refl [] w) hb_b1
  have hc_w1 := sil_alloc (Chg.refl [] w) hw_w1
  refine LW.rd hL rfl (Wants.free rfl) rfl (Rd.assign (v := .bool false) rfl) ?_
  refine LW.nil hL rfl ?_
  refine NW.then ?_
  refine CW.seq ?_
  refine CW.seq ?_
  refine CW.region fun L hL => ?_
  refine LW.rd hL rfl (Wants.free rfl) rfl (Rd.ldN (cs := [.int .i64 a1, .int .i64 a2, .int .i64 a3, .int .i64 a4, .int .u32 a5, .slice a6 a6n a6c]) rfl (by kernel_rfl) (by kernel_rfl) (cellsS (box_cells (hB.at (i := 0) rfl) rfl))) ?_
  replace h := h b1 w1 ⟨hlo_b1, lt_of_heap (hB.at (i := 0) rfl)⟩ hc_w1
  obtain ⟨b2, hb_b2⟩ : ∃ b2, b2 = World.size w1 := ⟨_, rfl⟩
  obtain ⟨w2, hw_w2⟩ : ∃ w2, w2 = World.alloc w1 (.cells #[.int .i64 a1, .int .i64 a2, .int .i64 a3, .int .i64 a4, .int .u32 a5, .slice a6 a6n a6c] 79) := ⟨_, rfl⟩
  replace h := h b2 hb_b2 w2 hw_w2
  refine LW.val hL rfl (Wants.free rfl) rfl (sliceE (n := 1) hb_b2 hw_w2 (fun w => Vl.buildSlice (vs := [(0, .agg #[.int .i64 a1, .int .i64 a2, .int .i64 a3, .int .i64 a4, .int .u32 a5, .slice a6 a6n a6c])]) rfl (by kernel_rfl))) ?_
  replace hB := hB.grow hw_w2
  refine LW.call hL rfl (Wants.free rfl) rfl (Cl.fn (f := 24) rfl Tryz.func24 (by kernel_rfl) rfl) h (fun e w3 h_ => ?_)
  clear h
  obtain ⟨r2, rfl, h⟩ := h_
  obtain ⟨hsm1, h⟩ := h
  replace hB := Boxes.sameS hB hsm1 (by simp)
  refine ⟨_, rfl, ?_⟩
  refine LW.nil hL rfl ?_
  refine NW.then ?_
  refine CW.cond rfl (fun hb1 => ?_) (fun hb1 => ?_)
  · replace h := h.1 hb1
    refine CW.seq ?_
    refine CW.region fun L hL => ?_
    refine LW.call hL rfl (Wants.free rfl) rfl (Cl.fn (f := 25) rfl Tryz.func25 (by kernel_rfl) rfl) h (fun e w4 h_ => ?_)
    clear h
    obtain ⟨r3, rfl, h⟩ := h_
    obtain ⟨hsm2, h⟩ := h
    replace hB := Boxes.sameS hB hsm2 (by simp)
    refine ⟨_, rfl, ?_⟩
    refine LW.rd hL rfl (Wants.free rfl) rfl (Rd.assign (v := .bool r3) rfl) ?_
    refine LW.nil hL rfl ?_
    refine NW.then ?_
    refine CW.ret ?_
    refine RW.then ?_
    exact XR.res0M (vs := [.bool r3]) (by exact (ResOK.t rfl ResOK.nil)) rfl ⟨r3, rfl, h⟩
  · replace h := h.2 hb1
    refine CW.skip ?_
    refine NW.then ?_
    refine CW.seq ?_
    refine CW.region fun L hL => ?_
    refine LW.rd hL rfl (Wants.free rfl) rfl (Rd.assign (v := .pointer none) rfl) ?_
    refine LW.nil hL rfl ?_
    refine NW.then ?_
    refine CW.seq ?_
    refine CW.region fun L hL => ?_
    refine LW.rd hL rfl (Wants.free rfl) rfl (Rd.build (v := .agg #[.int .i64 0, .int .i64 0, .pointer none, .pointer none, .pointer none, .map none]) rfl (fun _ => by kernel_rfl)) ?_
    obtain ⟨b3, hb_b3⟩ : ∃ b3, b3 = World.size w3 := ⟨_, rfl⟩
    obtain ⟨w5, hw_w5⟩ : ∃ w5, w5 = World.alloc w3 (.cells #[.int .i64 0, .int .i64 0, .pointer none, .pointer none, .pointer none, .map none] 101) := ⟨_, rfl⟩
    replace h := h b3 hb_b3 w5 hw_w5
    refine LW.val hL rfl (Wants.free rfl) rfl (boxE hb_b3 hw_w5 (Vl.box (v := .agg #[.int .i64 0, .int .i64 0, .pointer none, .pointer none, .pointer none, .map none]) rfl)) ?_
    replace hB := hB.grow hw_w5
    refine LW.rd hL rfl (Wants.free rfl) rfl (Rd.assign (v := .pointer (some (⟨b3, 0, none⟩ : Addr))) rfl) ?_
    refine LW.nil hL rfl ?_
    refine NW.then ?_
    refine CW.seq ?_
    refine CW.region fun L hL => ?_
    refine LW.rd hL rfl (Wants.free rfl) rfl (Rd.move (v := .pointer none) rfl) ?_
    refine LW.rd hL rfl (Wants.free rfl) rfl (Rd.fa (v := .pointer (some (⟨b1, 2, none⟩ : Addr))) rfl (fun _ => by kernel_rfl)) ?_
    refine LW.rd hL rfl (Wants.free rfl) rfl (Rd.ldN (cs := [.int .i64 a3, .int .i64 a4]) rfl (by kernel_rfl) (by kernel_rfl) (cellsS (box_cells (hB.at (i := 0) rfl) rfl))) ?_
    refine LW.call hL rfl (Wants.free rfl) rfl (Cl.fn (f := 35) rfl Tryz.func35 (by kernel_rfl) rfl) h (fun e w6 h_ => ?_)
    clear h
    obtain ⟨r4, r5, rfl, h⟩ := h_
    obtain ⟨hsm3, h⟩ := h
    replace hB := Boxes.sameS hB hsm3 (by simp)
    refine ⟨_, rfl, ?_⟩
    refine LW.rd hL rfl (Wants.free rfl) rfl (Rd.move (v := .tuple #[.int .u32 r4, .int .i64 r5]) rfl) ?_
    refine LW.rd hL rfl (Wants.free rfl) rfl (Rd.extract (v := .int .u32 r4) rfl rfl) ?_
    refine LW.rd hL rfl (Wants.free rfl) rfl (Rd.extract (v := .int .i64 r5) rfl rfl) ?_
    refine LW.rd hL rfl (Wants.free rfl) rfl (Rd.assign (v := .int .u32 r4) rfl) ?_
    refine LW.rd hL rfl (Wants.free rfl) rfl (Rd.assign (v := .int .i64 r5) rfl) ?_
    refine LW.nil hL rfl ?_
    refine NW.then ?_
    refine CW.seq ?_
    refine CW.region fun L hL => ?_
    refine LW.rd hL rfl (Wants.free rfl) rfl (Rd.move (v := .pointer (some (⟨b3, 0, none⟩ : Addr))) rfl) ?_
    refine LW.rd hL rfl (Wants.free rfl) rfl (Rd.fa (v := .pointer (some (⟨b1, 2, none⟩ : Addr))) rfl (fun _ => by kernel_rfl)) ?_
    refine LW.rd hL rfl (Wants.free rfl) rfl (Rd.ldN (cs := [.int .i64 a3, .int .i64 a4]) rfl (by kernel_rfl) (by kernel_rfl) (cellsS (box_cells (hB.at (i := 0) rfl) rfl))) ?_
    refine LW.rd hL rfl (Wants.free rfl) rfl (Rd.fa (v := .pointer (some (⟨b1, 1, none⟩ : Addr))) rfl (fun _ => by kernel_rfl)) ?_
    refine LW.rd hL rfl (Wants.free rfl) rfl (Rd.ld (v := .int .i64 a2) rfl (by kernel_rfl) (eqs (box_cell (hB.at (i := 0) rfl) rfl))) ?_
    refine LW.rd hL rfl (Wants.free rfl) rfl (Rd.fa (v := .pointer (some (⟨b1, 4, none⟩ : Addr))) rfl (fun _ => by kernel_rfl)) ?_
    refine LW.rd hL rfl (Wants.free rfl) rfl (Rd.ld (v := .int .u32 a5) rfl (by kernel_rfl) (eqs (box_cell (hB.at (i := 0) rfl) rfl))) ?_
    refine LW.call hL rfl (Wants.free rfl) rfl (Cl.fn (f := 31) rfl Tryz.func31 (by kernel_rfl) rfl) h (fun e w7 h_ => ?_)
    clear h
    obtain ⟨r6, rfl, h⟩ := h_
    obtain ⟨hsm4, h⟩ := h
    replace hB := Boxes.sameS hB hsm4 (by simp)
    refine ⟨_, rfl, ?_⟩
    refine LW.rd hL rfl (Wants.free rfl) rfl (Rd.assign (v := .int .i64 r6) rfl) ?_
    refine LW.nil hL rfl ?_
    refine NW.then ?_
    refine CW.seq ?_
    refine CW.region fun L hL => ?_
    refine LW.rd hL rfl (Wants.free rfl) rfl (Rd.move (v := .pointer none) rfl) ?_
    refine LW.rd hL rfl (Wants.free rfl) rfl (Rd.fa (v := .pointer (some (⟨b1, 5, none⟩ : Addr))) rfl (fun _ => by kernel_rfl)) ?_
    refine LW.rd hL rfl (Wants.free rfl) rfl (Rd.ld (v := .slice a6 a6n a6c) rfl (by kernel_rfl) (eqs (box_cell (hB.at (i := 0) rfl) rfl))) ?_
    refine LW.call hL rfl (Wants.free rfl) rfl (Cl.fn (f := 32) rfl Tryz.func32 (by kernel_rfl) rfl) h (fun e w8 h_ => ?_)
    clear h
    obtain ⟨r7, rfl, h⟩ := h_
    obtain ⟨hsm5, h⟩ := h
    replace hB := Boxes.sameS hB hsm5 (by simp)
    refine ⟨_, rfl, ?_⟩
    refine LW.rd hL rfl (Wants.free rfl) rfl (Rd.assign (v := .int .i64 r7) rfl) ?_
    refine LW.nil hL rfl ?_
    refine NW.then ?_
    refine CW.seq ?_
    refine CW.region fun L hL => ?_
    refine LW.rd hL rfl (Wants.free rfl) rfl (Rd.move (v := .pointer (some (⟨b3, 0, none⟩ : Addr))) rfl) ?_
    refine LW.rd hL rfl (Wants.free rfl) rfl (Rd.fa (v := .pointer (some (⟨b1, 5, none⟩ : Addr))) rfl (fun _ => by kernel_rfl)) ?_
    refine LW.rd hL rfl (Wants.free rfl) rfl (Rd.ld (v := .slice a6 a6n a6c) rfl (by kernel_rfl) (eqs (box_cell (hB.at (i := 0) rfl) rfl))) ?_
    refine LW.call hL rfl (Wants.free rfl) rfl (Cl.fn (f := 38) rfl Tryz.func38 (by kernel_rfl) rfl) h (fun e w9 h_ => ?_)
    clear h
    obtain ⟨r8, r9, rfl, h⟩ := h_
    refine ⟨_, rfl, ?_⟩
    refine LW.rd hL rfl (Wants.free rfl) rfl (Rd.move (v := .tuple #[.int .u32 r8, .int .i64 r9]) rfl) ?_
    refine LW.rd hL rfl (Wants.free rfl) rfl (Rd.extract (v := .int .u32 r8) rfl rfl) ?_
    refine LW.rd hL rfl (Wants.free rfl) rfl (Rd.extract (v := .int .i64 r9) rfl rfl) ?_
    refine LW.rd hL rfl (Wants.free rfl) rfl (Rd.assign (v := .int .u32 r8) rfl) ?_
    refine LW.rd hL rfl (Wants.free rfl) rfl (Rd.assign (v := .int .i64 r9) rfl) ?_
    refine LW.nil hL rfl ?_
    refine NW.then ?_
    refine CW.seq ?_
    refine CW.region fun L hL => ?_
    refine LW.rd hL rfl (Wants.free rfl) rfl (Rd.move (v := .pointer none) rfl) ?_
    refine LW.call hL rfl (Wants.free rfl) rfl (Cl.fn (f := 36) rfl Tryz.func36 (by kernel_rfl) rfl) h (fun e w10 h_ => ?_)
    clear h
    obtain ⟨r10, r11, rfl, h⟩ := h_
    refine ⟨_, rfl, ?_⟩
    refine LW.rd hL rfl (Wants.free rfl) rfl (Rd.move (v := .tuple #[.int .i64 r10, .int .i64 r11]) rfl) ?_
    refine LW.rd hL rfl (Wants.free rfl) rfl (Rd.extract (v := .int .i64 r10) rfl rfl) ?_
    refine LW.rd hL rfl (Wants.free rfl) rfl (Rd.extract (v := .int .i64 r11) rfl rfl) ?_
    refine LW.rd hL rfl (Wants.free rfl) rfl (Rd.assign (v := .int .i64 r10) rfl) ?_
    refine LW.rd hL rfl (Wants.free rfl) rfl (Rd.assign (v := .int .i64 r11) rfl) ?_
    refine LW.nil hL rfl ?_
    refine NW.then ?_
    refine CW.seq ?_
    refine CW.region fun L hL => ?_
    obtain ⟨b4, hb_b4⟩ : ∃ b4, b4 = World.size w10 := ⟨_, rfl⟩
    obtain ⟨w11, hw_w11⟩ : ∃ w11, w11 = World.alloc w10 (.cells #[.int .i64 0] 3) := ⟨_, rfl⟩
    refine LW.val hL rfl (Wants.free rfl) rfl (boxE hb_b4 hw_w11 (Vl.alloc (z := .int .i64 0) (by kernel_rfl))) ?_
    have hB := Boxes.alloc (cs := [.int .i64 0]) (T := 3) (Boxes.nil w10) hb_b4 hw_w11
    have hlo_b4 := sil_lo (Chg.refl [] w10) hb_b4
    have hc_w11 := sil_alloc (Chg.refl [] w10) hw_w11
    obtain ⟨w12, hw_w12⟩ : ∃ x, x = World.setCell w11 (⟨b4, 0, none⟩ : Addr) (.int .i64 0) := ⟨_, rfl⟩
    refine LW.eff hL rfl (Wants.free rfl) rfl (stE hw_w12 (Ef.st rfl rfl rfl (by kernel_rfl) (box_cell (v := .int .i64 0) (hB.at (i := 0) rfl) rfl) (free_of (hB.at (i := 0) rfl) 0))) ?_
    replace hB : Boxes w12 [(b4, [.int .i64 0], 3)] := Boxes.store1  (i := 0) (o := 0) hB rfl rfl rfl rfl hw_w12
    have hc_w12 := sil_new hc_w11 (sil_c1 hw_w12) hlo_b4
    refine LW.nil hL rfl ?_
    refine NW.then ?_
    refine CW.seq ?_
    refine CW.seq ?_
    refine CW.region fun L hL => ?_
    refine LW.rd hL rfl (Wants.free rfl) rfl (Rd.move (v := .pointer (some (⟨b3, 0, none⟩ : Addr))) rfl) ?_
    replace h := h b4 w12 ⟨hlo_b4, lt_of_heap (hB.at (i := 0) rfl)⟩ hc_w12
    refine LW.call hL rfl (Wants.free rfl) rfl (Cl.fn (f := 34) rfl Tryz.func34 (by kernel_rfl) rfl) h (fun e w13 h_ => ?_)
    clear h
    obtain ⟨r12, rfl, h⟩ := h_
    obtain ⟨hsm6, h⟩ := h
    replace hB := Boxes.sameS hB hsm6 (by simp)
    refine ⟨_, rfl, ?_⟩
    obtain ⟨t1, hx1, h⟩ := h
    refine LW.rd hL rfl (Wants.free rfl) rfl (Rd.bin (v := .bool t1) rfl rfl hx1) ?_
    refine LW.nil hL rfl ?_
    refine NW.then ?_
    refine CW.cond rfl (fun hb2 => ?_) (fun hb2 => ?_)
    · replace h := h.1 hb2
      refine CW.seq ?_
      refine CW.region fun L hL => ?_
      refine LW.rd hL rfl (Wants.free rfl) rfl (Rd.assign (v := .bool false) rfl) ?_
      refine LW.nil hL rfl ?_
      refine NW.then ?_
      refine CW.ret ?_
      refine RW.then ?_
      exact XR.res0M (vs := [.bool false]) (by exact (ResOK.t rfl ResOK.nil)) rfl ⟨false, rfl, h⟩
    · replace h := h.2 hb2
      refine CW.skip ?_
      refine NW.then ?_
      refine CW.seq ?_
      refine CW.seq ?_
      refine CW.region fun L hL => ?_
      refine LW.rd hL rfl (Wants.free rfl) rfl (Rd.move (v := .pointer (some (⟨b3, 0, none⟩ : Addr))) rfl) ?_
      refine LW.call hL rfl (Wants.free rfl) rfl (Cl.fn (f := 34) rfl Tryz.func34 (by kernel_rfl) rfl) h (fun e w14 h_ => ?_)
      clear h
      obtain ⟨r13, rfl, h⟩ := h_
      obtain ⟨hsm7, h⟩ := h
      replace hB := Boxes.sameS hB hsm7 (by simp)
      refine ⟨_, rfl, ?_⟩
      refine LW.nil hL rfl ?_
      refine NW.then ?_
      refine CW.block ?_
      obtain ⟨S1, Sp1, keep1, hfn_, hit_, hkp_, I1, hst_I1, h0_, hrd_, hdn_⟩ := h
      refine XR.CW.rangeV (α := Int × Int × Int) (enc := (fun x : Int × Int × Int => #[.agg #[.int .i64 x.1, .int .i64 x.2.1], .int .u32 x.2.2])) (S := S1) (Sp := Sp1) (keep := keep1) rfl hfn_ (fun _ => rfl) (by decide) hit_ (fun (O_ : List Nat) (pre_ : List (Int × Int × Int)) (w_ : World) => ∃ (c1 : Int), I1 c1 O_ pre_ w_ ∧ Boxes w_ [(b4, [.int .i64 c1], 3)]) (fun (c_ : Code) (O_ : List Nat) (pre_ : List (Int × Int × Int)) (w_ : World) => False) ?_ ?_ ?_ hkp_ ?_ ?_ ?_
      · intro pre_ O_ O2_ A_ B_ hi_ hO_ hc_ hO2_ hg_
        have hB0_ := hB
        obtain ⟨c1, hi_, hB⟩ := hi_
        exact ⟨c1, hst_I1 c1 pre_ O_ O2_ A_ B_ hi_ hO_ hc_ hO2_ hg_, hB.stab hB0_ rfl hO_ hc_⟩
      · intro c_ pre_ O_ O2_ A_ B_ hi_ hO_ hc_ hO2_ hg_
        exact hi_.elim
      · intro O_ A_ hc_ hO_
        exact ⟨0, h0_ O_ A_ hc_ hO_, Boxes.chg hB hc_ (by simp)⟩
      · intro l1 O1 pre1 x_ w15 hO_ hl_ hSp_ hi_
        obtain ⟨x1, x2, x3⟩ := x_
        obtain ⟨c1, hi_, hB⟩ := hi_
        have h := hrd_ l1 O1 pre1 x1 x2 x3 c1 w15 hO_ hl_ hSp_ hi_
        refine XR.CW.skip ?_
        refine XR.NW.begin (Chg.refl [] w15) (fun w16 hcb_w16 hlp_ hib_ => ?_)
        have hc_w16 : Chg [l1] w15 w16 := sil_more (Chg.refl [] w15) hcb_w16
        replace hB := hB.notloop hlp_ hcb_w16
        replace h := h  w16  hc_w16
        refine XR.CW.block ?_
        refine XR.CW.region fun L hL => ?_
        refine XR.LW.rd hL rfl (Wants.free rfl) rfl (Rd.ld (v := .int .i64 c1) rfl (by kernel_rfl) (eqs (box_cell (hB.at (i := 0) rfl) rfl))) ?_
        refine XR.LW.rd hL rfl (Wants.free rfl) rfl (Rd.bin (v := .int .i64 (IntKind.wrap .i64 (c1 + 1))) rfl rfl (fun w => by kernel_rfl)) ?_
        obtain ⟨w17, hw_w17⟩ : ∃ x, x = World.setCell w16 (⟨b4, 0, none⟩ : Addr) (.int .i64 (IntKind.wrap .i64 (c1 + 1))) := ⟨_, rfl⟩
        refine XR.LW.eff hL rfl (Wants.free rfl) rfl (stE hw_w17 (Ef.st rfl rfl rfl (by kernel_rfl) (box_cell (v := .int .i64 c1) (hB.at (i := 0) rfl) rfl) (free_of (hB.at (i := 0) rfl) 0))) ?_
        replace hB : Boxes w17 [(b4, [.int .i64 (IntKind.wrap .i64 (c1 + 1))], 3)] := Boxes.store1  (i := 0) (o := 0) hB rfl rfl rfl rfl hw_w17
        have hc_w17 : Chg [b4] w16 w17 := sil_more (Chg.refl [] w16) (sil_c1 hw_w17)
        refine XR.LW.nil hL rfl ?_
        refine NW.block ?_
        replace h := h  w17  hc_w17
        exact fun a_ ha_ => ⟨h.1, ⟨IntKind.wrap .i64 (c1 + 1), h.2.1, hB⟩, h.2.2⟩
      · intro d1 O2 xs1 w18 hO_ hd_ hdh_ hS_ hi_
        obtain ⟨c1, hi_, hB⟩ := hi_
        have h := hdn_ d1 O2 xs1 c1 w18 hO_ hd_ hS_ hi_
        have hK := XR.Marks.cons (XR.Marks.nil _) hdh_ (by simp)
        refine NW.block ?_
        refine NW.then ?_
        refine CW.seq ?_
        refine CW.region fun L hL => ?_
        refine LW.rd hL rfl (Wants.free rfl) rfl (Rd.build (v := .agg #[.int .i64 1, .int .i64 1]) rfl (fun _ => by kernel_rfl)) ?_
        refine LW.call hL rfl (Wants.free rfl) rfl (Cl.fn (f := 26) rfl Tryz.func26 (by kernel_rfl) rfl) h (fun e w19 h_ => ?_)
        clear h
        obtain ⟨r14, r15, rfl, h⟩ := h_
        obtain ⟨hsm8, h⟩ := h
        replace hB := Boxes.sameS hB hsm8 (by simp)
        replace hK := XR.Marks.same hK hsm8 (by simp)
        refine ⟨_, rfl, ?_⟩
        refine LW.rd hL rfl (Wants.free rfl) rfl (Rd.move (v := .tuple #[.pointer r14, .int .i64 r15]) rfl) ?_
        refine LW.rd hL rfl (Wants.free rfl) rfl (Rd.extract (v := .pointer r14) rfl rfl) ?_
        refine LW.rd hL rfl (Wants.free rfl) rfl (Rd.extract (v := .int .i64 r15) rfl rfl) ?_
        refine LW.rd hL rfl (Wants.free rfl) rfl (Rd.assign (v := .pointer r14) rfl) ?_
        refine LW.rd hL rfl (Wants.free rfl) rfl (Rd.assign (v := .int .i64 r15) rfl) ?_
        refine LW.nil hL rfl ?_
        refine NW.then ?_
        refine CW.seq ?_
        refine CW.region fun L hL => ?_
        refine LW.rd hL rfl (Wants.free rfl) rfl (Rd.move (v := .int .i64 r5) rfl) ?_
        refine LW.rd hL rfl (Wants.free rfl) rfl (Rd.bin (v := .bool (r5 == 1)) rfl rfl (fun w => by kernel_rfl)) ?_
        refine LW.rd hL rfl (Wants.free rfl) rfl (Rd.move (v := .bool (r5 == 1)) rfl) ?_
        suffices K1 : L 6 [(2, .bool false), (3, .pointer none), (4, .pointer (some (⟨b3, 0, none⟩ : Addr))), (8, .int .i64 r7), (10, .int .i64 r9), (11, .int .i64 r10), (12, .int .i64 r11), (13, .pointer (some (⟨b4, 0, none⟩ : Addr))), (14, .pointer r14), (72, .bool (r5 == 1 && r6 == 1))] w19 by
          rcases Bool.eq_false_or_eq_true (r5 == 1) with hb4 | hb4
          · skip
            refine LW.rd hL rfl (Wants.on rfl rfl rfl rfl rfl hb4) rfl (Rd.move (v := .int .i64 r6) rfl) ?_
            refine LW.rd hL rfl (Wants.on rfl rfl rfl rfl rfl hb4) rfl (Rd.bin (v := .bool (r6 == 1)) rfl rfl (fun w => by kernel_rfl)) ?_
            refine LW.rd hL rfl (Wants.free rfl) rfl (Rd.pickT rfl hb4 rfl) ?_
            exact LW.sub hL (by exact ⟨rfl, rfl, rfl, rfl, rfl, rfl, rfl, rfl, rfl, (by rw [hb4]; rfl), trivial⟩) K1
          · skip
            refine LW.skip hL rfl (Skips.on rfl rfl rfl rfl rfl hb4) rfl ?_
            refine LW.skip hL rfl (Skips.on rfl rfl rfl rfl rfl hb4) rfl ?_
            refine LW.rd hL rfl (Wants.free rfl) rfl (Rd.pickF rfl hb4 rfl) ?_
            exact LW.sub hL (by exact ⟨rfl, rfl, rfl, rfl, rfl, rfl, rfl, rfl, rfl, (by rw [hb4]; rfl), trivial⟩) K1
        refine LW.rd hL rfl (Wants.free rfl) rfl (Rd.move (v := .bool (r5 == 1 && r6 == 1)) rfl) ?_
        suffices K2 : L 10 [(2, .bool false), (3, .pointer none), (4, .pointer (some (⟨b3, 0, none⟩ : Addr))), (10, .int .i64 r9), (11, .int .i64 r10), (12, .int .i64 r11), (13, .pointer (some (⟨b4, 0, none⟩ : Addr))), (14, .pointer r14), (76, .bool ((r5 == 1 && r6 == 1) && r7 == 1))] w19 by
          rcases Bool.eq_false_or_eq_true (r5 == 1 && r6 == 1) with hb6 | hb6
          · skip
            refine LW.rd hL rfl (Wants.on rfl rfl rfl rfl rfl hb6) rfl (Rd.move (v := .int .i64 r7) rfl) ?_
            refine LW.rd hL rfl (Wants.on rfl rfl rfl rfl rfl hb6) rfl (Rd.bin (v := .bool (r7 == 1)) rfl rfl (fun w => by kernel_rfl)) ?_
            refine LW.rd hL rfl (Wants.free rfl) rfl (Rd.pickT rfl hb6 rfl) ?_
            exact LW.sub hL (by exact ⟨rfl, rfl, rfl, rfl, rfl, rfl, rfl, rfl, (by rw [hb6]; rfl), trivial⟩) K2
          · skip
            refine LW.skip hL rfl (Skips.on rfl rfl rfl rfl rfl hb6) rfl ?_
            refine LW.skip hL rfl (Skips.on rfl rfl rfl rfl rfl hb6) rfl ?_
            refine LW.rd hL rfl (Wants.free rfl) rfl (Rd.pickF rfl hb6 rfl) ?_
            exact LW.sub hL (by exact ⟨rfl, rfl, rfl, rfl, rfl, rfl, rfl, rfl, (by rw [hb6]; rfl), trivial⟩) K2
        refine LW.rd hL rfl (Wants.free rfl) rfl (Rd.move (v := .bool ((r5 == 1 && r6 == 1) && r7 == 1)) rfl) ?_
        suffices K3 : L 14 [(2, .bool false), (3, .pointer none), (4, .pointer (some (⟨b3, 0, none⟩ : Addr))), (11, .int .i64 r10), (12, .int .i64 r11), (13, .pointer (some (⟨b4, 0, none⟩ : Addr))), (14, .pointer r14), (80, .bool (((r5 == 1 && r6 == 1) && r7 == 1) && r9 == 1))] w19 by
          rcases Bool.eq_false_or_eq_true ((r5 == 1 && r6 == 1) && r7 == 1) with hb8 | hb8
          · skip
            refine LW.rd hL rfl (Wants.on rfl rfl rfl rfl rfl hb8) rfl (Rd.move (v := .int .i64 r9) rfl) ?_
            refine LW.rd hL rfl (Wants.on rfl rfl rfl rfl rfl hb8) rfl (Rd.bin (v := .bool (r9 == 1)) rfl rfl (fun w => by kernel_rfl)) ?_
            refine LW.rd hL rfl (Wants.free rfl) rfl (Rd.pickT rfl hb8 rfl) ?_
            exact LW.sub hL (by exact ⟨rfl, rfl, rfl, rfl, rfl, rfl, rfl, (by rw [hb8]; rfl), trivial⟩) K3
          · skip
            refine LW.skip hL rfl (Skips.on rfl rfl rfl rfl rfl hb8) rfl ?_
            refine LW.skip hL rfl (Skips.on rfl rfl rfl rfl rfl hb8) rfl ?_
            refine LW.rd hL rfl (Wants.free rfl) rfl (Rd.pickF rfl hb8 rfl) ?_
            exact LW.sub hL (by exact ⟨rfl, rfl, rfl, rfl, rfl, rfl, rfl, (by rw [hb8]; rfl), trivial⟩) K3
        refine LW.rd hL rfl (Wants.free rfl) rfl (Rd.move (v := .bool (((r5 == 1 && r6 == 1) && r7 == 1) && r9 == 1)) rfl) ?_
        obtain ⟨J1, hJ1, h1_J1, h0_J1⟩ := h
        suffices K4 : ∀ (b5 : Bool) (w20 : World), XR.Marks w20 [d1] → J1 b5 w20 → L 22 [(2, .bool false), (3, .pointer none), (4, .pointer (some (⟨b3, 0, none⟩ : Addr))), (14, .pointer r14), (88, .bool b5)] w20 by
          rcases Bool.eq_false_or_eq_true (((r5 == 1 && r6 == 1) && r7 == 1) && r9 == 1) with hb9 | hb9
          · have h := h1_J1 hb9
            refine LW.rd hL rfl (Wants.on rfl rfl rfl rfl rfl hb9) rfl (Rd.move (v := .int .i64 r10) rfl) ?_
            refine LW.rd hL rfl (Wants.on rfl rfl rfl rfl rfl hb9) rfl (Rd.move (v := .int .i64 r11) rfl) ?_
            refine LW.rd hL rfl (Wants.on rfl rfl rfl rfl rfl hb9) rfl (Rd.bin (v := .int .i64 (IntKind.wrap .i64 (r10 + r11))) rfl rfl (fun w => by kernel_rfl)) ?_
            refine LW.rd hL rfl (Wants.on rfl rfl rfl rfl rfl hb9) rfl (Rd.ld (v := .int .i64 c1) rfl (by kernel_rfl) (eqs (box_cell (hB.at (i := 0) rfl) rfl))) ?_
            refine LW.rd hL rfl (Wants.on rfl rfl rfl rfl rfl hb9) rfl (Rd.bin (v := .int .i64 (IntKind.wrap .i64 ((IntKind.wrap .i64 (r10 + r11)) + c1))) rfl rfl (fun w => by kernel_rfl)) ?_
            refine LW.rd hL rfl (Wants.on rfl rfl rfl rfl rfl hb9) rfl (Rd.bin (v := .bool ((IntKind.wrap .i64 ((IntKind.wrap .i64 (r10 + r11)) + c1)) == 0)) rfl rfl (fun w => by kernel_rfl)) ?_
            refine LW.rd hL rfl (Wants.free rfl) rfl (Rd.pickT rfl hb9 rfl) ?_
            exact LW.sub hL (by exact ⟨rfl, rfl, rfl, rfl, rfl, trivial⟩) (K4 ((IntKind.wrap .i64 ((IntKind.wrap .i64 (r10 + r11)) + c1)) == 0) w19 hK h)
          · have h := h0_J1 hb9
            refine LW.skip hL rfl (Skips.on rfl rfl rfl rfl rfl hb9) rfl ?_
            refine LW.skip hL rfl (Skips.on rfl rfl rfl rfl rfl hb9) rfl ?_
            refine LW.skip hL rfl (Skips.on rfl rfl rfl rfl rfl hb9) rfl ?_
            refine LW.skip hL rfl (Skips.on rfl rfl rfl rfl rfl hb9) rfl ?_
            refine LW.skip hL rfl (Skips.on rfl rfl rfl rfl rfl hb9) rfl ?_
            refine LW.skip hL rfl (Skips.on rfl rfl rfl rfl rfl hb9) rfl ?_
            refine LW.rd hL rfl (Wants.free rfl) rfl (Rd.pickF rfl hb9 rfl) ?_
            exact LW.sub hL (by exact ⟨rfl, rfl, rfl, rfl, rfl, trivial⟩) (K4 false w19 hK h)
        intro b5 w20 hK h_
        have h := hJ1 b5 w20 h_; clear h_
        refine LW.rd hL rfl (Wants.free rfl) rfl (Rd.move (v := .bool b5) rfl) ?_
        obtain ⟨J2, hJ2, h1_J2, h0_J2⟩ := h
        suffices K5 : ∀ (b6 : Bool) (w21 : World), XR.Marks w21 [d1] → J2 b6 w21 → L 28 [(2, .bool false), (3, .pointer none), (4, .pointer (some (⟨b3, 0, none⟩ : Addr))), (14, .pointer r14), (94, .bool b6)] w21 by
          rcases Bool.eq_false_or_eq_true b5 with hb10 | hb10
          · have h := h1_J2 hb10
            refine LW.rd hL rfl (Wants.on rfl rfl rfl rfl rfl hb10) rfl (Rd.move (v := .pointer none) rfl) ?_
            refine LW.call hL rfl (Wants.on rfl rfl rfl rfl rfl hb10) rfl (Cl.fn (f := 33) rfl Tryz.func33 (by kernel_rfl) rfl) h (fun e w22 h_ => ?_)
            clear h
            obtain ⟨r16, r16n, r16c, rfl, h⟩ := h_
            obtain ⟨hsm9, h⟩ := h
            replace hK := XR.Marks.same hK hsm9 (by simp)
            refine ⟨_, rfl, ?_⟩
            refine LW.rd hL rfl (Wants.on rfl rfl rfl rfl rfl hb10) rfl (Rd.builtin (v := .int .i64 (r16n : Int)) rfl (fun _ _ => by kernel_rfl)) ?_
            refine LW.rd hL rfl (Wants.on rfl rfl rfl rfl rfl hb10) rfl (Rd.bin (v := .bool ((r16n : Int) == 0)) rfl rfl (fun w => by kernel_rfl)) ?_
            refine LW.rd hL rfl (Wants.free rfl) rfl (Rd.pickT rfl hb10 rfl) ?_
            exact LW.sub hL (by exact ⟨rfl, rfl, rfl, rfl, rfl, trivial⟩) (K5 ((r16n : Int) == 0) w22 hK h)
          · have h := h0_J2 hb10
            refine LW.skip hL rfl (Skips.on rfl rfl rfl rfl rfl hb10) rfl ?_
            refine LW.skip hL rfl (Skips.on rfl rfl rfl rfl rfl hb10) rfl ?_
            refine LW.skip hL rfl (Skips.on rfl rfl rfl rfl rfl hb10) rfl ?_
            refine LW.skip hL rfl (Skips.on rfl rfl rfl rfl rfl hb10) rfl ?_
            refine LW.rd hL rfl (Wants.free rfl) rfl (Rd.pickF rfl hb10 rfl) ?_
            exact LW.sub hL (by exact ⟨rfl, rfl, rfl, rfl, rfl, trivial⟩) (K5 false w20 hK h)
        intro b6 w21 hK h_
        have h := hJ2 b6 w21 h_; clear h_
        refine LW.rd hL rfl (Wants.free rfl) rfl (Rd.move (v := .bool b6) rfl) ?_
        obtain ⟨J3, hJ3, h1_J3, h0_J3⟩ := h
        suffices K6 : ∀ (b7 : Bool) (w23 : World), XR.Marks w23 [d1] → J3 b7 w23 → L 33 [(2, .bool false), (3, .pointer none), (4, .pointer (some (⟨b3, 0, none⟩ : Addr))), (14, .pointer r14), (99, .bool b7)] w23 by
          rcases Bool.eq_false_or_eq_true b6 with hb11 | hb11
          · have h := h1_J3 hb11
            refine LW.rd hL rfl (Wants.on rfl rfl rfl rfl rfl hb11) rfl (Rd.move (v := .pointer (some (⟨b3, 0, none⟩ : Addr))) rfl) ?_
            refine LW.call hL rfl (Wants.on rfl rfl rfl rfl rfl hb11) rfl (Cl.fn (f := 15) rfl Tryz.func15 (by kernel_rfl) rfl) h (fun e w24 h_ => ?_)
            clear h
            obtain ⟨r17, rfl, h⟩ := h_
            obtain ⟨hsm10, h⟩ := h
            replace hK := XR.Marks.same hK hsm10 (by simp)
            refine ⟨_, rfl, ?_⟩
            refine LW.rd hL rfl (Wants.on rfl rfl rfl rfl rfl hb11) rfl (Rd.bin (v := .bool (Option.isNone r17)) rfl rfl (fun w => ptr_nil_eq (by kernel_rfl) r17 w)) ?_
            refine LW.rd hL rfl (Wants.free rfl) rfl (Rd.pickT rfl hb11 rfl) ?_
            exact LW.sub hL (by exact ⟨rfl, rfl, rfl, rfl, rfl, trivial⟩) (K6 (Option.isNone r17) w24 hK h)
          · have h := h0_J3 hb11
            refine LW.skip hL rfl (Skips.on rfl rfl rfl rfl rfl hb11) rfl ?_
            refine LW.skip hL rfl (Skips.on rfl rfl rfl rfl rfl hb11) rfl ?_
            refine LW.skip hL rfl (Skips.on rfl rfl rfl rfl rfl hb11) rfl ?_
            refine LW.rd hL rfl (Wants.free rfl) rfl (Rd.pickF rfl hb11 rfl) ?_
            exact LW.sub hL (by exact ⟨rfl, rfl, rfl, rfl, rfl, trivial⟩) (K6 false w21 hK h)
        intro b7 w23 hK h_
        have h := hJ3 b7 w23 h_; clear h_
        refine LW.rd hL rfl (Wants.free rfl) rfl (Rd.move (v := .bool b7) rfl) ?_
        obtain ⟨J4, hJ4, h1_J4, h0_J4⟩ := h
        suffices K7 : ∀ (b8 : Bool) (w25 : World), XR.Marks w25 [d1] → J4 b8 w25 → L 38 [(2, .bool false), (3, .pointer none), (4, .pointer (some (⟨b3, 0, none⟩ : Addr))), (14, .pointer r14), (104, .bool b8)] w25 by
          rcases Bool.eq_false_or_eq_true b7 with hb12 | hb12
          · have h := h1_J4 hb12
            refine LW.rd hL rfl (Wants.on rfl rfl rfl rfl rfl hb12) rfl (Rd.move (v := .pointer none) rfl) ?_
            refine LW.rd hL rfl (Wants.on rfl rfl rfl rfl rfl hb12) rfl (Rd.move (v := .pointer (some (⟨b3, 0, none⟩ : Addr))) rfl) ?_
            refine LW.call hL rfl (Wants.on rfl rfl rfl rfl rfl hb12) rfl (Cl.fn (f := 23) rfl Tryz.func23 (by kernel_rfl) rfl) h (fun e w26 h_ => ?_)
            clear h
            obtain ⟨r18, rfl, h⟩ := h_
            obtain ⟨hsm11, h⟩ := h
            replace hK := XR.Marks.same hK hsm11 (by simp)
            refine ⟨_, rfl, ?_⟩
            refine LW.rd hL rfl (Wants.free rfl) rfl (Rd.pickT rfl hb12 rfl) ?_
            exact LW.sub hL (by exact ⟨rfl, rfl, rfl, rfl, rfl, trivial⟩) (K7 r18 w26 hK h)
          · have h := h0_J4 hb12
            refine LW.skip hL rfl (Skips.on rfl rfl rfl rfl rfl hb12) rfl ?_
            refine LW.skip hL rfl (Skips.on rfl rfl rfl rfl rfl hb12) rfl ?_
            refine LW.skip hL rfl (Skips.on rfl rfl rfl rfl rfl hb12) rfl ?_
            refine LW.rd hL rfl (Wants.free rfl) rfl (Rd.pickF rfl hb12 rfl) ?_
            exact LW.sub hL (by exact ⟨rfl, rfl, rfl, rfl, rfl, trivial⟩) (K7 false w23 hK h)
        intro b8 w25 hK h_
        have h := hJ4 b8 w25 h_; clear h_
        refine LW.rd hL rfl (Wants.free rfl) rfl (Rd.move (v := .bool b8) rfl) ?_
        obtain ⟨J5, hJ5, h1_J5, h0_J5⟩ := h
        suffices K8 : ∀ (b9 : Bool) (w27 : World), XR.Marks w27 [d1] → J5 b9 w27 → L 44 [(2, .bool false), (4, .pointer (some (⟨b3, 0, none⟩ : Addr))), (14, .pointer r14), (110, .bool b9)] w27 by
          rcases Bool.eq_false_or_eq_true b8 with hb13 | hb13
          · have h := h1_J5 hb13
            refine LW.rd hL rfl (Wants.on rfl rfl rfl rfl rfl hb13) rfl (Rd.move (v := .pointer none) rfl) ?_
            refine LW.rd hL rfl (Wants.on rfl rfl rfl rfl rfl hb13) rfl (Rd.move (v := .pointer r14) rfl) ?_
            refine LW.call hL rfl (Wants.on rfl rfl rfl rfl rfl hb13) rfl (Cl.fn (f := 23) rfl Tryz.func23 (by kernel_rfl) rfl) h (fun e w28 h_ => ?_)
            clear h
            obtain ⟨r19, rfl, h⟩ := h_
            obtain ⟨hsm12, h⟩ := h
            replace hK := XR.Marks.same hK hsm12 (by simp)
            refine ⟨_, rfl, ?_⟩
            refine LW.rd hL rfl (Wants.on rfl rfl rfl rfl rfl hb13) rfl (Rd.un (v := .bool (!r19)) rfl (fun _ => by kernel_rfl)) ?_
            refine LW.rd hL rfl (Wants.free rfl) rfl (Rd.pickT rfl hb13 rfl) ?_
            exact LW.sub hL (by exact ⟨rfl, rfl, rfl, rfl, trivial⟩) (K8 (!r19) w28 hK h)
          · have h := h0_J5 hb13
            refine LW.skip hL rfl (Skips.on rfl rfl rfl rfl rfl hb13) rfl ?_
            refine LW.skip hL rfl (Skips.on rfl rfl rfl rfl rfl hb13) rfl ?_
            refine LW.skip hL rfl (Skips.on rfl rfl rfl rfl rfl hb13) rfl ?_
            refine LW.skip hL rfl (Skips.on rfl rfl rfl rfl rfl hb13) rfl ?_
            refine LW.rd hL rfl (Wants.free rfl) rfl (Rd.pickF rfl hb13 rfl) ?_
            exact LW.sub hL (by exact ⟨rfl, rfl, rfl, rfl, trivial⟩) (K8 false w25 hK h)
        intro b9 w27 hK h_
        have h := hJ5 b9 w27 h_; clear h_
        refine LW.rd hL rfl (Wants.free rfl) rfl (Rd.move (v := .bool b9) rfl) ?_
        obtain ⟨J6, hJ6, h1_J6, h0_J6⟩ := h
        suffices K9 : ∀ (b10 : Bool) (w29 : World), XR.Marks w29 [d1] → J6 b10 w29 → L 50 [(2, .bool false), (116, .bool b10)] w29 by
          rcases Bool.eq_false_or_eq_true b9 with hb14 | hb14
          · have h := h1_J6 hb14
            refine LW.rd hL rfl (Wants.on rfl rfl rfl rfl rfl hb14) rfl (Rd.move (v := .pointer r14) rfl) ?_
            refine LW.rd hL rfl (Wants.on rfl rfl rfl rfl rfl hb14) rfl (Rd.move (v := .pointer (some (⟨b3, 0, none⟩ : Addr))) rfl) ?_
            refine LW.call hL rfl (Wants.on rfl rfl rfl rfl rfl hb14) rfl (Cl.fn (f := 23) rfl Tryz.func23 (by kernel_rfl) rfl) h (fun e w30 h_ => ?_)
            clear h
            obtain ⟨r20, rfl, h⟩ := h_
            obtain ⟨hsm13, h⟩ := h
            replace hK := XR.Marks.same hK hsm13 (by simp)
            refine ⟨_, rfl, ?_⟩
            refine LW.rd hL rfl (Wants.on rfl rfl rfl rfl rfl hb14) rfl (Rd.un (v := .bool (!r20)) rfl (fun _ => by kernel_rfl)) ?_
            refine LW.rd hL rfl (Wants.free rfl) rfl (Rd.pickT rfl hb14 rfl) ?_
            exact LW.sub hL (by exact ⟨rfl, rfl, trivial⟩) (K9 (!r20) w30 hK h)
          · have h := h0_J6 hb14
            refine LW.skip hL rfl (Skips.on rfl rfl rfl rfl rfl hb14) rfl ?_
            refine LW.skip hL rfl (Skips.on rfl rfl rfl rfl rfl hb14) rfl ?_
            refine LW.skip hL rfl (Skips.on rfl rfl rfl rfl rfl hb14) rfl ?_
            refine LW.skip hL rfl (Skips.on rfl rfl rfl rfl rfl hb14) rfl ?_
            refine LW.rd hL rfl (Wants.free rfl) rfl (Rd.pickF rfl hb14 rfl) ?_
            exact LW.sub hL (by exact ⟨rfl, rfl, trivial⟩) (K9 false w27 hK h)
        intro b10 w29 hK h_
        have h := hJ6 b10 w29 h_; clear h_
        refine LW.rd hL rfl (Wants.free rfl) rfl (Rd.move (v := .bool b10) rfl) ?_
        obtain ⟨J7, hJ7, h1_J7, h0_J7⟩ := h
        suffices K10 : ∀ (b11 : Bool) (w31 : World), XR.Marks w31 [d1] → J7 b11 w31 → L 53 [(2, .bool false), (119, .bool b11)] w31 by
          rcases Bool.eq_false_or_eq_true b10 with hb15 | hb15
          · have h := h1_J7 hb15
            refine LW.call hL rfl (Wants.on rfl rfl rfl rfl rfl hb15) rfl (Cl.fn (f := 25) rfl Tryz.func25 (by kernel_rfl) rfl) h (fun e w32 h_ => ?_)
            clear h
            obtain ⟨r21, rfl, h⟩ := h_
            obtain ⟨hsm14, h⟩ := h
            replace hK := XR.Marks.same hK hsm14 (by simp)
            refine ⟨_, rfl, ?_⟩
            refine LW.rd hL rfl (Wants.free rfl) rfl (Rd.pickT rfl hb15 rfl) ?_
            exact LW.sub hL (by exact ⟨rfl, rfl, trivial⟩) (K10 r21 w32 hK h)
          · have h := h0_J7 hb15
            refine LW.skip hL rfl (Skips.on rfl rfl rfl rfl rfl hb15) rfl ?_
            refine LW.rd hL rfl (Wants.free rfl) rfl (Rd.pickF rfl hb15 rfl) ?_
            exact LW.sub hL (by exact ⟨rfl, rfl, trivial⟩) (K10 false w29 hK h)
        intro b11 w31 hK h_
        have h := hJ7 b11 w31 h_; clear h_
        refine LW.rd hL rfl (Wants.free rfl) rfl (Rd.assign (v := .bool b11) rfl) ?_
        refine LW.nil hL rfl ?_
        refine NW.then ?_
        refine CW.ret ?_
        exact XR.resM (ms := [d1]) (vs := [.bool b11]) hK rfl (fun w_ hc_ => ⟨(ResOK.t rfl ResOK.nil), b11, rfl, h w_ hc_⟩)
      · intro d2 c_ O3 xs2 w34 hO_ hd_ hdh_ hS_ hi_
        exact hi_.elim

end Go.Proofs.YtfcfkhbkkfpehaaGreat
end
