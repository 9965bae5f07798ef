/- Texts of the claim, merged: XFAll XGz1 XGz3 XFSame XPages XMisc XSame12 XLoop12 XHfcopies. -/
import Derived.Test.YtfcfkhbkkfpehaaGreatXMfc5
import Derived.Test.YtfcfkhbkkfpehaaGreatProg
set_option linter.unusedSimpArgs false
set_option linter.unusedVariables false
set_option maxRecDepth 100000
section
/- Flows: All. -/
namespace Go.Proofs.YtfcfkhbkkfpehaaGreat
open Go Go.RowKit Go.X Go.XR
theorem places_len (N : Nat) : ∀ K : Nat, ((List.range K).flatMap fun k : Nat => (List.range N).map fun n : Nat => ((k : Int), (n : Int))).length = K * N
 | 0 => by simp
 | K + 1 => by
  rw [List.range_succ, List.flatMap_append, List.length_append, places_len N K]
  simp [Nat.add_mul]
theorem keys_len {F : Fl} (hf : F.fr ≤ 32) (hs : F.se ≤ 32) {l : List (Int × Int)} (hn : l.Nodup) (h : ∀ p ∈ l, mayP F.fr F.se p) : l.length ≤ 1000000000000 := by
 have := nodup_sub_length hn (b := (List.range 18).flatMap fun k : Nat => (List.range 2147483648).map fun n : Nat => ((k : Int), (n : Int))) fun p hp => by
  obtain ⟨a, b, c, d⟩ := h p hp
  have hb : boundP F.fr F.se p.1 ≤ 2147483648 := by
   unfold boundP
   repeat' split
   all_goals omega
  exact List.mem_flatMap.2 ⟨p.1.toNat, List.mem_range.2 (by omega), List.mem_map.2 ⟨p.2.toNat, List.mem_range.2 (by omega), Prod.ext (by simp only []; omega) (by simp only []; omega)⟩⟩
 rw [places_len] at this
 omega
def tell (F : Fl) (p : Int × Int) : Int × Int × Int := (p.1, p.2, F.g p)
def fullF (F : Fl) (ys : List (Int × Int)) : Prop := ys.Pairwise ltPl ∧ ∀ p, p ∈ ys ↔ F.g p ≠ 0 ∧ mayP F.fr F.se p
def allF (F : Fl) (xs : List (Int × Int × Int)) : Prop := ∃ ys, fullF F ys ∧ xs = ys.map (tell F)
def allFp (F : Fl) (pre : List (Int × Int × Int)) : Prop := ∃ ys suf, fullF F ys ∧ pre ++ suf = ys.map (tell F)
theorem isFn100 (cb : Nat) : IsFn Tryz.prog (.func (.func 69) #[] #[.pointer (some ⟨cb, 0, none⟩)]) := ⟨69, Tryz.f69, _, rfl, Tryz.func69, by kernel_rfl, by kernel_rfl⟩
theorem iterates_flow {w : World} {cb m : Nat} {F : Fl} {L : List ((Int × Int) × Int)} (hcb : w.heap[cb]? = some (.cells #[.map (some m)] 99 (0, 0))) (h : AllIs w m F L) (hf : F.fr ≤ 32) (hs : F.se ≤ 32) :
  Iterates Tryz.prog (.func (.func 69) #[] #[.pointer (some ⟨cb, 0, none⟩)]) (fun x : Int × Int × Int => #[.agg #[.int .i64 x.1, .int .i64 x.2.1], .int .u32 x.2.2]) (allF F) (allFp F) [cb, m] w := by
 intro W yv I Ix hW hI hIx h0 hround
 refine ⟨69, #[.pointer (some ⟨cb, 0, none⟩)], Tryz.f69, rfl, Tryz.func69, by kernel_rfl, by kernel_rfl, ?_⟩
 have hcW := hW.obj (by simp) hcb
 have hmW := h.map.chg hW (by simp)
 have hlm := hmW.lt
 have hlcb := lt_of_heap hcW
 refine (go_flow_Flow_All_1 yv ⟨cb, 0, none⟩ W (fun w' => ∃ Own, InO W Own w' ∧ ((∃ xs, allF F xs ∧ I Own xs w') ∨ ∃ pre, allFp F pre ∧ Ix Own pre w')) ?_).mono (fun e w' h => ⟨⟨_, h.1⟩, h.2⟩)
 unfold W_flow_Flow_All_1
 refine ⟨_, by rw [cell_of hcW]; rfl, ?_⟩
 refine (maps_pkeys W (some m)).mono ?_
 rintro _ w2 ⟨_, rfl, kb, rfl, ekb, hkb, c2⟩
 have s2 := c2.size
 have hkl := lt_of_heap hkb
 refine ⟨_, rfl, ?_⟩
 have hnd : (L.map Prod.fst).Nodup := by obtain ⟨_, _, _, _, hnd, _⟩ := h.map; exact hnd
 refine (sorted_places (isFn121 kb) (iterates_pkeys hkb (hmW.chg c2 (by simp))) (by simp; omega) (fun pre hp => ?_) (fun xs ⟨d, e, n, a, _⟩ => ⟨d, e, n, a⟩)).mono ?_
 ·obtain ⟨d, rfl, n, a⟩ := hp
  exact keys_len hf hs n fun p hp => by obtain ⟨x, hx, rfl⟩ := List.mem_map.1 hp; exact h.may x (a x hx)
 rintro _ w3 ⟨p, n, c, rfl, xs, ys, hS, hperm, hsort, hn, hr, c3, hp⟩
 have s3 := c3.size
 obtain ⟨done, rfl, d1, d2, d3⟩ := hS
 have hmem : ∀ q, q ∈ ys ↔ F.g q ≠ 0 ∧ mayP F.fr F.se q := fun q => by
  rw [hperm.mem_iff]
  constructor
  ·intro hq
   obtain ⟨x, hx, rfl⟩ := List.mem_map.1 hq
   refine ⟨fun e => ?_, h.may x (d2 x hx)⟩
   have := h.look x.1
   rw [if_pos e] at this
   exact lookK_none.1 this x (d2 x hx) rfl
  ·rintro ⟨hq, _⟩
   have := h.look q
   rw [if_neg hq] at this
   exact List.mem_map.2 ⟨(q, F.g q), d3 _ (lookK_mem this), rfl⟩
 have hyn : ys.Nodup := hperm.nodup_iff.2 d1
 have hfull : fullF F ys := ⟨(hsort.and hyn).imp fun {a b} hab => by
  have h1 := hab.1
  have h2 := hab.2
  unfold ltPl at *
  rcases Decidable.em (a.1 = b.1) with e1 | e1
  ·rcases Decidable.em (a.2 = b.2) with e2 | e2
   ·exact absurd (Prod.ext e1 e2) h2
   ·omega
  ·omega, hmem⟩
 have hyl : ys.length ≤ 1000000000000 := keys_len hf hs hyn fun p hp => ((hmem p).1 hp).2
 refine ⟨p, n, c, rfl, ?_⟩
 have c03 : Chg [] W w3 := c2.trans0 c3
 have hO : ∀ {A : World}, w3.heap.size ≤ A.heap.size → InO W (rowB p) A := fun hA i hi => ⟨by have := hp i hi; omega, by have := hr.lt i hi; omega⟩
 have hI3 := hI [] [] (rowB p) W w3 h0 (by intro i hi; cases hi) c03 (hO (Nat.le_refl _)) (fun i hi => .inr (by have := hp i hi; omega))
 refine ⟨fun x1 w4 => ∃ j : Nat, x1 = j ∧ j ≤ n ∧ I (rowB p) ((ys.take j).map (tell F)) w4 ∧ Same w3 w4 ([cb, m] ++ rowB p) ∧ w3.heap.size ≤ w4.heap.size, fun x1 _ => n - x1.toNat,
  ⟨0, rfl, Nat.zero_le _, hI3, Same.refl _ _, Nat.le_refl _⟩, ?_⟩
 rintro x1 w4 ⟨j, rfl, hj, hI4, hs4, s4⟩
 refine ⟨fun hlt => ?_, fun hge => ?_⟩
 ·have hlt' : j < n := by have := of_decide_eq_true hlt; omega
  have hjl : j < ys.length := by omega
  obtain ⟨k, hk⟩ : ∃ k, ys[j]? = some k := ⟨_, List.getElem?_eq_getElem hjl⟩
  have hkm := (hmem k).1 (List.mem_of_getElem? hk)
  obtain ⟨g0, g1⟩ := flat_get2 ys j k hk
  obtain ⟨a, rfl, hc0⟩ := RowAt.at hr g0
  obtain ⟨a', e, hc1⟩ := RowAt.at hr g1
  cases e
  have ha : ∃ g, a = ⟨g, 0, none⟩ := by
   rcases hr.2 with ⟨hv, _⟩ | ⟨g, _, _, hv, _⟩
   ·cases hv
   ·cases hv; exact ⟨g, rfl⟩
  obtain ⟨ga, rfl⟩ := ha
  have hsb : w4.heap[(⟨ga, 0, none⟩ : Addr).block]? = w3.heap[(⟨ga, 0, none⟩ : Addr).block]? := hs4 _ (by simp [rowB])
  have ej : Int.toNat (j : Int) * 2 = j * 2 := by omega
  rw [ej]
  refine ⟨_, rfl, by omega, by omega, k.1, k.2, ⟨?_, ?_, trivial⟩, ?_⟩
  ·rw [add_at, add_at, Nat.add_zero]
   rw [add_at] at hc0
   exact same_cell hsb hc0
  ·rw [add_at, add_at]
   rw [add_at] at hc1
   exact same_cell hsb (by rw [show 0 + j * 2 + (0 + 1) = 0 + (j * 2 + 1) by omega]; exact hc1)
  rintro b1 w6 ⟨q1, q2⟩ c6
  have s6 := c6.size
  have hlk : ∀ x ∈ [cb, m] ++ rowB (some ⟨ga, 0, none⟩), x < w4.heap.size := fun x hx => by
   rcases List.mem_append.1 hx with hx | hx
   ·have h1 := c2.size; have h2 := c3.size
    simp at hx
    rcases hx with e | e <;> subst e <;> omega
   ·have := hr.lt x hx; omega
  have hs6 : Same w3 w6 ([cb, m] ++ rowB (some ⟨ga, 0, none⟩)) := fun x hx => (c6.block x (hlk x hx) (by simp)).trans (hs4 x hx)
  have hcb6 := (hs6 cb (by simp)).trans (c03.obj (by simp) hcW)
  have hm6 : MapIs w6 m encP (fun n : Int => .int .u32 n) L := by
   obtain ⟨es, clk, m1, m2⟩ := hmW.chg c03 (by simp)
   exact ⟨es, clk, (hs6 m (by simp)).trans m1, m2⟩
  have hlook := hm6.lookup (P := Tryz.prog) (T := 99) u143 keyPlace (z := .int .u32 0) (fun _ => by kernel_rfl) k false
  rw [h.look, if_neg hkm.1] at hlook
  refine ⟨some m, by rw [cell_of hcb6]; rfl, F.g k, by rw [show (.agg #[.int .i64 k.1, .int .i64 k.2] : Value) = encP k from rfl, hlook]; rfl, ?_⟩
  have hI6 := hI ((ys.take j).map (tell F)) (rowB (some ⟨ga, 0, none⟩)) (rowB (some ⟨ga, 0, none⟩)) w4 w6 hI4 (hO s4) c6.nil (hO (by omega)) (fun i hi => .inl hi)
  have htake : ys.take (j + 1) = ys.take j ++ [k] := by rw [List.take_add_one, hk]; rfl
  have hpre : allFp F ((ys.take j).map (tell F) ++ [tell F k]) := ⟨ys, (ys.drop (j + 1)).map (tell F), hfull, by
   rw [show [tell F k] = [k].map (tell F) from rfl, ← List.map_append, ← htake, ← List.map_append, List.take_append_drop]⟩
  refine (hround (rowB (some ⟨ga, 0, none⟩)) _ (tell F k) w6 (hO (by omega)) hpre hI6).mono ?_
  have ew1 : IntKind.wrap .i64 ((j : Int) + 1) = ((j + 1 : Nat) : Int) := by rw [wr (by omega) (by omega)]; omega
  rintro e w7 ⟨s7, ⟨rfl, hI7, hs7⟩ | ⟨rfl, hx7⟩⟩
  ·refine ⟨true, rfl, fun h => by simp at h, fun _ => ⟨⟨j + 1, ew1, by omega, ?_, fun x hx => (hs7 x hx).trans (hs6 x hx), by omega⟩, by rw [ew1]; simp only []; omega⟩⟩
   rw [htake, List.map_append]; exact hI7
  ·exact ⟨false, rfl, fun _ => ⟨rowB (some ⟨ga, 0, none⟩), hO (by omega), .inr ⟨_, hpre, hx7⟩⟩, fun h => by simp at h⟩
 ·have : j = n := by have := of_decide_eq_false hge; omega
  subst this
  rw [List.take_of_length_le (by omega)] at hI4
  exact ⟨rowB p, hO s4, .inl ⟨_, ⟨ys, hfull, rfl⟩, hI4⟩⟩
theorem flow_all {w : World} {b : Nat} {F : Fl} {fp : List Nat} (h : FlowAt w b F fp) :
  Calls Tryz.prog 34 #[.pointer (some ⟨b, 0, none⟩)] w fun e w' => ∃ r : Value, e = .returned r ∧ ∃ cb m L, r = .func (.func 69) #[] #[.pointer (some ⟨cb, 0, none⟩)] ∧ w'.heap[cb]? = some (.cells #[.map (some m)] 99 (0, 0)) ∧ AllIs w' m F L ∧ Chg [] w w' ∧ w.heap.size ≤ cb ∧ w.heap.size ≤ m := by
 refine go_flow_Flow_All _ _ _ ?_
 unfold W_flow_Flow_All
 refine v_alloc fun b1 w1 e1 hb1 c1 => ?_
 refine v_alloc fun b2 w2 e2 hb2 c2 => ?_
 have s1 := c1.size
 have s2 := c2.size
 have l2 := lt_of_heap hb2
 refine v_set0 hb2 (by simp) fun w3 hb3 c3 s3 => ?_
 have c03 : Chg [] w w3 := (c1.trans0 c2).trans c3 (fun i hi hlt => by simp at hi; omega)
 have h3 := h.chg c03 (by simp)
 refine ⟨fun w' => ∃ m L, w'.heap[b2]? = some (.cells #[.map (some m)] 99 (0, 0)) ∧ AllIs w' m F L ∧ Chg [] w w' ∧ w.heap.size ≤ m, ?_, ?_⟩
 ·rintro w4 ⟨m, L, k1, k2, k3, k4⟩
  exact ⟨b2, m, L, rfl, k1, k2, k3, by omega, k4⟩
 refine (flow_none h3).mono ?_
 rintro _ w5 ⟨_, rfl, rfl, hw⟩
 subst w5
 refine ⟨_, rfl, fun _ => ?_, fun h => by simp at h⟩
 refine (flow_all_map h3).mono ?_
 rintro _ w6 ⟨_, rfl, m, L, rfl, hA, c6, hm⟩
 refine ⟨_, rfl, ?_⟩
 refine v_set0 (c6.obj (by simp) hb3) (by simp) fun w7 hb7 c7 s7 => ?_
 have hmne : m ≠ b2 := by have := c03.size; omega
 exact ⟨m, L, hb7, ⟨hA.map.chg c7 (by simp; omega), hA.look, hA.may⟩, (c03.trans0 c6).trans c7 (fun i hi hlt => by simp at hi; omega), by have := c03.size; omega⟩
end Go.Proofs.YtfcfkhbkkfpehaaGreat
end
section
namespace Go.Proofs.YtfcfkhbkkfpehaaGreat
open Go Go.X
/- pomander/flow.Same -/
def W_flow_Same (a1 : Option Addr) (b1 : Option Addr) (w : World) (R : Bool → World → Prop) : Prop :=
 Calls Tryz.prog 43 #[.pointer a1] w fun e w1 => ∃ (r2 : Bool), e = .returned (.bool r2) ∧ (∃ J1 : Bool → World → Prop, (∀ (b2 : Bool) (w2 : World), J1 b2 w2 → (b2 = true → Calls Tryz.prog 43 #[.pointer a1] w2 fun e w4 => ∃ (r4 : Bool), e = .returned (.bool r4) ∧ (∃ J2 : Bool → World → Prop, (∀ (b3 : Bool) (w5 : World), J2 b3 w5 → R b3 w5) ∧ ((r4 = true → Calls Tryz.prog 43 #[.pointer b1] w4 fun e w6 => ∃ (r5 : Bool), e = .returned (.bool r5) ∧ (J2 r5 w6)) ∧ (r4 = false → J2 false w4)))) ∧ (b2 = false → ∀ (w7 : World), Chg [] w2 w7 → (∃ a2 : Addr, a1 = some a2 ∧ (∃ (t1 : Int) (t2 : Int), CellsAt w7 a2 0 [.int .i64 t1, .int .i64 t2] ∧ (∃ a3 : Addr, b1 = some a3 ∧ (∃ (t3 : Int) (t4 : Int), CellsAt w7 a3 0 [.int .i64 t3, .int .i64 t4] ∧ (∃ (t5 : Option Addr), w7.cell? (a2.add 2) = some (.pointer t5) ∧ (∃ (t6 : Option Addr), w7.cell? (a3.add 2) = some (.pointer t6) ∧ (∃ J3 : Bool → World → Prop, (∀ (b4 : Bool) (w8 : World), J3 b4 w8 → ∃ J4 : Bool → World → Prop, (∀ (b5 : Bool) (w10 : World), J4 b5 w10 → R b5 w10) ∧ ((b4 = true → Calls Tryz.prog 55 #[.pointer a1] w8 fun e w11 => ∃ (r7 : Option Nat), e = .returned (.map r7) ∧ ((CellsAt w11 a2 0 [.int .i64 t1, .int .i64 t2] ∧ CellsAt w11 a3 0 [.int .i64 t3, .int .i64 t4] ∧ w11.cell? (a2.add 2) = some (.pointer t5) ∧ w11.cell? (a3.add 2) = some (.pointer t6)) ∧ (Calls Tryz.prog 55 #[.pointer b1] w11 fun e w12 => ∃ (r8 : Option Nat), e = .returned (.map r8) ∧ ((CellsAt w12 a2 0 [.int .i64 t1, .int .i64 t2] ∧ CellsAt w12 a3 0 [.int .i64 t3, .int .i64 t4] ∧ w12.cell? (a2.add 2) = some (.pointer t5) ∧ w12.cell? (a3.add 2) = some (.pointer t6)) ∧ (Calls Tryz.prog 54 #[.map r7, .map r8] w12 fun e w13 => ∃ (r9 : Bool), e = .returned (.bool r9) ∧ (J4 r9 w13)))))) ∧ (b4 = false → J4 false w8))) ∧ ((((t1 == t3) && (t2 == t4)) = true → Calls Tryz.prog 53 #[.pointer t5, .pointer t6] w7 fun e w9 => ∃ (r6 : Bool), e = .returned (.bool r6) ∧ ((CellsAt w9 a2 0 [.int .i64 t1, .int .i64 t2] ∧ CellsAt w9 a3 0 [.int .i64 t3, .int .i64 t4] ∧ w9.cell? (a2.add 2) = some (.pointer t5) ∧ w9.cell? (a3.add 2) = some (.pointer t6)) ∧ (J3 r6 w9))) ∧ (((t1 == t3) && (t2 == t4)) = false → J3 false w7))))))))))) ∧ ((r2 = false → Calls Tryz.prog 43 #[.pointer b1] w1 fun e w3 => ∃ (r3 : Bool), e = .returned (.bool r3) ∧ (J1 r3 w3)) ∧ (r2 = true → J1 true w1)))
set_option maxRecDepth 100000 in
theorem go_flow_Same (a1 : Option Addr) (b1 : Option Addr) (w : World) (R : Bool → World → Prop) (h : W_flow_Same a1 b1 w R) : Calls Tryz.prog 23 #[.pointer a1, .pointer b1] w (fun e w' => ∃ (r1 : Bool), e = .returned (.bool r1) ∧ R r1 w') := by
 unfold W_flow_Same at h
 refine enter (N := 44) Tryz.func23 rfl rfl ?_
 refine CW.seq ?_
 refine CW.region fun L hL => ?_
 refine LW.rd hL rfl (Wants.free rfl) rfl (Rd.assign (v := .bool false) rfl) ?_
 refine LW.nil hL rfl ?_
 refine NW.then ?_
 refine CW.seq ?_
 refine CW.seq ?_
 refine CW.region fun L hL => ?_
 refine LW.rd hL rfl (Wants.free rfl) rfl (Rd.move (v := .pointer a1) rfl) ?_
 refine LW.call hL rfl (Wants.free rfl) rfl (Cl.fn (f := 43) rfl Tryz.func43 (by kernel_rfl) rfl) h (fun e w1 h_ => ?_)
 clear h
 obtain ⟨r2, rfl, h⟩ := h_
 refine ⟨_, rfl, ?_⟩
 refine LW.rd hL rfl (Wants.free rfl) rfl (Rd.move (v := .bool r2) rfl) ?_
 obtain ⟨J1, hJ1, h1_J1, h0_J1⟩ := h
 suffices K1 : ∀ (b2 : Bool) (w2 : World), J1 b2 w2 → L 6 [(0, .pointer a1), (1, .pointer b1), (4, .bool false), (10, .bool b2)] w2 by
  rcases Bool.eq_false_or_eq_true r2 with hb1 | hb1
  ·have h := h0_J1 hb1
   refine LW.skip hL rfl (Skips.on rfl rfl rfl rfl rfl hb1) rfl ?_
   refine LW.skip hL rfl (Skips.on rfl rfl rfl rfl rfl hb1) rfl ?_
   refine LW.rd hL rfl (Wants.free rfl) rfl (Rd.pickT rfl hb1 rfl) ?_
   exact LW.sub hL (by exact ⟨rfl, rfl, rfl, rfl, trivial⟩) (K1 true w1 h)
  ·have h := h1_J1 hb1
   refine LW.rd hL rfl (Wants.on rfl rfl rfl rfl rfl hb1) rfl (Rd.move (v := .pointer b1) rfl) ?_
   refine LW.call hL rfl (Wants.on rfl rfl rfl rfl rfl hb1) rfl (Cl.fn (f := 43) rfl Tryz.func43 (by kernel_rfl) rfl) h (fun e w3 h_ => ?_)
   clear h
   obtain ⟨r3, rfl, h⟩ := h_
   refine ⟨_, rfl, ?_⟩
   refine LW.rd hL rfl (Wants.free rfl) rfl (Rd.pickF rfl hb1 rfl) ?_
   exact LW.sub hL (by exact ⟨rfl, rfl, rfl, rfl, trivial⟩) (K1 r3 w3 h)
 intro b2 w2 h_
 have h := hJ1 b2 w2 h_; clear h_
 refine LW.nil hL rfl ?_
 refine NW.then ?_
 refine CW.cond rfl (fun hb2 => ?_) (fun hb2 => ?_)
 ·replace h := h.1 hb2
  refine CW.seq ?_
  refine CW.region fun L hL => ?_
  refine LW.rd hL rfl (Wants.free rfl) rfl (Rd.move (v := .pointer a1) rfl) ?_
  refine LW.call hL rfl (Wants.free rfl) rfl (Cl.fn (f := 43) rfl Tryz.func43 (by kernel_rfl) rfl) h (fun e w4 h_ => ?_)
  clear h
  obtain ⟨r4, rfl, h⟩ := h_
  refine ⟨_, rfl, ?_⟩
  refine LW.rd hL rfl (Wants.free rfl) rfl (Rd.move (v := .bool r4) rfl) ?_
  obtain ⟨J2, hJ2, h1_J2, h0_J2⟩ := h
  suffices K2 : ∀ (b3 : Bool) (w5 : World), J2 b3 w5 → L 6 [(0, .pointer a1), (1, .pointer b1), (4, .bool false), (16, .bool b3)] w5 by
   rcases Bool.eq_false_or_eq_true r4 with hb3 | hb3
   ·have h := h1_J2 hb3
    refine LW.rd hL rfl (Wants.on rfl rfl rfl rfl rfl hb3) rfl (Rd.move (v := .pointer b1) rfl) ?_
    refine LW.call hL rfl (Wants.on rfl rfl rfl rfl rfl hb3) rfl (Cl.fn (f := 43) rfl Tryz.func43 (by kernel_rfl) rfl) h (fun e w6 h_ => ?_)
    clear h
    obtain ⟨r5, rfl, h⟩ := h_
    refine ⟨_, rfl, ?_⟩
    refine LW.rd hL rfl (Wants.free rfl) rfl (Rd.pickT rfl hb3 rfl) ?_
    exact LW.sub hL (by exact ⟨rfl, rfl, rfl, rfl, trivial⟩) (K2 r5 w6 h)
   ·have h := h0_J2 hb3
    refine LW.skip hL rfl (Skips.on rfl rfl rfl rfl rfl hb3) rfl ?_
    refine LW.skip hL rfl (Skips.on rfl rfl rfl rfl rfl hb3) rfl ?_
    refine LW.rd hL rfl (Wants.free rfl) rfl (Rd.pickF rfl hb3 rfl) ?_
    exact LW.sub hL (by exact ⟨rfl, rfl, rfl, rfl, trivial⟩) (K2 false w4 h)
  intro b3 w5 h_
  have h := hJ2 b3 w5 h_; clear h_
  refine LW.rd hL rfl (Wants.free rfl) rfl (Rd.assign (v := .bool b3) rfl) ?_
  refine LW.nil hL rfl ?_
  refine NW.then ?_
  refine CW.ret ?_
  refine RW.then ?_
  exact res1 rfl rfl ⟨b3, rfl, h⟩
 ·replace h := h.2 hb2
  refine CW.skip ?_
  refine NW.then ?_
  refine CW.seq ?_
  obtain ⟨w7, hw_w7⟩ : ∃ x, x = World.drew w2 := ⟨_, rfl⟩
  have hc_w7 := sil_drew (Chg.refl [] w2) hw_w7
  replace h := h  w7  hc_w7
  obtain ⟨a2, ha1, h⟩ := h
  obtain ⟨t1, t2, hc1, h⟩ := h
  obtain ⟨a3, ha2, h⟩ := h
  obtain ⟨t3, t4, hc2, h⟩ := h
  obtain ⟨t5, hc3, h⟩ := h
  obtain ⟨t6, hc4, h⟩ := h
  refine CW.drawn (fun w => CellsAt w a2 0 [.int .i64 t1, .int .i64 t2] ∧ CellsAt w a3 0 [.int .i64 t3, .int .i64 t4] ∧ w.cell? (a2.add 2) = some (.pointer t5) ∧ w.cell? (a3.add 2) = some (.pointer t6) ∧ True) 25 (by kernel_rfl) fun H hH => ?_
  rw [← hw_w7]
  have hS1 : CellsAt w7 a2 0 [.int .i64 t1, .int .i64 t2] ∧ CellsAt w7 a3 0 [.int .i64 t3, .int .i64 t4] ∧ w7.cell? (a2.add 2) = some (.pointer t5) ∧ w7.cell? (a3.add 2) = some (.pointer t6) ∧ True := ⟨hc1, hc2, hc3, hc4, trivial⟩
  refine HW.pure (i := 0) hH rfl (by kernel_rfl) (Wants.free rfl) rfl (fun _ => hS1) (Rd.move (v := .pointer a1) rfl) ?_
  refine HW.pure (i := 1) hH rfl (by kernel_rfl) (Wants.free rfl) rfl (fun _ => hS1) (Rd.nil (q := a2) (by rw [← ha1]; rfl)) ?_
  refine HW.pure (i := 2) hH rfl (by kernel_rfl) (Wants.free rfl) rfl (fun _ => hS1) (Rd.fa (v := .pointer (some a2)) rfl (fun _ => by kernel_rfl)) ?_
  refine HW.take (i := 3) hH rfl (by kernel_rfl) (by kernel_rfl) (Wants.free rfl) rfl (fun _ => hS1) (Rd.ldN (cs := [.int .i64 t1, .int .i64 t2]) rfl (by kernel_rfl) (by kernel_rfl) (fun w h => cellsAt_get h.1)) ?_
  refine HW.pure (i := 4) hH rfl (by kernel_rfl) (Wants.free rfl) rfl (fun _ => hS1) (Rd.move (v := .pointer b1) rfl) ?_
  refine HW.pure (i := 5) hH rfl (by kernel_rfl) (Wants.free rfl) rfl (fun _ => hS1) (Rd.nil (q := a3) (by rw [← ha2]; rfl)) ?_
  refine HW.pure (i := 6) hH rfl (by kernel_rfl) (Wants.free rfl) rfl (fun _ => hS1) (Rd.fa (v := .pointer (some a3)) rfl (fun _ => by kernel_rfl)) ?_
  refine HW.take (i := 7) hH rfl (by kernel_rfl) (by kernel_rfl) (Wants.free rfl) rfl (fun _ => hS1) (Rd.ldN (cs := [.int .i64 t3, .int .i64 t4]) rfl (by kernel_rfl) (by kernel_rfl) (fun w h => cellsAt_get h.2.1)) ?_
  refine HW.pure (i := 8) hH rfl (by kernel_rfl) (Wants.free rfl) rfl (fun _ => hS1) (Rd.bin (v := .bool ((t1 == t3) && (t2 == t4))) rfl rfl (fun w => eqS_37 _ _ _ _ w)) ?_
  refine HW.pure (i := 9) hH rfl (by kernel_rfl) (Wants.free rfl) rfl (fun _ => hS1) (Rd.move (v := .bool ((t1 == t3) && (t2 == t4))) rfl) ?_
  obtain ⟨J3, hJ3, h1_J3, h0_J3⟩ := h
  suffices K3 : ∀ (b4 : Bool) (w8 : World), (CellsAt w8 a2 0 [.int .i64 t1, .int .i64 t2] ∧ CellsAt w8 a3 0 [.int .i64 t3, .int .i64 t4] ∧ w8.cell? (a2.add 2) = some (.pointer t5) ∧ w8.cell? (a3.add 2) = some (.pointer t6) ∧ True) → J3 b4 w8 → H 8 #[true, true, true, true, true, true, true, true, true, true, true, true, true, true, true, true, true, true, true, true, false, false, false, false, false, false, false, false] [(0, .pointer a1), (1, .pointer b1), (4, .bool false), (36, .bool b4)] w8 by
   rcases Bool.eq_false_or_eq_true ((t1 == t3) && (t2 == t4)) with hb4 | hb4
   ·have h := h1_J3 hb4
    refine HW.pure (i := 10) hH rfl (by kernel_rfl) (Wants.on rfl rfl rfl rfl rfl hb4) rfl (fun _ => hS1) (Rd.move (v := .pointer a1) rfl) ?_
    refine HW.pure (i := 11) hH rfl (by kernel_rfl) (Wants.on rfl rfl rfl rfl rfl hb4) rfl (fun _ => hS1) (Rd.nil (q := a2) (by rw [← ha1]; rfl)) ?_
    refine HW.pure (i := 12) hH rfl (by kernel_rfl) (Wants.on rfl rfl rfl rfl rfl hb4) rfl (fun _ => hS1) (Rd.fa (v := .pointer (some (a2.add 2))) rfl (fun _ => by kernel_rfl)) ?_
    refine HW.take (i := 13) hH rfl (by kernel_rfl) (by kernel_rfl) (Wants.on rfl rfl rfl rfl rfl hb4) rfl (fun _ => hS1) (Rd.ld (v := .pointer t5) rfl (by kernel_rfl) (fun w h => h.2.2.1)) ?_
    refine HW.pure (i := 14) hH rfl (by kernel_rfl) (Wants.on rfl rfl rfl rfl rfl hb4) rfl (fun _ => hS1) (Rd.move (v := .pointer b1) rfl) ?_
    refine HW.pure (i := 15) hH rfl (by kernel_rfl) (Wants.on rfl rfl rfl rfl rfl hb4) rfl (fun _ => hS1) (Rd.nil (q := a3) (by rw [← ha2]; rfl)) ?_
    refine HW.pure (i := 16) hH rfl (by kernel_rfl) (Wants.on rfl rfl rfl rfl rfl hb4) rfl (fun _ => hS1) (Rd.fa (v := .pointer (some (a3.add 2))) rfl (fun _ => by kernel_rfl)) ?_
    refine HW.take (i := 17) hH rfl (by kernel_rfl) (by kernel_rfl) (Wants.on rfl rfl rfl rfl rfl hb4) rfl (fun _ => hS1) (Rd.ld (v := .pointer t6) rfl (by kernel_rfl) (fun w h => h.2.2.2.1)) ?_
    refine HW.call (i := 18) hH (by kernel_rfl) rfl (Wants.on rfl rfl rfl rfl rfl hb4) rfl (Cl.fn (f := 53) rfl Tryz.func53 (by kernel_rfl) rfl) h (fun e w9 h_ => ?_)
    clear h
    obtain ⟨r6, rfl, hS2, h⟩ := h_
    have hS3 := (⟨hS2.1, hS2.2.1, hS2.2.2.1, hS2.2.2.2, trivial⟩ : CellsAt w9 a2 0 [.int .i64 t1, .int .i64 t2] ∧ CellsAt w9 a3 0 [.int .i64 t3, .int .i64 t4] ∧ w9.cell? (a2.add 2) = some (.pointer t5) ∧ w9.cell? (a3.add 2) = some (.pointer t6) ∧ True)
    refine ⟨_, rfl, (fun _ => hS3), ?_⟩
    refine HW.pure (i := 19) hH rfl (by kernel_rfl) (Wants.free rfl) rfl (fun _ => hS3) (Rd.pickT rfl hb4 rfl) ?_
    exact HW.sub hH (by exact ⟨rfl, rfl, rfl, rfl, trivial⟩) (K3 r6 w9 hS3 h)
   ·have h := h0_J3 hb4
    refine HW.skip (i := 10) hH rfl (by kernel_rfl) (Skips.on rfl rfl rfl rfl rfl hb4) rfl (fun _ => hS1) ?_
    refine HW.skip (i := 11) hH rfl (by kernel_rfl) (Skips.on rfl rfl rfl rfl rfl hb4) rfl (fun _ => hS1) ?_
    refine HW.skip (i := 12) hH rfl (by kernel_rfl) (Skips.on rfl rfl rfl rfl rfl hb4) rfl (fun _ => hS1) ?_
    refine HW.skip (i := 13) hH rfl (by kernel_rfl) (Skips.on rfl rfl rfl rfl rfl hb4) rfl (fun _ => hS1) ?_
    refine HW.skip (i := 14) hH rfl (by kernel_rfl) (Skips.on rfl rfl rfl rfl rfl hb4) rfl (fun _ => hS1) ?_
    refine HW.skip (i := 15) hH rfl (by kernel_rfl) (Skips.on rfl rfl rfl rfl rfl hb4) rfl (fun _ => hS1) ?_
    refine HW.skip (i := 16) hH rfl (by kernel_rfl) (Skips.on rfl rfl rfl rfl rfl hb4) rfl (fun _ => hS1) ?_
    refine HW.skip (i := 17) hH rfl (by kernel_rfl) (Skips.on rfl rfl rfl rfl rfl hb4) rfl (fun _ => hS1) ?_
    refine HW.skip (i := 18) hH rfl (by kernel_rfl) (Skips.on rfl rfl rfl rfl rfl hb4) rfl (fun _ => hS1) ?_
    refine HW.pure (i := 19) hH rfl (by kernel_rfl) (Wants.free rfl) rfl (fun _ => hS1) (Rd.pickF rfl hb4 rfl) ?_
    exact HW.sub hH (by exact ⟨rfl, rfl, rfl, rfl, trivial⟩) (K3 false w7 hS1 h)
  intro b4 w8 hS4 h_
  have h := hJ3 b4 w8 h_; clear h_
  refine HW.pure (i := 20) hH rfl (by kernel_rfl) (Wants.free rfl) rfl (fun _ => hS4) (Rd.move (v := .bool b4) rfl) ?_
  obtain ⟨J4, hJ4, h1_J4, h0_J4⟩ := h
  suffices K4 : ∀ (b5 : Bool) (w10 : World), J4 b5 w10 → H 1 #[true, true, true, true, true, true, true, true, true, true, true, true, true, true, true, true, true, true, true, true, true, true, true, true, true, true, true, false] [(4, .bool false), (43, .bool b5)] w10 by
   rcases Bool.eq_false_or_eq_true b4 with hb5 | hb5
   ·have h := h1_J4 hb5
    refine HW.pure (i := 21) hH rfl (by kernel_rfl) (Wants.on rfl rfl rfl rfl rfl hb5) rfl (fun _ => hS4) (Rd.move (v := .pointer a1) rfl) ?_
    refine HW.pure (i := 23) hH rfl (by kernel_rfl) (Wants.on rfl rfl rfl rfl rfl hb5) rfl (fun _ => hS4) (Rd.move (v := .pointer b1) rfl) ?_
    refine HW.call (i := 22) hH (by kernel_rfl) rfl (Wants.on rfl rfl rfl rfl rfl hb5) rfl (Cl.fn (f := 55) rfl Tryz.func55 (by kernel_rfl) rfl) h (fun e w11 h_ => ?_)
    clear h
    obtain ⟨r7, rfl, hS5, h⟩ := h_
    have hS6 := (⟨hS5.1, hS5.2.1, hS5.2.2.1, hS5.2.2.2, trivial⟩ : CellsAt w11 a2 0 [.int .i64 t1, .int .i64 t2] ∧ CellsAt w11 a3 0 [.int .i64 t3, .int .i64 t4] ∧ w11.cell? (a2.add 2) = some (.pointer t5) ∧ w11.cell? (a3.add 2) = some (.pointer t6) ∧ True)
    refine ⟨_, rfl, (fun _ => hS6), ?_⟩
    refine HW.call (i := 24) hH (by kernel_rfl) rfl (Wants.on rfl rfl rfl rfl rfl hb5) rfl (Cl.fn (f := 55) rfl Tryz.func55 (by kernel_rfl) rfl) h (fun e w12 h_ => ?_)
    clear h
    obtain ⟨r8, rfl, hS7, h⟩ := h_
    have hS8 := (⟨hS7.1, hS7.2.1, hS7.2.2.1, hS7.2.2.2, trivial⟩ : CellsAt w12 a2 0 [.int .i64 t1, .int .i64 t2] ∧ CellsAt w12 a3 0 [.int .i64 t3, .int .i64 t4] ∧ w12.cell? (a2.add 2) = some (.pointer t5) ∧ w12.cell? (a3.add 2) = some (.pointer t6) ∧ True)
    refine ⟨_, rfl, (fun _ => hS8), ?_⟩
    refine HW.call (i := 25) hH (by kernel_rfl) rfl (Wants.on rfl rfl rfl rfl rfl hb5) rfl (Cl.fn (f := 54) rfl Tryz.func54 (by kernel_rfl) rfl) h (fun e w13 h_ => ?_)
    clear h
    obtain ⟨r9, rfl, h⟩ := h_
    refine ⟨_, rfl, (fun hc => by cases hc), ?_⟩
    refine HW.pure (i := 26) hH rfl (by kernel_rfl) (Wants.free rfl) rfl (fun hc => by cases hc) (Rd.pickT rfl hb5 rfl) ?_
    exact HW.sub hH (by exact ⟨rfl, rfl, trivial⟩) (K4 r9 w13 h)
   ·have h := h0_J4 hb5
    refine HW.skip (i := 21) hH rfl (by kernel_rfl) (Skips.on rfl rfl rfl rfl rfl hb5) rfl (fun _ => hS4) ?_
    refine HW.skip (i := 22) hH rfl (by kernel_rfl) (Skips.on rfl rfl rfl rfl rfl hb5) rfl (fun _ => hS4) ?_
    refine HW.skip (i := 23) hH rfl (by kernel_rfl) (Skips.on rfl rfl rfl rfl rfl hb5) rfl (fun _ => hS4) ?_
    refine HW.skip (i := 24) hH rfl (by kernel_rfl) (Skips.on rfl rfl rfl rfl rfl hb5) rfl (fun _ => hS4) ?_
    refine HW.skip1 (i := 25) hH (by kernel_rfl) rfl (Skips.on rfl rfl rfl rfl rfl hb5) rfl (fun hc => by cases hc) ?_
    refine HW.pure (i := 26) hH rfl (by kernel_rfl) (Wants.free rfl) rfl (fun hc => by cases hc) (Rd.pickF rfl hb5 rfl) ?_
    exact HW.sub hH (by exact ⟨rfl, rfl, trivial⟩) (K4 false w8 h)
  intro b5 w10 h_
  have h := hJ4 b5 w10 h_; clear h_
  refine HW.pure (i := 27) hH rfl (by kernel_rfl) (Wants.free rfl) rfl (fun hc => by cases hc) (Rd.assign (v := .bool b5) rfl) ?_
  refine HW.done hH (by kernel_rfl) ?_
  refine NW.then ?_
  refine CW.ret ?_
  exact res1 rfl rfl ⟨b5, rfl, h⟩
/- pomander/pomanderlaw12.same -/
def W_pomanderlaw12_same (f1 : Option Addr) (g1 : Int) (g2 : Int) (g3 : Int) (g4 : Option Addr) (g4n : Nat) (g4c : Nat) (g5 : Option Addr) (g5n : Nat) (g5c : Nat) (w : World) (R : Bool → World → Prop) : Prop :=
 ∀ (b3 b2 b1 : Nat) (w4 : World), (w.heap.size ≤ b3 ∧ b3 < w4.heap.size) → (w.heap.size ≤ b2 ∧ b2 < w4.heap.size) → (w.heap.size ≤ b1 ∧ b1 < w4.heap.size) → Chg [] w w4 → (Calls Tryz.prog 34 #[.pointer f1] w4 fun e w5 => ∃ (r2 : Value), e = .returned (r2) ∧ (Same w4 w5 [b3, b2, b1] ∧ (∃ (t1 : Bool), (∀ w : World, ((do eqGuard .eql 88 (.tmp 11) (.const (.nilFunc)) (r2) (.nilFunc); binOp .eql 88 (r2) (.nilFunc) : Sem Value)).run Tryz.prog w = .ok (.bool t1) w) ∧ ((t1 = true → ∀ (w6 : World), Chg [b2] w5 w6 → (R false w6)) ∧ (t1 = false → Calls Tryz.prog 34 #[.pointer f1] w5 fun e w7 => ∃ (r3 : Value), e = .returned (r3) ∧ (Same w5 w7 [b3, b2, b1] ∧ (∃ (S1 Sp1 : List (Int × Int × Int) → Prop) (keep1 : List Nat), XR.IsFn Tryz.prog r3 ∧ XR.Iterates Tryz.prog r3 (fun x : Int × Int × Int => #[.agg #[.int .i64 x.1, .int .i64 x.2.1], .int .u32 x.2.2]) S1 Sp1 keep1 w7 ∧ (∀ i_ ∈ keep1, i_ < w7.heap.size) ∧ ∃ (I1 : Int → List Nat → List (Int × Int × Int) → World → Prop) (X1 : Bool → Int → List Nat → List (Int × Int × Int) → World → Prop), (∀ (c1 : Int) (pre_ : List (Int × Int × Int)), XR.Stab w7 (fun O_ w_ => I1 c1 O_ pre_ w_)) ∧ (∀ (c2 : Bool) (c3 : Int) (pre_ : List (Int × Int × Int)), XR.Stab w7 (fun O_ w_ => X1 c2 c3 O_ pre_ w_)) ∧ (∀ (O1 : List Nat) (w8 : World), Chg [] w7 w8 → XR.InO w7 O1 w8 → I1 0 O1 ([]) w8) ∧ (∀ (l1 : Nat) (O1 : List Nat) (pre1 : List (Int × Int × Int)) (x1 : Int) (x2 : Int) (x3 : Int) (c1 : Int) (w8 : World), XR.InO w7 O1 w8 → l1 ∈ O1 → Sp1 (pre1 ++ [(x1, x2, x3)]) → I1 c1 O1 pre1 w8 → (∀ (b4 : Nat) (w11 : World), (w8.heap.size ≤ b4 ∧ b4 < w11.heap.size) → Chg [l1] w8 w11 → (∀ (w12 : World), Chg [] w11 w12 → (∃ J1 : Bool → World → Prop, (∀ (b5 : Bool) (w13 : World), J1 b5 w13 → ∃ J2 : Bool → World → Prop, (∀ (b6 : Bool) (w14 : World), J2 b6 w14 → (b6 = true → ∀ (w15 : World), Chg [b2] w14 w15 → ((w11.heap.size ≤ w15.heap.size ∧ X1 false c1 O1 (pre1 ++ [(x1, x2, x3)]) w15 ∧ Same w11 w15 (keep1 ++ O1)))) ∧ (b6 = false → ∀ (w16 : World), Chg [b3] w14 w16 → ((w11.heap.size ≤ w16.heap.size ∧ I1 (IntKind.wrap .i64 (c1 + 1)) O1 (pre1 ++ [(x1, x2, x3)]) w16 ∧ Same w11 w16 (keep1 ++ O1))))) ∧ ((b5 = false → ∃ a2 : Addr, g5 = some a2 ∧ (0 : Int) ≤ c1 ∧ c1 < (g5n : Int) ∧ (∃ (t4 : Int), w13.cell? ((a2.add (Int.toNat c1 * 3)).add 2) = some (.int .u32 t4) ∧ (J2 (!(t4 == x3)) w13))) ∧ (b5 = true → J2 true w13))) ∧ (((decide (c1 ≥ (g5n : Int))) = false → ∃ a1 : Addr, g5 = some a1 ∧ (0 : Int) ≤ c1 ∧ c1 < (g5n : Int) ∧ (∃ (t2 : Int) (t3 : Int), CellsAt w12 (a1.add (Int.toNat c1 * 3)) 0 [.int .i64 t2, .int .i64 t3] ∧ (J1 (!((t2 == x1) && (t3 == x2))) w12))) ∧ ((decide (c1 ≥ (g5n : Int))) = true → J1 true w12)))))) ∧ (∀ (d1 : Nat) (O2 : List Nat) (xs1 : List (Int × Int × Int)) (c1 : Int) (w17 : World), XR.InO w7 O2 w17 → d1 ∈ O2 → S1 xs1 → I1 c1 O2 xs1 w17 → (Calls Tryz.prog 36 #[.pointer f1] w17 fun e w18 => ∃ (r4 : Int) (r5 : Int), e = .returned (.tuple #[.int .i64 r4, .int .i64 r5]) ∧ (Same w17 w18 [b1, b2, b3, d1] ∧ (∀ (w19 : World), Chg [] w18 w19 → (∃ J3 : Bool → World → Prop, (∀ (b7 : Bool) (w20 : World), J3 b7 w20 → ∃ J4 : Bool → World → Prop, (∀ (b8 : Bool) (w22 : World), J4 b8 w22 → ∃ J5 : Bool → World → Prop, (∀ (b9 : Bool) (w24 : World), J5 b9 w24 → ∀ (w27 : World), Chg [b2] w24 w27 → (∀ w28 : World, Chg [d1] w27 w28 → (R b9 w28))) ∧ ((b8 = true → Calls Tryz.prog 33 #[.pointer f1] w22 fun e w25 => ∃ (r8 : Option Addr) (r8n : Nat) (r8c : Nat), e = .returned (.slice r8 r8n r8c) ∧ (Same w22 w25 [b1, b2, b3, d1] ∧ (Calls Tryz.prog 61 #[.slice r8 r8n r8c, .slice g4 g4n g4c] w25 fun e w26 => ∃ (r9 : Bool), e = .returned (.bool r9) ∧ (Same w25 w26 [b1, b2, b3, d1] ∧ (J5 r9 w26))))) ∧ (b8 = false → J5 false w22))) ∧ ((b7 = true → Calls Tryz.prog 60 #[.agg #[.int .i64 g1, .int .i64 g2, .int .i64 g3, .slice g4 g4n g4c, .slice g5 g5n g5c], .int .i64 12] w20 fun e w23 => ∃ (r7 : Int), e = .returned (.int .i64 r7) ∧ (Same w20 w23 [b1, b2, b3, d1] ∧ (J4 (r5 == r7) w23))) ∧ (b7 = false → J4 false w20))) ∧ (((c1 == (g5n : Int)) = true → Calls Tryz.prog 60 #[.agg #[.int .i64 g1, .int .i64 g2, .int .i64 g3, .slice g4 g4n g4c, .slice g5 g5n g5c], .int .i64 10] w19 fun e w21 => ∃ (r6 : Int), e = .returned (.int .i64 r6) ∧ (Same w19 w21 [b1, b2, b3, d1] ∧ (J3 (r4 == r6) w21))) ∧ ((c1 == (g5n : Int)) = false → J3 false w19))))))) ∧ (∀ (d2 : Nat) (O3 : List Nat) (xs2 : List (Int × Int × Int)) (c2 : Bool) (c3 : Int) (w29 : World), XR.InO w7 O3 w29 → d2 ∈ O3 → Sp1 xs2 → X1 c2 c3 O3 xs2 w29 → (∀ w30 : World, Chg [d2] w29 w30 → (R c2 w30))))))))))
set_option maxRecDepth 100000 in
theorem go_pomanderlaw12_same (f1 : Option Addr) (g1 : Int) (g2 : Int) (g3 : Int) (g4 : Option Addr) (g4n : Nat) (g4c : Nat) (g5 : Option Addr) (g5n : Nat) (g5c : Nat) (w : World) (R : Bool → World → Prop) (h : W_pomanderlaw12_same f1 g1 g2 g3 g4 g4n g4c g5 g5n g5c w R) : Calls Tryz.prog 29 #[.pointer f1, .agg #[.int .i64 g1, .int .i64 g2, .int .i64 g3, .slice g4 g4n g4c, .slice g5 g5n g5c]] w (fun e w' => ∃ (r1 : Bool), e = .returned (.bool r1) ∧ R r1 w') := by
 unfold W_pomanderlaw12_same at h
 refine XR.enterM (N := 74) Tryz.func29 rfl rfl ?_
 refine CW.seq ?_
 refine CW.region fun L hL => ?_
 obtain ⟨b1, hb_b1⟩ : ∃ b1, b1 = World.size w := ⟨_, rfl⟩
 obtain ⟨w1, hw_w1⟩ : ∃ w1, w1 = World.alloc w (.cells #[.int .i64 g1, .int .i64 g2, .int .i64 g3, .slice g4 g4n g4c, .slice g5 g5n g5c] 43) := ⟨_, rfl⟩
 refine LW.val hL rfl (Wants.free rfl) rfl (boxE hb_b1 hw_w1 (Vl.box (v := .agg #[.int .i64 g1, .int .i64 g2, .int .i64 g3, .slice g4 g4n g4c, .slice g5 g5n g5c]) rfl)) ?_
 have hB := Boxes.alloc (cs := [.int .i64 g1, .int .i64 g2, .int .i64 g3, .slice g4 g4n g4c, .slice g5 g5n g5c]) (T := 43) (Boxes.nil w) hb_b1 hw_w1
 have hlo_b1 := sil_lo (Chg.refl [] w) hb_b1
 have hc_w1 := sil_alloc (Chg.refl [] w) hw_w1
 obtain ⟨b2, hb_b2⟩ : ∃ b2, b2 = World.size w1 := ⟨_, rfl⟩
 obtain ⟨w2, hw_w2⟩ : ∃ w2, w2 = World.alloc w1 (.cells #[.bool false] 4) := ⟨_, rfl⟩
 refine LW.val hL rfl (Wants.free rfl) rfl (boxE hb_b2 hw_w2 (Vl.alloc (z := .bool false) (by kernel_rfl))) ?_
 replace hB := Boxes.alloc (cs := [.bool false]) (T := 4) hB hb_b2 hw_w2
 have hlo_b2 := sil_lo hc_w1 hb_b2
 have hc_w2 := sil_alloc hc_w1 hw_w2
 refine LW.nil hL rfl ?_
 refine NW.then ?_
 refine CW.seq ?_
 refine CW.region fun L hL => ?_
 obtain ⟨b3, hb_b3⟩ : ∃ b3, b3 = World.size w2 := ⟨_, rfl⟩
 obtain ⟨w3, hw_w3⟩ : ∃ w3, w3 = World.alloc w2 (.cells #[.int .i64 0] 3) := ⟨_, rfl⟩
 refine LW.val hL rfl (Wants.free rfl) rfl (boxE hb_b3 hw_w3 (Vl.alloc (z := .int .i64 0) (by kernel_rfl))) ?_
 replace hB := Boxes.alloc (cs := [.int .i64 0]) (T := 3) hB hb_b3 hw_w3
 have hlo_b3 := sil_lo hc_w2 hb_b3
 have hc_w3 := sil_alloc hc_w2 hw_w3
 obtain ⟨w4, hw_w4⟩ : ∃ x, x = World.setCell w3 (⟨b3, 0, none⟩ : Addr) (.int .i64 0) := ⟨_, rfl⟩
 refine LW.eff hL rfl (Wants.free rfl) rfl (stE hw_w4 (Ef.st rfl rfl rfl (by kernel_rfl) (box_cell (v := .int .i64 0) (hB.at (i := 0) rfl) rfl) (free_of (hB.at (i := 0) rfl) 0))) ?_
 replace hB : Boxes w4 [(b3, [.int .i64 0], 3), (b2, [.bool false], 4), (b1, [.int .i64 g1, .int .i64 g2, .int .i64 g3, .slice g4 g4n g4c, .slice g5 g5n g5c], 43)] := Boxes.store1  (i := 0) (o := 0) hB rfl rfl rfl rfl hw_w4
 have hc_w4 := sil_new hc_w3 (sil_c1 hw_w4) hlo_b3
 refine LW.nil hL rfl ?_
 refine NW.then ?_
 refine CW.seq ?_
 refine CW.seq ?_
 refine CW.region fun L hL => ?_
 refine LW.rd hL rfl (Wants.free rfl) rfl (Rd.move (v := .pointer f1) rfl) ?_
 replace h := h b3 b2 b1 w4 ⟨hlo_b3, lt_of_heap (hB.at (i := 0) rfl)⟩ ⟨hlo_b2, lt_of_heap (hB.at (i := 1) rfl)⟩ ⟨hlo_b1, lt_of_heap (hB.at (i := 2) rfl)⟩ hc_w4
 refine LW.call hL rfl (Wants.free rfl) rfl (Cl.fn (f := 34) rfl Tryz.func34 (by kernel_rfl) rfl) h (fun e w5 h_ => ?_)
 clear h
 obtain ⟨r2, rfl, h⟩ := h_
 obtain ⟨hsm1, h⟩ := h
 replace hB := Boxes.sameS hB hsm1 (by simp)
 refine ⟨_, rfl, ?_⟩
 obtain ⟨t1, hx1, h⟩ := h
 refine LW.rd hL rfl (Wants.free rfl) rfl (Rd.bin (v := .bool t1) rfl rfl hx1) ?_
 refine LW.nil hL rfl ?_
 refine NW.then ?_
 refine CW.cond rfl (fun hb1 => ?_) (fun hb1 => ?_)
 ·replace h := h.1 hb1
  refine CW.seq ?_
  refine CW.region fun L hL => ?_
  obtain ⟨w6, hw_w6⟩ : ∃ x, x = World.setCell w5 (⟨b2, 0, none⟩ : Addr) (.bool false) := ⟨_, rfl⟩
  refine LW.eff hL rfl (Wants.free rfl) rfl (stE hw_w6 (Ef.st rfl rfl rfl (by kernel_rfl) (box_cell (v := .bool false) (hB.at (i := 1) rfl) rfl) (free_of (hB.at (i := 1) rfl) 0))) ?_
  replace hB : Boxes w6 [(b3, [.int .i64 0], 3), (b2, [.bool false], 4), (b1, [.int .i64 g1, .int .i64 g2, .int .i64 g3, .slice g4 g4n g4c, .slice g5 g5n g5c], 43)] := Boxes.store1  (i := 1) (o := 0) hB rfl rfl rfl rfl hw_w6
  have hc_w6 : Chg [b2] w5 w6 := sil_more (Chg.refl [] w5) (sil_c1 hw_w6)
  refine LW.nil hL rfl ?_
  refine NW.then ?_
  replace h := h  w6  hc_w6
  refine CW.ret ?_
  refine RW.then ?_
  exact XR.res0M (vs := [.bool false]) (by exact (ResOK.c rfl (lv1 (by kernel_rfl) (box_cell (Boxes.at (i := 1) hB rfl) rfl)) ResOK.nil)) rfl ⟨false, rfl, h⟩
 ·replace h := h.2 hb1
  refine CW.skip ?_
  refine NW.then ?_
  refine CW.seq ?_
  refine CW.seq ?_
  refine CW.region fun L hL => ?_
  refine LW.rd hL rfl (Wants.free rfl) rfl (Rd.move (v := .pointer f1) rfl) ?_
  refine LW.call hL rfl (Wants.free rfl) rfl (Cl.fn (f := 34) rfl Tryz.func34 (by kernel_rfl) rfl) h (fun e w7 h_ => ?_)
  clear h
  obtain ⟨r3, rfl, h⟩ := h_
  obtain ⟨hsm2, h⟩ := h
  replace hB := Boxes.sameS hB hsm2 (by simp)
  refine ⟨_, rfl, ?_⟩
  refine LW.nil hL rfl ?_
  refine NW.then ?_
  refine CW.block ?_
  obtain ⟨S1, Sp1, keep1, hfn_, hit_, hkp_, I1, X1, hst_I1, hst_X1, h0_, hrd_, hdn_, hso_X1⟩ := h
  refine XR.CW.rangeV (α := Int × Int × Int) (enc := (fun x : Int × Int × Int => #[.agg #[.int .i64 x.1, .int .i64 x.2.1], .int .u32 x.2.2])) (S := S1) (Sp := Sp1) (keep := keep1) rfl hfn_ (fun _ => rfl) (by decide) hit_ (fun (O_ : List Nat) (pre_ : List (Int × Int × Int)) (w_ : World) => ∃ (c1 : Int), I1 c1 O_ pre_ w_ ∧ ∃ (u1 : Value), Boxes w_ [(b1, [.int .i64 g1, .int .i64 g2, .int .i64 g3, .slice g4 g4n g4c, .slice g5 g5n g5c], 43), (b2, [u1], 4), (b3, [.int .i64 c1], 3)]) (fun (c_ : Code) (O_ : List Nat) (pre_ : List (Int × Int × Int)) (w_ : World) => (c_ = Code.ret ∧ ∃ (c2 : Bool) (c3 : Int), X1 c2 c3 O_ pre_ w_ ∧ Boxes w_ [(b1, [.int .i64 g1, .int .i64 g2, .int .i64 g3, .slice g4 g4n g4c, .slice g5 g5n g5c], 43), (b2, [.bool c2], 4), (b3, [.int .i64 c3], 3)])) ?_ ?_ ?_ hkp_ ?_ ?_ ?_
  ·intro pre_ O_ O2_ A_ B_ hi_ hO_ hc_ hO2_ hg_
   have hB0_ := (hB.sel [2, 1, 0] (by decide) rfl)
   obtain ⟨c1, hi_, u1, hB⟩ := hi_
   exact ⟨c1, hst_I1 c1 pre_ O_ O2_ A_ B_ hi_ hO_ hc_ hO2_ hg_, u1, hB.stab hB0_ rfl hO_ hc_⟩
  ·intro c_ pre_ O_ O2_ A_ B_ hi_ hO_ hc_ hO2_ hg_
   have hB0_ := (hB.sel [2, 1, 0] (by decide) rfl)
   rcases hi_ with ⟨hcc_, c2, c3, hi_, hB⟩
   ·exact ⟨hcc_, c2, c3, hst_X1 c2 c3 pre_ O_ O2_ A_ B_ hi_ hO_ hc_ hO2_ hg_, hB.stab hB0_ rfl hO_ hc_⟩
  ·intro O_ A_ hc_ hO_
   exact ⟨0, h0_ O_ A_ hc_ hO_, .bool false, Boxes.chg (hB.sel [2, 1, 0] (by decide) rfl) hc_ (by simp)⟩
  ·intro l1 O1 pre1 x_ w8 hO_ hl_ hSp_ hi_
   obtain ⟨x1, x2, x3⟩ := x_
   obtain ⟨c1, hi_, u1, hB⟩ := hi_
   have h := hrd_ l1 O1 pre1 x1 x2 x3 c1 w8 hO_ hl_ hSp_ hi_
   refine XR.CW.seq ?_
   refine XR.CW.region fun L hL => ?_
   obtain ⟨b4, hb_b4⟩ : ∃ b4, b4 = World.size w8 := ⟨_, rfl⟩
   obtain ⟨w9, hw_w9⟩ : ∃ w9, w9 = World.alloc w8 (.cells #[.int .i64 0, .int .i64 0] 62) := ⟨_, rfl⟩
   refine XR.LW.val hL rfl (Wants.free rfl) rfl (boxE hb_b4 hw_w9 (Vl.alloc (z := .agg #[.int .i64 0, .int .i64 0]) (by kernel_rfl))) ?_
   replace hB := Boxes.alloc (cs := [.int .i64 0, .int .i64 0]) (T := 62) hB hb_b4 hw_w9
   have hlo_b4 := sil_lo (Chg.refl [] w8) hb_b4
   have hc_w9 := sil_alloc (Chg.refl [] w8) hw_w9
   obtain ⟨w10, hw_w10⟩ : ∃ x, x = setCells w9 (⟨b4, 0, none⟩ : Addr) 0 [.int .i64 x1, .int .i64 x2] := ⟨_, rfl⟩
   refine XR.LW.eff hL rfl (Wants.free rfl) rfl (stNE hw_w10 (Ef.stN (cs := [.int .i64 x1, .int .i64 x2]) rfl rfl (by kernel_rfl) (List.forall_mem_cons.2 ⟨rfl, (List.forall_mem_cons.2 ⟨rfl, (List.forall_mem_nil _)⟩)⟩) (has_of (hB.at (i := 0) rfl) (by simp)) (free_of' (hB.at (i := 0) rfl)))) ?_
   replace hB : Boxes w10 [(b4, [.int .i64 x1, .int .i64 x2], 62), (b1, [.int .i64 g1, .int .i64 g2, .int .i64 g3, .slice g4 g4n g4c, .slice g5 g5n g5c], 43), (b2, [u1], 4), (b3, [.int .i64 c1], 3)] := Boxes.store (vs := [.int .i64 x1, .int .i64 x2]) (i := 0) (o := 0) hB rfl rfl rfl rfl hw_w10
   have hc_w10 := sil_new hc_w9 (sil_cN hw_w10) hlo_b4
   refine XR.LW.nil hL rfl ?_
   refine XR.NW.then ?_
   refine XR.CW.region fun L hL => ?_
   refine XR.LW.rd hL rfl (Wants.free rfl) rfl (Rd.assign (v := .int .u32 x3) rfl) ?_
   refine XR.LW.nil hL rfl ?_
   refine XR.NW.begin hc_w10 (fun w11 hcb_w11 hlp_ hib_ => ?_)
   have hc_w11 : Chg [l1] w8 w11 := sil_more hc_w10 hcb_w11
   replace hB := hB.notloop hlp_ hcb_w11
   replace h := h b4 w11 ⟨hlo_b4, lt_of_heap (hB.at (i := 0) rfl)⟩ hc_w11
   refine XR.CW.block ?_
   refine XR.CW.seq ?_
   refine XR.CW.seq ?_
   obtain ⟨w12, hw_w12⟩ : ∃ x, x = World.drew w11 := ⟨_, rfl⟩
   have hc_w12 := sil_drew (Chg.refl [] w11) hw_w12
   replace hB := hB.drew hw_w12
   refine XR.CW.drawn (fun w => w = w12) 25 (by kernel_rfl) fun H hH => ?_
   rw [← hw_w12]
   refine XR.HW.take (i := 0) hH rfl (by kernel_rfl) (by kernel_rfl) (Wants.free rfl) rfl (fun _ => rfl) (Rd.ld (v := .int .i64 c1) rfl (by kernel_rfl) (eqs (box_cell (hB.at (i := 3) rfl) rfl))) ?_
   refine XR.HW.pure (i := 1) hH rfl (by kernel_rfl) (Wants.free rfl) rfl (fun _ => rfl) (Rd.fa (v := .pointer (some (⟨b1, 4, none⟩ : Addr))) rfl (fun _ => by kernel_rfl)) ?_
   refine XR.HW.take (i := 2) hH rfl (by kernel_rfl) (by kernel_rfl) (Wants.free rfl) rfl (fun _ => rfl) (Rd.ld (v := .slice g5 g5n g5c) rfl (by kernel_rfl) (eqs (box_cell (hB.at (i := 1) rfl) rfl))) ?_
   refine XR.HW.pure (i := 3) hH rfl (by kernel_rfl) (Wants.free rfl) rfl (fun _ => rfl) (Rd.builtin (v := .int .i64 (g5n : Int)) rfl (fun _ _ => by kernel_rfl)) ?_
   refine XR.HW.pure (i := 4) hH rfl (by kernel_rfl) (Wants.free rfl) rfl (fun _ => rfl) (Rd.bin (v := .bool (decide (c1 ≥ (g5n : Int)))) rfl rfl (fun w => by kernel_rfl)) ?_
   refine XR.HW.pure (i := 5) hH rfl (by kernel_rfl) (Wants.free rfl) rfl (fun _ => rfl) (Rd.move (v := .bool (decide (c1 ≥ (g5n : Int)))) rfl) ?_
   replace h := h  w12  hc_w12
   obtain ⟨J1, hJ1, h1_J1, h0_J1⟩ := h
   suffices K1 : ∀ (b5 : Bool) (w13 : World), (w13 = w12) → Boxes w13 [(b1, [.int .i64 g1, .int .i64 g2, .int .i64 g3, .slice g4 g4n g4c, .slice g5 g5n g5c], 43), (b2, [u1], 4), (b3, [.int .i64 c1], 3)] → J1 b5 w13 → H 10 #[true, true, true, true, true, true, true, true, true, true, true, true, true, true, true, false, false, false, false, false, false, false, false, false, false] [(0, .pointer f1), (3, .pointer (some (⟨b1, 0, none⟩ : Addr))), (4, .pointer (some (⟨b2, 0, none⟩ : Addr))), (5, .pointer (some (⟨b3, 0, none⟩ : Addr))), (7, .int .u32 x3), (15, .agg #[.int .i64 x1, .int .i64 x2]), (16, .int .u32 x3), (31, .bool b5)] w13 by
    rcases Bool.eq_false_or_eq_true (decide (c1 ≥ (g5n : Int))) with hb2 | hb2
    ·have h := h0_J1 hb2
     refine XR.HW.skip (i := 6) hH rfl (by kernel_rfl) (Skips.on rfl rfl rfl rfl rfl hb2) rfl (fun _ => rfl) ?_
     refine XR.HW.skip (i := 7) hH rfl (by kernel_rfl) (Skips.on rfl rfl rfl rfl rfl hb2) rfl (fun _ => rfl) ?_
     refine XR.HW.skip (i := 8) hH rfl (by kernel_rfl) (Skips.on rfl rfl rfl rfl rfl hb2) rfl (fun _ => rfl) ?_
     refine XR.HW.skip (i := 9) hH rfl (by kernel_rfl) (Skips.on rfl rfl rfl rfl rfl hb2) rfl (fun _ => rfl) ?_
     refine XR.HW.skip (i := 10) hH rfl (by kernel_rfl) (Skips.on rfl rfl rfl rfl rfl hb2) rfl (fun _ => rfl) ?_
     refine XR.HW.skip (i := 11) hH rfl (by kernel_rfl) (Skips.on rfl rfl rfl rfl rfl hb2) rfl (fun _ => rfl) ?_
     refine XR.HW.skip (i := 12) hH rfl (by kernel_rfl) (Skips.on rfl rfl rfl rfl rfl hb2) rfl (fun _ => rfl) ?_
     refine XR.HW.skip (i := 13) hH rfl (by kernel_rfl) (Skips.on rfl rfl rfl rfl rfl hb2) rfl (fun _ => rfl) ?_
     refine XR.HW.pure (i := 14) hH rfl (by kernel_rfl) (Wants.free rfl) rfl (fun _ => rfl) (Rd.pickT rfl hb2 rfl) ?_
     exact XR.HW.sub hH (by exact ⟨rfl, rfl, rfl, rfl, rfl, rfl, rfl, rfl, trivial⟩) (K1 true w12 rfl (by exact (hB.sel [1, 2, 3] (by decide) rfl)) h)
    ·have h := h1_J1 hb2
     refine XR.HW.pure (i := 6) hH rfl (by kernel_rfl) (Wants.on rfl rfl rfl rfl rfl hb2) rfl (fun _ => rfl) (Rd.fa (v := .pointer (some (⟨b1, 4, none⟩ : Addr))) rfl (fun _ => by kernel_rfl)) ?_
     refine XR.HW.take (i := 7) hH rfl (by kernel_rfl) (by kernel_rfl) (Wants.on rfl rfl rfl rfl rfl hb2) rfl (fun _ => rfl) (Rd.ld (v := .slice g5 g5n g5c) rfl (by kernel_rfl) (eqs (box_cell (hB.at (i := 1) rfl) rfl))) ?_
     refine XR.HW.take (i := 8) hH rfl (by kernel_rfl) (by kernel_rfl) (Wants.on rfl rfl rfl rfl rfl hb2) rfl (fun _ => rfl) (Rd.ld (v := .int .i64 c1) rfl (by kernel_rfl) (eqs (box_cell (hB.at (i := 3) rfl) rfl))) ?_
     obtain ⟨a1, he1, hi1, hi2, h⟩ := h
     refine XR.HW.pure (i := 9) hH rfl (by kernel_rfl) (Wants.on rfl rfl rfl rfl rfl hb2) rfl (fun _ => rfl) (Rd.iaS (q := a1) (sz := 3) (by rw [← he1]; rfl) rfl Tryz.underlying41 (by kernel_rfl) hi1 hi2) ?_
     refine XR.HW.pure (i := 10) hH rfl (by kernel_rfl) (Wants.on rfl rfl rfl rfl rfl hb2) rfl (fun _ => rfl) (Rd.fa (v := .pointer (some (a1.add (Int.toNat c1 * 3)))) rfl (fun _ => by kernel_rfl)) ?_
     obtain ⟨t2, t3, hc1, h⟩ := h
     refine XR.HW.take (i := 11) hH rfl (by kernel_rfl) (by kernel_rfl) (Wants.on rfl rfl rfl rfl rfl hb2) rfl (fun _ => rfl) (Rd.ldN (cs := [.int .i64 t2, .int .i64 t3]) rfl (by kernel_rfl) (by kernel_rfl) (cellsS hc1)) ?_
     refine XR.HW.take (i := 12) hH rfl (by kernel_rfl) (by kernel_rfl) (Wants.on rfl rfl rfl rfl rfl hb2) rfl (fun _ => rfl) (Rd.ldN (cs := [.int .i64 x1, .int .i64 x2]) rfl (by kernel_rfl) (by kernel_rfl) (cellsS (box_cells (hB.at (i := 0) rfl) rfl))) ?_
     refine XR.HW.pure (i := 13) hH rfl (by kernel_rfl) (Wants.on rfl rfl rfl rfl rfl hb2) rfl (fun _ => rfl) (Rd.bin (v := .bool (!((t2 == x1) && (t3 == x2)))) rfl rfl (fun w => neS_62 _ _ _ _ w)) ?_
     refine XR.HW.pure (i := 14) hH rfl (by kernel_rfl) (Wants.free rfl) rfl (fun _ => rfl) (Rd.pickF rfl hb2 rfl) ?_
     exact XR.HW.sub hH (by exact ⟨rfl, rfl, rfl, rfl, rfl, rfl, rfl, rfl, trivial⟩) (K1 (!((t2 == x1) && (t3 == x2))) w12 rfl (by exact (hB.sel [1, 2, 3] (by decide) rfl)) h)
   clear hB
   intro b5 w13 hS1 hB h_
   subst hS1
   have h := hJ1 b5 _ h_; clear h_
   refine XR.HW.pure (i := 15) hH rfl (by kernel_rfl) (Wants.free rfl) rfl (fun _ => rfl) (Rd.move (v := .bool b5) rfl) ?_
   obtain ⟨J2, hJ2, h1_J2, h0_J2⟩ := h
   suffices K2 : ∀ (b6 : Bool) (w14 : World), (w14 = w13) → Boxes w14 [(b1, [.int .i64 g1, .int .i64 g2, .int .i64 g3, .slice g4 g4n g4c, .slice g5 g5n g5c], 43), (b2, [u1], 4), (b3, [.int .i64 c1], 3)] → J2 b6 w14 → H 0 #[true, true, true, true, true, true, true, true, true, true, true, true, true, true, true, true, true, true, true, true, true, true, true, true, true] [(0, .pointer f1), (3, .pointer (some (⟨b1, 0, none⟩ : Addr))), (4, .pointer (some (⟨b2, 0, none⟩ : Addr))), (5, .pointer (some (⟨b3, 0, none⟩ : Addr))), (15, .agg #[.int .i64 x1, .int .i64 x2]), (16, .int .u32 x3), (41, .bool b6)] w14 by
    rcases Bool.eq_false_or_eq_true b5 with hb3 | hb3
    ·have h := h0_J2 hb3
     refine XR.HW.skip (i := 16) hH rfl (by kernel_rfl) (Skips.on rfl rfl rfl rfl rfl hb3) rfl (fun _ => rfl) ?_
     refine XR.HW.skip (i := 17) hH rfl (by kernel_rfl) (Skips.on rfl rfl rfl rfl rfl hb3) rfl (fun _ => rfl) ?_
     refine XR.HW.skip (i := 18) hH rfl (by kernel_rfl) (Skips.on rfl rfl rfl rfl rfl hb3) rfl (fun _ => rfl) ?_
     refine XR.HW.skip (i := 19) hH rfl (by kernel_rfl) (Skips.on rfl rfl rfl rfl rfl hb3) rfl (fun _ => rfl) ?_
     refine XR.HW.skip (i := 20) hH rfl (by kernel_rfl) (Skips.on rfl rfl rfl rfl rfl hb3) rfl (fun _ => rfl) ?_
     refine XR.HW.skip (i := 21) hH rfl (by kernel_rfl) (Skips.on rfl rfl rfl rfl rfl hb3) rfl (fun _ => rfl) ?_
     refine XR.HW.skip (i := 22) hH rfl (by kernel_rfl) (Skips.on rfl rfl rfl rfl rfl hb3) rfl (fun _ => rfl) ?_
     refine XR.HW.skip (i := 23) hH rfl (by kernel_rfl) (Skips.on rfl rfl rfl rfl rfl hb3) rfl (fun _ => rfl) ?_
     refine XR.HW.pure (i := 24) hH rfl (by kernel_rfl) (Wants.free rfl) rfl (fun _ => rfl) (Rd.pickT rfl hb3 rfl) ?_
     exact XR.HW.sub hH (by exact ⟨rfl, rfl, rfl, rfl, rfl, rfl, rfl, trivial⟩) (K2 true w13 rfl (by exact hB) h)
    ·have h := h1_J2 hb3
     refine XR.HW.pure (i := 16) hH rfl (by kernel_rfl) (Wants.on rfl rfl rfl rfl rfl hb3) rfl (fun _ => rfl) (Rd.fa (v := .pointer (some (⟨b1, 4, none⟩ : Addr))) rfl (fun _ => by kernel_rfl)) ?_
     refine XR.HW.take (i := 17) hH rfl (by kernel_rfl) (by kernel_rfl) (Wants.on rfl rfl rfl rfl rfl hb3) rfl (fun _ => rfl) (Rd.ld (v := .slice g5 g5n g5c) rfl (by kernel_rfl) (eqs (box_cell (hB.at (i := 0) rfl) rfl))) ?_
     refine XR.HW.take (i := 18) hH rfl (by kernel_rfl) (by kernel_rfl) (Wants.on rfl rfl rfl rfl rfl hb3) rfl (fun _ => rfl) (Rd.ld (v := .int .i64 c1) rfl (by kernel_rfl) (eqs (box_cell (hB.at (i := 2) rfl) rfl))) ?_
     obtain ⟨a2, he2, hi3, hi4, h⟩ := h
     refine XR.HW.pure (i := 19) hH rfl (by kernel_rfl) (Wants.on rfl rfl rfl rfl rfl hb3) rfl (fun _ => rfl) (Rd.iaS (q := a2) (sz := 3) (by rw [← he2]; rfl) rfl Tryz.underlying41 (by kernel_rfl) hi3 hi4) ?_
     refine XR.HW.pure (i := 20) hH rfl (by kernel_rfl) (Wants.on rfl rfl rfl rfl rfl hb3) rfl (fun _ => rfl) (Rd.fa (v := .pointer (some ((a2.add (Int.toNat c1 * 3)).add 2))) rfl (fun _ => by kernel_rfl)) ?_
     obtain ⟨t4, hc2, h⟩ := h
     refine XR.HW.take (i := 21) hH rfl (by kernel_rfl) (by kernel_rfl) (Wants.on rfl rfl rfl rfl rfl hb3) rfl (fun _ => rfl) (Rd.ld (v := .int .u32 t4) rfl (by kernel_rfl) (eqs hc2)) ?_
     refine XR.HW.pure (i := 22) hH rfl (by kernel_rfl) (Wants.on rfl rfl rfl rfl rfl hb3) rfl (fun _ => rfl) (Rd.move (v := .int .u32 x3) rfl) ?_
     refine XR.HW.pure (i := 23) hH rfl (by kernel_rfl) (Wants.on rfl rfl rfl rfl rfl hb3) rfl (fun _ => rfl) (Rd.bin (v := .bool (!(t4 == x3))) rfl rfl (fun w => by kernel_rfl)) ?_
     refine XR.HW.pure (i := 24) hH rfl (by kernel_rfl) (Wants.free rfl) rfl (fun _ => rfl) (Rd.pickF rfl hb3 rfl) ?_
     exact XR.HW.sub hH (by exact ⟨rfl, rfl, rfl, rfl, rfl, rfl, rfl, trivial⟩) (K2 (!(t4 == x3)) w13 rfl (by exact hB) h)
   clear hB
   intro b6 w14 hS2 hB h_
   subst hS2
   have h := hJ2 b6 _ h_; clear h_
   refine XR.HW.done hH (by kernel_rfl) ?_
   refine XR.NW.then ?_
   refine XR.CW.cond rfl (fun hb4 => ?_) (fun hb4 => ?_)
   ·replace h := h.1 hb4
    refine XR.CW.seq ?_
    refine XR.CW.region fun L hL => ?_
    obtain ⟨w15, hw_w15⟩ : ∃ x, x = World.setCell w14 (⟨b2, 0, none⟩ : Addr) (.bool false) := ⟨_, rfl⟩
    refine XR.LW.eff hL rfl (Wants.free rfl) rfl (stE hw_w15 (Ef.st rfl rfl rfl (by kernel_rfl) (box_cell (v := u1) (hB.at (i := 1) rfl) rfl) (free_of (hB.at (i := 1) rfl) 0))) ?_
    replace hB : Boxes w15 [(b1, [.int .i64 g1, .int .i64 g2, .int .i64 g3, .slice g4 g4n g4c, .slice g5 g5n g5c], 43), (b2, [.bool false], 4), (b3, [.int .i64 c1], 3)] := Boxes.store1  (i := 1) (o := 0) hB rfl rfl rfl rfl hw_w15
    have hc_w15 : Chg [b2] w14 w15 := sil_more (Chg.refl [] w14) (sil_c1 hw_w15)
    refine XR.LW.nil hL rfl ?_
    refine XR.NW.then ?_
    refine XR.CW.ret ?_
    refine RW.then ?_
    refine RW.block ?_
    replace h := h  w15  hc_w15
    exact fun a_ ha_ => ⟨h.1, (⟨rfl, false, c1, h.2.1, hB⟩), h.2.2⟩
   ·replace h := h.2 hb4
    refine XR.CW.skip ?_
    refine XR.NW.then ?_
    refine XR.CW.region fun L hL => ?_
    refine XR.LW.rd hL rfl (Wants.free rfl) rfl (Rd.ld (v := .int .i64 c1) rfl (by kernel_rfl) (eqs (box_cell (hB.at (i := 2) rfl) rfl))) ?_
    refine XR.LW.rd hL rfl (Wants.free rfl) rfl (Rd.bin (v := .int .i64 (IntKind.wrap .i64 (c1 + 1))) rfl rfl (fun w => by kernel_rfl)) ?_
    obtain ⟨w16, hw_w16⟩ : ∃ x, x = World.setCell w14 (⟨b3, 0, none⟩ : Addr) (.int .i64 (IntKind.wrap .i64 (c1 + 1))) := ⟨_, rfl⟩
    refine XR.LW.eff hL rfl (Wants.free rfl) rfl (stE hw_w16 (Ef.st rfl rfl rfl (by kernel_rfl) (box_cell (v := .int .i64 c1) (hB.at (i := 2) rfl) rfl) (free_of (hB.at (i := 2) rfl) 0))) ?_
    replace hB : Boxes w16 [(b1, [.int .i64 g1, .int .i64 g2, .int .i64 g3, .slice g4 g4n g4c, .slice g5 g5n g5c], 43), (b2, [u1], 4), (b3, [.int .i64 (IntKind.wrap .i64 (c1 + 1))], 3)] := Boxes.store1  (i := 2) (o := 0) hB rfl rfl rfl rfl hw_w16
    have hc_w16 : Chg [b3] w14 w16 := sil_more (Chg.refl [] w14) (sil_c1 hw_w16)
    refine XR.LW.nil hL rfl ?_
    refine NW.block ?_
    replace h := h  w16  hc_w16
    exact fun a_ ha_ => ⟨h.1, ⟨IntKind.wrap .i64 (c1 + 1), h.2.1, u1, hB⟩, h.2.2⟩
  ·intro d1 O2 xs1 w17 hO_ hd_ hdh_ hS_ hi_
   obtain ⟨c1, hi_, u1, hB⟩ := hi_
   have h := hdn_ d1 O2 xs1 c1 w17 hO_ hd_ hS_ hi_
   have hK := XR.Marks.cons (XR.Marks.nil _) hdh_ (by simp)
   refine NW.block ?_
   refine NW.then ?_
   refine CW.seq ?_
   refine CW.region fun L hL => ?_
   refine LW.rd hL rfl (Wants.free rfl) rfl (Rd.move (v := .pointer f1) rfl) ?_
   refine LW.call hL rfl (Wants.free rfl) rfl (Cl.fn (f := 36) rfl Tryz.func36 (by kernel_rfl) rfl) h (fun e w18 h_ => ?_)
   clear h
   obtain ⟨r4, r5, rfl, h⟩ := h_
   obtain ⟨hsm3, h⟩ := h
   replace hB := Boxes.sameS hB hsm3 (by simp)
   replace hK := XR.Marks.same hK hsm3 (by simp)
   refine ⟨_, rfl, ?_⟩
   refine LW.rd hL rfl (Wants.free rfl) rfl (Rd.move (v := .tuple #[.int .i64 r4, .int .i64 r5]) rfl) ?_
   refine LW.rd hL rfl (Wants.free rfl) rfl (Rd.extract (v := .int .i64 r4) rfl rfl) ?_
   refine LW.rd hL rfl (Wants.free rfl) rfl (Rd.extract (v := .int .i64 r5) rfl rfl) ?_
   refine LW.rd hL rfl (Wants.free rfl) rfl (Rd.assign (v := .int .i64 r4) rfl) ?_
   refine LW.rd hL rfl (Wants.free rfl) rfl (Rd.assign (v := .int .i64 r5) rfl) ?_
   refine LW.nil hL rfl ?_
   refine NW.then ?_
   refine CW.seq ?_
   obtain ⟨w19, hw_w19⟩ : ∃ x, x = World.drew w18 := ⟨_, rfl⟩
   have hc_w19 := sil_drew (Chg.refl [] w18) hw_w19
   replace hB := hB.drew hw_w19
   replace hK := XR.Marks.drew hK hw_w19
   refine CW.drawn (fun w => Boxes w [(b3, [.int .i64 c1], 3), (b1, [.int .i64 g1, .int .i64 g2, .int .i64 g3, .slice g4 g4n g4c, .slice g5 g5n g5c], 43)]) 25 (by kernel_rfl) fun H hH => ?_
   rw [← hw_w19]
   have hS3 : Boxes w19 [(b3, [.int .i64 c1], 3), (b1, [.int .i64 g1, .int .i64 g2, .int .i64 g3, .slice g4 g4n g4c, .slice g5 g5n g5c], 43)] := (hB.sel [2, 0] (by decide) rfl)
   refine HW.take (i := 0) hH rfl (by kernel_rfl) (by kernel_rfl) (Wants.free rfl) rfl (fun _ => hS3) (Rd.ld (v := .int .i64 c1) rfl (by kernel_rfl) (fun w h => box_cell (Boxes.at (i := 0) h rfl) rfl)) ?_
   refine HW.pure (i := 1) hH rfl (by kernel_rfl) (Wants.free rfl) rfl (fun _ => hS3) (Rd.fa (v := .pointer (some (⟨b1, 4, none⟩ : Addr))) rfl (fun _ => by kernel_rfl)) ?_
   refine HW.take (i := 2) hH rfl (by kernel_rfl) (by kernel_rfl) (Wants.free rfl) rfl (fun _ => hS3) (Rd.ld (v := .slice g5 g5n g5c) rfl (by kernel_rfl) (fun w h => box_cell (Boxes.at (i := 1) h rfl) rfl)) ?_
   refine HW.pure (i := 3) hH rfl (by kernel_rfl) (Wants.free rfl) rfl (fun _ => hS3) (Rd.builtin (v := .int .i64 (g5n : Int)) rfl (fun _ _ => by kernel_rfl)) ?_
   refine HW.pure (i := 4) hH rfl (by kernel_rfl) (Wants.free rfl) rfl (fun _ => hS3) (Rd.bin (v := .bool (c1 == (g5n : Int))) rfl rfl (fun w => by kernel_rfl)) ?_
   refine HW.pure (i := 5) hH rfl (by kernel_rfl) (Wants.free rfl) rfl (fun _ => hS3) (Rd.move (v := .bool (c1 == (g5n : Int))) rfl) ?_
   replace h := h  w19  hc_w19
   obtain ⟨J3, hJ3, h1_J3, h0_J3⟩ := h
   suffices K3 : ∀ (b7 : Bool) (w20 : World), (Boxes w20 [(b3, [.int .i64 c1], 3), (b1, [.int .i64 g1, .int .i64 g2, .int .i64 g3, .slice g4 g4n g4c, .slice g5 g5n g5c], 43)]) → XR.Marks w20 [d1] → Boxes w20 [(b1, [.int .i64 g1, .int .i64 g2, .int .i64 g3, .slice g4 g4n g4c, .slice g5 g5n g5c], 43), (b2, [u1], 4), (b3, [.int .i64 c1], 3)] → J3 b7 w20 → H 15 #[true, true, true, true, true, true, true, true, true, true, true, false, false, false, false, false, false, false, false, false, false, false, false, false, false, false] [(0, .pointer f1), (3, .pointer (some (⟨b1, 0, none⟩ : Addr))), (4, .pointer (some (⟨b2, 0, none⟩ : Addr))), (9, .int .i64 r5), (59, .bool b7)] w20 by
    rcases Bool.eq_false_or_eq_true (c1 == (g5n : Int)) with hb5 | hb5
    ·have h := h1_J3 hb5
     refine HW.pure (i := 6) hH rfl (by kernel_rfl) (Wants.on rfl rfl rfl rfl rfl hb5) rfl (fun _ => hS3) (Rd.move (v := .int .i64 r4) rfl) ?_
     refine HW.take (i := 7) hH rfl (by kernel_rfl) (by kernel_rfl) (Wants.on rfl rfl rfl rfl rfl hb5) rfl (fun _ => hS3) (Rd.ldN (cs := [.int .i64 g1, .int .i64 g2, .int .i64 g3, .slice g4 g4n g4c, .slice g5 g5n g5c]) rfl (by kernel_rfl) (by kernel_rfl) (fun w h => cellsAt_get (box_cells (Boxes.at (i := 1) h rfl) rfl))) ?_
     refine HW.call (i := 8) hH (by kernel_rfl) rfl (Wants.on rfl rfl rfl rfl rfl hb5) rfl (Cl.fn (f := 60) rfl Tryz.func60 (by kernel_rfl) rfl) h (fun e w21 h_ => ?_)
     clear h
     obtain ⟨r6, rfl, h⟩ := h_
     obtain ⟨hsm4, h⟩ := h
     replace hB := Boxes.sameS hB hsm4 (by simp)
     replace hK := XR.Marks.same hK hsm4 (by simp)
     have hS4 : Boxes w21 [(b3, [.int .i64 c1], 3), (b1, [.int .i64 g1, .int .i64 g2, .int .i64 g3, .slice g4 g4n g4c, .slice g5 g5n g5c], 43)] := (hB.sel [2, 0] (by decide) rfl)
     refine ⟨_, rfl, (fun _ => hS4), ?_⟩
     refine HW.pure (i := 9) hH rfl (by kernel_rfl) (Wants.on rfl rfl rfl rfl rfl hb5) rfl (fun _ => hS4) (Rd.bin (v := .bool (r4 == r6)) rfl rfl (fun w => by kernel_rfl)) ?_
     refine HW.pure (i := 10) hH rfl (by kernel_rfl) (Wants.free rfl) rfl (fun _ => hS4) (Rd.pickT rfl hb5 rfl) ?_
     exact HW.sub hH (by exact ⟨rfl, rfl, rfl, rfl, rfl, trivial⟩) (K3 (r4 == r6) w21 hS4 hK (by exact hB) h)
    ·have h := h0_J3 hb5
     refine HW.skip (i := 6) hH rfl (by kernel_rfl) (Skips.on rfl rfl rfl rfl rfl hb5) rfl (fun _ => hS3) ?_
     refine HW.skip (i := 7) hH rfl (by kernel_rfl) (Skips.on rfl rfl rfl rfl rfl hb5) rfl (fun _ => hS3) ?_
     refine HW.skip (i := 8) hH rfl (by kernel_rfl) (Skips.on rfl rfl rfl rfl rfl hb5) rfl (fun _ => hS3) ?_
     refine HW.skip (i := 9) hH rfl (by kernel_rfl) (Skips.on rfl rfl rfl rfl rfl hb5) rfl (fun _ => hS3) ?_
     refine HW.pure (i := 10) hH rfl (by kernel_rfl) (Wants.free rfl) rfl (fun _ => hS3) (Rd.pickF rfl hb5 rfl) ?_
     exact HW.sub hH (by exact ⟨rfl, rfl, rfl, rfl, rfl, trivial⟩) (K3 false w19 hS3 hK (by exact hB) h)
   clear hK hB
   intro b7 w20 hS5 hK hB h_
   have h := hJ3 b7 w20 h_; clear h_
   refine HW.pure (i := 11) hH rfl (by kernel_rfl) (Wants.free rfl) rfl (fun _ => hS5) (Rd.move (v := .bool b7) rfl) ?_
   obtain ⟨J4, hJ4, h1_J4, h0_J4⟩ := h
   suffices K4 : ∀ (b8 : Bool) (w22 : World), (Boxes w22 [(b3, [.int .i64 c1], 3), (b1, [.int .i64 g1, .int .i64 g2, .int .i64 g3, .slice g4 g4n g4c, .slice g5 g5n g5c], 43)]) → XR.Marks w22 [d1] → Boxes w22 [(b1, [.int .i64 g1, .int .i64 g2, .int .i64 g3, .slice g4 g4n g4c, .slice g5 g5n g5c], 43), (b2, [u1], 4), (b3, [.int .i64 c1], 3)] → J4 b8 w22 → H 9 #[true, true, true, true, true, true, true, true, true, true, true, true, true, true, true, true, true, false, false, false, false, false, false, false, false, false] [(0, .pointer f1), (3, .pointer (some (⟨b1, 0, none⟩ : Addr))), (4, .pointer (some (⟨b2, 0, none⟩ : Addr))), (65, .bool b8)] w22 by
    rcases Bool.eq_false_or_eq_true b7 with hb6 | hb6
    ·have h := h1_J4 hb6
     refine HW.pure (i := 12) hH rfl (by kernel_rfl) (Wants.on rfl rfl rfl rfl rfl hb6) rfl (fun _ => hS5) (Rd.move (v := .int .i64 r5) rfl) ?_
     refine HW.take (i := 13) hH rfl (by kernel_rfl) (by kernel_rfl) (Wants.on rfl rfl rfl rfl rfl hb6) rfl (fun _ => hS5) (Rd.ldN (cs := [.int .i64 g1, .int .i64 g2, .int .i64 g3, .slice g4 g4n g4c, .slice g5 g5n g5c]) rfl (by kernel_rfl) (by kernel_rfl) (fun w h => cellsAt_get (box_cells (Boxes.at (i := 1) h rfl) rfl))) ?_
     refine HW.call (i := 14) hH (by kernel_rfl) rfl (Wants.on rfl rfl rfl rfl rfl hb6) rfl (Cl.fn (f := 60) rfl Tryz.func60 (by kernel_rfl) rfl) h (fun e w23 h_ => ?_)
     clear h
     obtain ⟨r7, rfl, h⟩ := h_
     obtain ⟨hsm5, h⟩ := h
     replace hB := Boxes.sameS hB hsm5 (by simp)
     replace hK := XR.Marks.same hK hsm5 (by simp)
     have hS6 : Boxes w23 [(b3, [.int .i64 c1], 3), (b1, [.int .i64 g1, .int .i64 g2, .int .i64 g3, .slice g4 g4n g4c, .slice g5 g5n g5c], 43)] := (hB.sel [2, 0] (by decide) rfl)
     refine ⟨_, rfl, (fun _ => hS6), ?_⟩
     refine HW.pure (i := 15) hH rfl (by kernel_rfl) (Wants.on rfl rfl rfl rfl rfl hb6) rfl (fun _ => hS6) (Rd.bin (v := .bool (r5 == r7)) rfl rfl (fun w => by kernel_rfl)) ?_
     refine HW.pure (i := 16) hH rfl (by kernel_rfl) (Wants.free rfl) rfl (fun _ => hS6) (Rd.pickT rfl hb6 rfl) ?_
     exact HW.sub hH (by exact ⟨rfl, rfl, rfl, rfl, trivial⟩) (K4 (r5 == r7) w23 hS6 hK (by exact hB) h)
    ·have h := h0_J4 hb6
     refine HW.skip (i := 12) hH rfl (by kernel_rfl) (Skips.on rfl rfl rfl rfl rfl hb6) rfl (fun _ => hS5) ?_
     refine HW.skip (i := 13) hH rfl (by kernel_rfl) (Skips.on rfl rfl rfl rfl rfl hb6) rfl (fun _ => hS5) ?_
     refine HW.skip (i := 14) hH rfl (by kernel_rfl) (Skips.on rfl rfl rfl rfl rfl hb6) rfl (fun _ => hS5) ?_
     refine HW.skip (i := 15) hH rfl (by kernel_rfl) (Skips.on rfl rfl rfl rfl rfl hb6) rfl (fun _ => hS5) ?_
     refine HW.pure (i := 16) hH rfl (by kernel_rfl) (Wants.free rfl) rfl (fun _ => hS5) (Rd.pickF rfl hb6 rfl) ?_
     exact HW.sub hH (by exact ⟨rfl, rfl, rfl, rfl, trivial⟩) (K4 false w20 hS5 hK (by exact hB) h)
   clear hK hB
   intro b8 w22 hS7 hK hB h_
   have h := hJ4 b8 w22 h_; clear h_
   refine HW.pure (i := 17) hH rfl (by kernel_rfl) (Wants.free rfl) rfl (fun _ => hS7) (Rd.move (v := .bool b8) rfl) ?_
   obtain ⟨J5, hJ5, h1_J5, h0_J5⟩ := h
   suffices K5 : ∀ (b9 : Bool) (w24 : World), (Boxes w24 [(b3, [.int .i64 c1], 3), (b1, [.int .i64 g1, .int .i64 g2, .int .i64 g3, .slice g4 g4n g4c, .slice g5 g5n g5c], 43)]) → XR.Marks w24 [d1] → Boxes w24 [(b1, [.int .i64 g1, .int .i64 g2, .int .i64 g3, .slice g4 g4n g4c, .slice g5 g5n g5c], 43), (b2, [u1], 4), (b3, [.int .i64 c1], 3)] → J5 b9 w24 → H 1 #[true, true, true, true, true, true, true, true, true, true, true, true, true, true, true, true, true, true, true, true, true, true, true, true, true, false] [(4, .pointer (some (⟨b2, 0, none⟩ : Addr))), (73, .bool b9)] w24 by
    rcases Bool.eq_false_or_eq_true b8 with hb7 | hb7
    ·have h := h1_J5 hb7
     refine HW.pure (i := 18) hH rfl (by kernel_rfl) (Wants.on rfl rfl rfl rfl rfl hb7) rfl (fun _ => hS7) (Rd.move (v := .pointer f1) rfl) ?_
     refine HW.pure (i := 20) hH rfl (by kernel_rfl) (Wants.on rfl rfl rfl rfl rfl hb7) rfl (fun _ => hS7) (Rd.fa (v := .pointer (some (⟨b1, 2, none⟩ : Addr))) rfl (fun _ => by kernel_rfl)) ?_
     refine HW.pure (i := 21) hH rfl (by kernel_rfl) (Wants.on rfl rfl rfl rfl rfl hb7) rfl (fun _ => hS7) (Rd.fa (v := .pointer (some (⟨b1, 3, none⟩ : Addr))) rfl (fun _ => by kernel_rfl)) ?_
     refine HW.take (i := 22) hH rfl (by kernel_rfl) (by kernel_rfl) (Wants.on rfl rfl rfl rfl rfl hb7) rfl (fun _ => hS7) (Rd.ld (v := .slice g4 g4n g4c) rfl (by kernel_rfl) (fun w h => box_cell (Boxes.at (i := 1) h rfl) rfl)) ?_
     refine HW.call (i := 19) hH (by kernel_rfl) rfl (Wants.on rfl rfl rfl rfl rfl hb7) rfl (Cl.fn (f := 33) rfl Tryz.func33 (by kernel_rfl) rfl) h (fun e w25 h_ => ?_)
     clear h
     obtain ⟨r8, r8n, r8c, rfl, h⟩ := h_
     obtain ⟨hsm6, h⟩ := h
     replace hB := Boxes.sameS hB hsm6 (by simp)
     replace hK := XR.Marks.same hK hsm6 (by simp)
     have hS8 : Boxes w25 [(b3, [.int .i64 c1], 3), (b1, [.int .i64 g1, .int .i64 g2, .int .i64 g3, .slice g4 g4n g4c, .slice g5 g5n g5c], 43)] := (hB.sel [2, 0] (by decide) rfl)
     refine ⟨_, rfl, (fun _ => hS8), ?_⟩
     refine HW.call (i := 23) hH (by kernel_rfl) rfl (Wants.on rfl rfl rfl rfl rfl hb7) rfl (Cl.fn (f := 61) rfl Tryz.func61 (by kernel_rfl) rfl) h (fun e w26 h_ => ?_)
     clear h
     obtain ⟨r9, rfl, h⟩ := h_
     obtain ⟨hsm7, h⟩ := h
     replace hB := Boxes.sameS hB hsm7 (by simp)
     replace hK := XR.Marks.same hK hsm7 (by simp)
     have hS9 : Boxes w26 [(b3, [.int .i64 c1], 3), (b1, [.int .i64 g1, .int .i64 g2, .int .i64 g3, .slice g4 g4n g4c, .slice g5 g5n g5c], 43)] := (hB.sel [2, 0] (by decide) rfl)
     refine ⟨_, rfl, (fun _ => hS9), ?_⟩
     refine HW.pure (i := 24) hH rfl (by kernel_rfl) (Wants.free rfl) rfl (fun _ => hS9) (Rd.pickT rfl hb7 rfl) ?_
     exact HW.sub hH (by exact ⟨rfl, rfl, trivial⟩) (K5 r9 w26 hS9 hK (by exact hB) h)
    ·have h := h0_J5 hb7
     refine HW.skip (i := 18) hH rfl (by kernel_rfl) (Skips.on rfl rfl rfl rfl rfl hb7) rfl (fun _ => hS7) ?_
     refine HW.skip (i := 19) hH rfl (by kernel_rfl) (Skips.on rfl rfl rfl rfl rfl hb7) rfl (fun _ => hS7) ?_
     refine HW.skip (i := 20) hH rfl (by kernel_rfl) (Skips.on rfl rfl rfl rfl rfl hb7) rfl (fun _ => hS7) ?_
     refine HW.skip (i := 21) hH rfl (by kernel_rfl) (Skips.on rfl rfl rfl rfl rfl hb7) rfl (fun _ => hS7) ?_
     refine HW.skip (i := 22) hH rfl (by kernel_rfl) (Skips.on rfl rfl rfl rfl rfl hb7) rfl (fun _ => hS7) ?_
     refine HW.skip (i := 23) hH rfl (by kernel_rfl) (Skips.on rfl rfl rfl rfl rfl hb7) rfl (fun _ => hS7) ?_
     refine HW.pure (i := 24) hH rfl (by kernel_rfl) (Wants.free rfl) rfl (fun _ => hS7) (Rd.pickF rfl hb7 rfl) ?_
     exact HW.sub hH (by exact ⟨rfl, rfl, trivial⟩) (K5 false w22 hS7 hK (by exact hB) h)
   clear hK hB
   intro b9 w24 hS10 hK hB h_
   have h := hJ5 b9 w24 h_; clear h_
   obtain ⟨w27, hw_w27⟩ : ∃ x, x = World.setCell w24 (⟨b2, 0, none⟩ : Addr) (.bool b9) := ⟨_, rfl⟩
   refine HW.eff (i := 25) hH (by kernel_rfl) rfl (Wants.free rfl) rfl (stE hw_w27 (Ef.st rfl rfl rfl (by kernel_rfl) (box_cell (v := u1) (hB.at (i := 1) rfl) rfl) (free_of (hB.at (i := 1) rfl) 0))) (fun hc => by cases hc) ?_
   replace hK := XR.Marks.set hK (hB.at (i := 1) rfl) (sil_c1 hw_w27)
   replace hB : Boxes w27 [(b1, [.int .i64 g1, .int .i64 g2, .int .i64 g3, .slice g4 g4n g4c, .slice g5 g5n g5c], 43), (b2, [.bool b9], 4), (b3, [.int .i64 c1], 3)] := Boxes.store1  (i := 1) (o := 0) hB rfl rfl rfl rfl hw_w27
   have hc_w27 : Chg [b2] w24 w27 := sil_more (Chg.refl [] w24) (sil_c1 hw_w27)
   refine HW.done hH (by kernel_rfl) ?_
   refine NW.then ?_
   replace h := h  w27  hc_w27
   refine CW.ret ?_
   exact XR.resM (ms := [d1]) (vs := [.bool b9]) hK rfl (fun w_ hc_ => ⟨(ResOK.c rfl (lv1 (by kernel_rfl) (box_cell (Boxes.at (i := 1) (hB.marks hK hc_) rfl) rfl)) ResOK.nil), b9, rfl, h w_ hc_⟩)
  ·intro d2 c_ O3 xs2 w29 hO_ hd_ hdh_ hS_ hi_
   rcases hi_ with ⟨rfl, c2, c3, hi_, hB⟩
   ·have h := hso_X1 d2 O3 xs2 c2 c3 w29 hO_ hd_ hS_ hi_
    have hK := XR.Marks.cons (XR.Marks.nil _) hdh_ (by simp)
    refine CW.ret ?_
    refine RW.block ?_
    refine RW.then ?_
    exact XR.resM (ms := [d2]) (vs := [.bool c2]) hK rfl (fun w_ hc_ => ⟨(ResOK.c rfl (lv1 (by kernel_rfl) (box_cell (Boxes.at (i := 1) (hB.marks hK hc_) rfl) rfl)) ResOK.nil), c2, rfl, h w_ hc_⟩)
end Go.Proofs.YtfcfkhbkkfpehaaGreat
end
section
namespace Go.Proofs.YtfcfkhbkkfpehaaGreat
open Go Go.X
/- pomander/labels.Same -/
def W_labels_Same (a1 : Option Addr) (b1 : Option Addr) (w : World) (R : Bool → World → Prop) : Prop :=
 Calls Tryz.prog 77 #[.pointer a1] w fun e w1 => ∃ (r2 : Bool), e = .returned (.bool r2) ∧ (∃ J1 : Bool → World → Prop, (∀ (b2 : Bool) (w2 : World), J1 b2 w2 → (b2 = true → Calls Tryz.prog 77 #[.pointer a1] w2 fun e w4 => ∃ (r4 : Bool), e = .returned (.bool r4) ∧ (∃ J2 : Bool → World → Prop, (∀ (b3 : Bool) (w5 : World), J2 b3 w5 → R b3 w5) ∧ ((r4 = true → Calls Tryz.prog 77 #[.pointer b1] w4 fun e w6 => ∃ (r5 : Bool), e = .returned (.bool r5) ∧ (J2 r5 w6)) ∧ (r4 = false → J2 false w4)))) ∧ (b2 = false → ∃ a2 : Addr, a1 = some a2 ∧ (∀ (w7 : World), Chg [] w2 w7 → (∃ (t1 : Int), w7.cell? a2 = some (.int .i64 t1) ∧ (∃ a3 : Addr, b1 = some a3 ∧ (∃ (t2 : Int), w7.cell? a3 = some (.int .i64 t2) ∧ (∃ J3 : Bool → World → Prop, (∀ (b4 : Bool) (w8 : World), J3 b4 w8 → R b4 w8) ∧ (((t1 == t2) = true → ∃ (t3 : Option Addr) (t3n : Nat) (t3c : Nat), w7.cell? (a2.add 1) = some (.slice t3 t3n t3c) ∧ (∃ (t4 : Option Addr) (t4n : Nat) (t4c : Nat), w7.cell? (a3.add 1) = some (.slice t4 t4n t4c) ∧ (Calls Tryz.prog 87 #[.slice t3 t3n t3c, .slice t4 t4n t4c] w7 fun e w9 => ∃ (r6 : Bool), e = .returned (.bool r6) ∧ (J3 r6 w9)))) ∧ ((t1 == t2) = false → J3 false w7))))))))) ∧ ((r2 = false → Calls Tryz.prog 77 #[.pointer b1] w1 fun e w3 => ∃ (r3 : Bool), e = .returned (.bool r3) ∧ (J1 r3 w3)) ∧ (r2 = true → J1 true w1)))
set_option maxRecDepth 100000 in
theorem go_labels_Same (a1 : Option Addr) (b1 : Option Addr) (w : World) (R : Bool → World → Prop) (h : W_labels_Same a1 b1 w R) : Calls Tryz.prog 53 #[.pointer a1, .pointer b1] w (fun e w' => ∃ (r1 : Bool), e = .returned (.bool r1) ∧ R r1 w') := by
 unfold W_labels_Same at h
 refine enter (N := 37) Tryz.func53 rfl rfl ?_
 refine CW.seq ?_
 refine CW.region fun L hL => ?_
 refine LW.rd hL rfl (Wants.free rfl) rfl (Rd.assign (v := .bool false) rfl) ?_
 refine LW.nil hL rfl ?_
 refine NW.then ?_
 refine CW.seq ?_
 refine CW.seq ?_
 refine CW.region fun L hL => ?_
 refine LW.rd hL rfl (Wants.free rfl) rfl (Rd.move (v := .pointer a1) rfl) ?_
 refine LW.call hL rfl (Wants.free rfl) rfl (Cl.fn (f := 77) rfl Tryz.func77 (by kernel_rfl) rfl) h (fun e w1 h_ => ?_)
 clear h
 obtain ⟨r2, rfl, h⟩ := h_
 refine ⟨_, rfl, ?_⟩
 refine LW.rd hL rfl (Wants.free rfl) rfl (Rd.move (v := .bool r2) rfl) ?_
 obtain ⟨J1, hJ1, h1_J1, h0_J1⟩ := h
 suffices K1 : ∀ (b2 : Bool) (w2 : World), J1 b2 w2 → L 6 [(0, .pointer a1), (1, .pointer b1), (4, .bool false), (10, .bool b2)] w2 by
  rcases Bool.eq_false_or_eq_true r2 with hb1 | hb1
  ·have h := h0_J1 hb1
   refine LW.skip hL rfl (Skips.on rfl rfl rfl rfl rfl hb1) rfl ?_
   refine LW.skip hL rfl (Skips.on rfl rfl rfl rfl rfl hb1) rfl ?_
   refine LW.rd hL rfl (Wants.free rfl) rfl (Rd.pickT rfl hb1 rfl) ?_
   exact LW.sub hL (by exact ⟨rfl, rfl, rfl, rfl, trivial⟩) (K1 true w1 h)
  ·have h := h1_J1 hb1
   refine LW.rd hL rfl (Wants.on rfl rfl rfl rfl rfl hb1) rfl (Rd.move (v := .pointer b1) rfl) ?_
   refine LW.call hL rfl (Wants.on rfl rfl rfl rfl rfl hb1) rfl (Cl.fn (f := 77) rfl Tryz.func77 (by kernel_rfl) rfl) h (fun e w3 h_ => ?_)
   clear h
   obtain ⟨r3, rfl, h⟩ := h_
   refine ⟨_, rfl, ?_⟩
   refine LW.rd hL rfl (Wants.free rfl) rfl (Rd.pickF rfl hb1 rfl) ?_
   exact LW.sub hL (by exact ⟨rfl, rfl, rfl, rfl, trivial⟩) (K1 r3 w3 h)
 intro b2 w2 h_
 have h := hJ1 b2 w2 h_; clear h_
 refine LW.nil hL rfl ?_
 refine NW.then ?_
 refine CW.cond rfl (fun hb2 => ?_) (fun hb2 => ?_)
 ·replace h := h.1 hb2
  refine CW.seq ?_
  refine CW.region fun L hL => ?_
  refine LW.rd hL rfl (Wants.free rfl) rfl (Rd.move (v := .pointer a1) rfl) ?_
  refine LW.call hL rfl (Wants.free rfl) rfl (Cl.fn (f := 77) rfl Tryz.func77 (by kernel_rfl) rfl) h (fun e w4 h_ => ?_)
  clear h
  obtain ⟨r4, rfl, h⟩ := h_
  refine ⟨_, rfl, ?_⟩
  refine LW.rd hL rfl (Wants.free rfl) rfl (Rd.move (v := .bool r4) rfl) ?_
  obtain ⟨J2, hJ2, h1_J2, h0_J2⟩ := h
  suffices K2 : ∀ (b3 : Bool) (w5 : World), J2 b3 w5 → L 6 [(0, .pointer a1), (1, .pointer b1), (4, .bool false), (16, .bool b3)] w5 by
   rcases Bool.eq_false_or_eq_true r4 with hb3 | hb3
   ·have h := h1_J2 hb3
    refine LW.rd hL rfl (Wants.on rfl rfl rfl rfl rfl hb3) rfl (Rd.move (v := .pointer b1) rfl) ?_
    refine LW.call hL rfl (Wants.on rfl rfl rfl rfl rfl hb3) rfl (Cl.fn (f := 77) rfl Tryz.func77 (by kernel_rfl) rfl) h (fun e w6 h_ => ?_)
    clear h
    obtain ⟨r5, rfl, h⟩ := h_
    refine ⟨_, rfl, ?_⟩
    refine LW.rd hL rfl (Wants.free rfl) rfl (Rd.pickT rfl hb3 rfl) ?_
    exact LW.sub hL (by exact ⟨rfl, rfl, rfl, rfl, trivial⟩) (K2 r5 w6 h)
   ·have h := h0_J2 hb3
    refine LW.skip hL rfl (Skips.on rfl rfl rfl rfl rfl hb3) rfl ?_
    refine LW.skip hL rfl (Skips.on rfl rfl rfl rfl rfl hb3) rfl ?_
    refine LW.rd hL rfl (Wants.free rfl) rfl (Rd.pickF rfl hb3 rfl) ?_
    exact LW.sub hL (by exact ⟨rfl, rfl, rfl, rfl, trivial⟩) (K2 false w4 h)
  intro b3 w5 h_
  have h := hJ2 b3 w5 h_; clear h_
  refine LW.rd hL rfl (Wants.free rfl) rfl (Rd.assign (v := .bool b3) rfl) ?_
  refine LW.nil hL rfl ?_
  refine NW.then ?_
  refine CW.ret ?_
  refine RW.then ?_
  exact res1 rfl rfl ⟨b3, rfl, h⟩
 ·replace h := h.2 hb2
  refine CW.skip ?_
  refine NW.then ?_
  refine CW.seq ?_
  obtain ⟨w7, hw_w7⟩ : ∃ x, x = World.drew w2 := ⟨_, rfl⟩
  have hc_w7 := sil_drew (Chg.refl [] w2) hw_w7
  refine CW.drawn (fun w => w = w7) 18 (by kernel_rfl) fun H hH => ?_
  rw [← hw_w7]
  refine HW.pure (i := 0) hH rfl (by kernel_rfl) (Wants.free rfl) rfl (fun _ => rfl) (Rd.move (v := .pointer a1) rfl) ?_
  obtain ⟨a2, ha1, h⟩ := h
  refine HW.pure (i := 1) hH rfl (by kernel_rfl) (Wants.free rfl) rfl (fun _ => rfl) (Rd.nil (q := a2) (by rw [← ha1]; rfl)) ?_
  refine HW.pure (i := 2) hH rfl (by kernel_rfl) (Wants.free rfl) rfl (fun _ => rfl) (Rd.fa (v := .pointer (some a2)) rfl (fun _ => by kernel_rfl)) ?_
  replace h := h  w7  hc_w7
  obtain ⟨t1, hc1, h⟩ := h
  refine HW.take (i := 3) hH rfl (by kernel_rfl) (by kernel_rfl) (Wants.free rfl) rfl (fun _ => rfl) (Rd.ld (v := .int .i64 t1) rfl (by kernel_rfl) (eqs hc1)) ?_
  refine HW.pure (i := 4) hH rfl (by kernel_rfl) (Wants.free rfl) rfl (fun _ => rfl) (Rd.move (v := .pointer b1) rfl) ?_
  obtain ⟨a3, ha2, h⟩ := h
  refine HW.pure (i := 5) hH rfl (by kernel_rfl) (Wants.free rfl) rfl (fun _ => rfl) (Rd.nil (q := a3) (by rw [← ha2]; rfl)) ?_
  refine HW.pure (i := 6) hH rfl (by kernel_rfl) (Wants.free rfl) rfl (fun _ => rfl) (Rd.fa (v := .pointer (some a3)) rfl (fun _ => by kernel_rfl)) ?_
  obtain ⟨t2, hc2, h⟩ := h
  refine HW.take (i := 7) hH rfl (by kernel_rfl) (by kernel_rfl) (Wants.free rfl) rfl (fun _ => rfl) (Rd.ld (v := .int .i64 t2) rfl (by kernel_rfl) (eqs hc2)) ?_
  refine HW.pure (i := 8) hH rfl (by kernel_rfl) (Wants.free rfl) rfl (fun _ => rfl) (Rd.bin (v := .bool (t1 == t2)) rfl rfl (fun w => by kernel_rfl)) ?_
  refine HW.pure (i := 9) hH rfl (by kernel_rfl) (Wants.free rfl) rfl (fun _ => rfl) (Rd.move (v := .bool (t1 == t2)) rfl) ?_
  obtain ⟨J3, hJ3, h1_J3, h0_J3⟩ := h
  suffices K3 : ∀ (b4 : Bool) (w8 : World), J3 b4 w8 → H 1 #[true, true, true, true, true, true, true, true, true, true, true, true, true, true, true, true, true, true, true, true, false] [(4, .bool false), (36, .bool b4)] w8 by
   rcases Bool.eq_false_or_eq_true (t1 == t2) with hb4 | hb4
   ·have h := h1_J3 hb4
    refine HW.pure (i := 10) hH rfl (by kernel_rfl) (Wants.on rfl rfl rfl rfl rfl hb4) rfl (fun _ => rfl) (Rd.move (v := .pointer a1) rfl) ?_
    refine HW.pure (i := 11) hH rfl (by kernel_rfl) (Wants.on rfl rfl rfl rfl rfl hb4) rfl (fun _ => rfl) (Rd.nil (q := a2) (by rw [← ha1]; rfl)) ?_
    refine HW.pure (i := 12) hH rfl (by kernel_rfl) (Wants.on rfl rfl rfl rfl rfl hb4) rfl (fun _ => rfl) (Rd.fa (v := .pointer (some (a2.add 1))) rfl (fun _ => by kernel_rfl)) ?_
    obtain ⟨t3, t3n, t3c, hc3, h⟩ := h
    refine HW.take (i := 13) hH rfl (by kernel_rfl) (by kernel_rfl) (Wants.on rfl rfl rfl rfl rfl hb4) rfl (fun _ => rfl) (Rd.ld (v := .slice t3 t3n t3c) rfl (by kernel_rfl) (eqs hc3)) ?_
    refine HW.pure (i := 14) hH rfl (by kernel_rfl) (Wants.on rfl rfl rfl rfl rfl hb4) rfl (fun _ => rfl) (Rd.move (v := .pointer b1) rfl) ?_
    refine HW.pure (i := 15) hH rfl (by kernel_rfl) (Wants.on rfl rfl rfl rfl rfl hb4) rfl (fun _ => rfl) (Rd.nil (q := a3) (by rw [← ha2]; rfl)) ?_
    refine HW.pure (i := 16) hH rfl (by kernel_rfl) (Wants.on rfl rfl rfl rfl rfl hb4) rfl (fun _ => rfl) (Rd.fa (v := .pointer (some (a3.add 1))) rfl (fun _ => by kernel_rfl)) ?_
    obtain ⟨t4, t4n, t4c, hc4, h⟩ := h
    refine HW.take (i := 17) hH rfl (by kernel_rfl) (by kernel_rfl) (Wants.on rfl rfl rfl rfl rfl hb4) rfl (fun _ => rfl) (Rd.ld (v := .slice t4 t4n t4c) rfl (by kernel_rfl) (eqs hc4)) ?_
    refine HW.call (i := 18) hH (by kernel_rfl) rfl (Wants.on rfl rfl rfl rfl rfl hb4) rfl (Cl.fn (f := 87) rfl Tryz.func87 (by kernel_rfl) rfl) h (fun e w9 h_ => ?_)
    clear h
    obtain ⟨r6, rfl, h⟩ := h_
    refine ⟨_, rfl, (fun hc => by cases hc), ?_⟩
    refine HW.pure (i := 19) hH rfl (by kernel_rfl) (Wants.free rfl) rfl (fun hc => by cases hc) (Rd.pickT rfl hb4 rfl) ?_
    exact HW.sub hH (by exact ⟨rfl, rfl, trivial⟩) (K3 r6 w9 h)
   ·have h := h0_J3 hb4
    refine HW.skip (i := 10) hH rfl (by kernel_rfl) (Skips.on rfl rfl rfl rfl rfl hb4) rfl (fun _ => rfl) ?_
    refine HW.skip (i := 11) hH rfl (by kernel_rfl) (Skips.on rfl rfl rfl rfl rfl hb4) rfl (fun _ => rfl) ?_
    refine HW.skip (i := 12) hH rfl (by kernel_rfl) (Skips.on rfl rfl rfl rfl rfl hb4) rfl (fun _ => rfl) ?_
    refine HW.skip (i := 13) hH rfl (by kernel_rfl) (Skips.on rfl rfl rfl rfl rfl hb4) rfl (fun _ => rfl) ?_
    refine HW.skip (i := 14) hH rfl (by kernel_rfl) (Skips.on rfl rfl rfl rfl rfl hb4) rfl (fun _ => rfl) ?_
    refine HW.skip (i := 15) hH rfl (by kernel_rfl) (Skips.on rfl rfl rfl rfl rfl hb4) rfl (fun _ => rfl) ?_
    refine HW.skip (i := 16) hH rfl (by kernel_rfl) (Skips.on rfl rfl rfl rfl rfl hb4) rfl (fun _ => rfl) ?_
    refine HW.skip (i := 17) hH rfl (by kernel_rfl) (Skips.on rfl rfl rfl rfl rfl hb4) rfl (fun _ => rfl) ?_
    refine HW.skip1 (i := 18) hH (by kernel_rfl) rfl (Skips.on rfl rfl rfl rfl rfl hb4) rfl (fun hc => by cases hc) ?_
    refine HW.pure (i := 19) hH rfl (by kernel_rfl) (Wants.free rfl) rfl (fun hc => by cases hc) (Rd.pickF rfl hb4 rfl) ?_
    exact HW.sub hH (by exact ⟨rfl, rfl, trivial⟩) (K3 false w7 h)
  intro b4 w8 h_
  have h := hJ3 b4 w8 h_; clear h_
  refine HW.pure (i := 20) hH rfl (by kernel_rfl) (Wants.free rfl) rfl (fun hc => by cases hc) (Rd.assign (v := .bool b4) rfl) ?_
  refine HW.done hH (by kernel_rfl) ?_
  refine NW.then ?_
  refine CW.ret ?_
  exact res1 rfl rfl ⟨b4, rfl, h⟩
/- maps.Equal[map[pomander/api.Place]uint32,map[pomander/api.Place]uint32,pomander/api.Place,uint32] -/
def W_maps_Equal_600 (m11 : Option Nat) (m21 : Option Nat) (w : World) (R : Bool → World → Prop) : Prop :=
 ∃ n1 : Int, (Builtin.len_ #[99] 3 #[.map m11]).run Tryz.prog w = .ok (.int .i64 n1) w ∧ (∃ n2 : Int, (Builtin.len_ #[99] 3 #[.map m21]).run Tryz.prog w = .ok (.int .i64 n2) w ∧ (((!(n1 == n2)) = true → R false w) ∧ ((!(n1 == n2)) = false → ∃ (it1 : Option Addr) (w1 : World), (Instr.range 99 (.map m11)).run Tryz.prog w = .ok (.pointer it1) w1 ∧ (∃ (I1 : Bool → World → Prop) (m1 : Bool → World → Nat), I1 false w1 ∧ ∀ (x1 : Bool) (w2 : World), I1 x1 w2 → ∃ (nx1 : Array Value) (ok1 : Bool) (w3 : World), (Instr.next (.pointer it1) false 0).run Tryz.prog w2 = .ok (.tuple nx1) w3 ∧ nx1[0]? = some (.bool ok1) ∧ ((ok1 = true → ∃ (k1 : Int) (k2 : Int) (v1 : Int), (Instr.entry (.pointer it1)).run Tryz.prog w3 = .ok (.tuple #[.agg #[.int .i64 k1, .int .i64 k2], .int .u32 v1]) w3 ∧ (∀ (b1 : Nat) (w5 : World), (w3.heap.size ≤ b1 ∧ b1 < w5.heap.size) → Chg [] w3 w5 → (∃ (v2 : Int) (ok2 : Bool), (Instr.lookup 99 (.map m21) (.agg #[.int .i64 k1, .int .i64 k2]) true).run Tryz.prog w5 = .ok (.tuple #[.int .u32 v2, .bool ok2]) w5 ∧ (((!ok2 || !(v1 == v2)) = true → R false w5) ∧ ((!ok2 || !(v1 == v2)) = false → (I1 x1 w5 ∧ m1 x1 w5 < m1 x1 w2)))))) ∧ (ok1 = false → R true w3))))))
set_option maxRecDepth 100000 in
theorem go_maps_Equal_600 (m11 : Option Nat) (m21 : Option Nat) (w : World) (R : Bool → World → Prop) (h : W_maps_Equal_600 m11 m21 w R) : Calls Tryz.prog 54 #[.map m11, .map m21] w (fun e w' => ∃ (r1 : Bool), e = .returned (.bool r1) ∧ R r1 w') := by
 unfold W_maps_Equal_600 at h
 refine enter (N := 34) Tryz.func54 rfl rfl ?_
 refine CW.seq ?_
 refine CW.region fun L hL => ?_
 refine LW.rd hL rfl (Wants.free rfl) rfl (Rd.assign (v := .bool false) rfl) ?_
 refine LW.nil hL rfl ?_
 refine NW.then ?_
 refine CW.seq ?_
 refine CW.seq ?_
 refine CW.region fun L hL => ?_
 refine LW.rd hL rfl (Wants.free rfl) rfl (Rd.move (v := .map m11) rfl) ?_
 obtain ⟨n1, hl1, h⟩ := h
 refine LW.rd hL rfl (Wants.free rfl) rfl (Rd.builtin (v := .int .i64 n1) rfl (fun _ e => e ▸ lenB hl1)) ?_
 refine LW.rd hL rfl (Wants.free rfl) rfl (Rd.move (v := .map m21) rfl) ?_
 obtain ⟨n2, hl2, h⟩ := h
 refine LW.rd hL rfl (Wants.free rfl) rfl (Rd.builtin (v := .int .i64 n2) rfl (fun _ e => e ▸ lenB hl2)) ?_
 refine LW.rd hL rfl (Wants.free rfl) rfl (Rd.bin (v := .bool (!(n1 == n2))) rfl rfl (fun w => by kernel_rfl)) ?_
 refine LW.nil hL rfl ?_
 refine NW.then ?_
 refine CW.cond rfl (fun hb1 => ?_) (fun hb1 => ?_)
 ·replace h := h.1 hb1
  refine CW.seq ?_
  refine CW.region fun L hL => ?_
  refine LW.rd hL rfl (Wants.free rfl) rfl (Rd.assign (v := .bool false) rfl) ?_
  refine LW.nil hL rfl ?_
  refine NW.then ?_
  refine CW.ret ?_
  refine RW.then ?_
  exact res1 rfl rfl ⟨false, rfl, h⟩
 ·replace h := h.2 hb1
  refine CW.skip ?_
  refine NW.then ?_
  refine CW.seq ?_
  refine CW.seq ?_
  refine CW.region fun L hL => ?_
  refine LW.rd hL rfl (Wants.free rfl) rfl (Rd.move (v := .map m11) rfl) ?_
  obtain ⟨it1, w1, hm1, h⟩ := h
  refine LW.val hL rfl (Wants.free rfl) rfl (Vl.range (v := .pointer it1) rfl hm1) ?_
  refine LW.nil hL rfl ?_
  refine NW.then ?_
  refine CW.block ?_
  obtain ⟨I1, m1, hI1, h⟩ := h
  refine CW.loop (S := Bool) (fun x1 => [(1, .map m21), (15, .pointer it1), (4, .bool x1)]) (fun x1 w2 => I1 x1 w2) (fun x1 w2 => m1 x1 w2) false (by exact ⟨rfl, rfl, rfl, trivial⟩) hI1 (fun x1 w2 hI1 => ?_)
  replace h := h x1 w2 hI1
  refine CW.seq ?_
  refine CW.region fun L hL => ?_
  obtain ⟨nx1, ok1, w3, hm2, hk1, h⟩ := h
  refine LW.val hL rfl (Wants.free rfl) rfl (Vl.next (v := .tuple nx1) rfl hm2) ?_
  refine LW.rd hL rfl (Wants.free rfl) rfl (Rd.extract (v := .bool ok1) rfl hk1) ?_
  refine LW.nil hL rfl ?_
  refine NW.then ?_
  refine CW.seq ?_
  refine CW.cond rfl (fun hb2 => ?_) (fun hb2 => ?_)
  ·replace h := h.1 hb2
   refine CW.skip ?_
   refine NW.then ?_
   refine CW.block ?_
   refine CW.seq ?_
   refine CW.region fun L hL => ?_
   obtain ⟨k1, k2, v1, hl3, h⟩ := h
   refine LW.rd hL rfl (Wants.free rfl) rfl (Rd.entry (v := .tuple #[.agg #[.int .i64 k1, .int .i64 k2], .int .u32 v1]) rfl (fun _ e => e ▸ hl3)) ?_
   refine LW.rd hL rfl (Wants.free rfl) rfl (Rd.extract (v := .agg #[.int .i64 k1, .int .i64 k2]) rfl rfl) ?_
   refine LW.rd hL rfl (Wants.free rfl) rfl (Rd.extract (v := .int .u32 v1) rfl rfl) ?_
   obtain ⟨b1, hb_b1⟩ : ∃ b1, b1 = World.size w3 := ⟨_, rfl⟩
   obtain ⟨w4, hw_w4⟩ : ∃ w4, w4 = World.alloc w3 (.cells #[.int .i64 0, .int .i64 0] 62) := ⟨_, rfl⟩
   refine LW.val hL rfl (Wants.free rfl) rfl (boxE hb_b1 hw_w4 (Vl.alloc (z := .agg #[.int .i64 0, .int .i64 0]) (by kernel_rfl))) ?_
   have hB := Boxes.alloc (cs := [.int .i64 0, .int .i64 0]) (T := 62) (Boxes.nil w3) hb_b1 hw_w4
   have hlo_b1 := sil_lo (Chg.refl [] w3) hb_b1
   have hc_w4 := sil_alloc (Chg.refl [] w3) hw_w4
   obtain ⟨w5, hw_w5⟩ : ∃ x, x = setCells w4 (⟨b1, 0, none⟩ : Addr) 0 [.int .i64 k1, .int .i64 k2] := ⟨_, rfl⟩
   refine LW.eff hL rfl (Wants.free rfl) rfl (stNE hw_w5 (Ef.stN (cs := [.int .i64 k1, .int .i64 k2]) rfl rfl (by kernel_rfl) (List.forall_mem_cons.2 ⟨rfl, (List.forall_mem_cons.2 ⟨rfl, (List.forall_mem_nil _)⟩)⟩) (has_of (hB.at (i := 0) rfl) (by simp)) (free_of' (hB.at (i := 0) rfl)))) ?_
   replace hB : Boxes w5 [(b1, [.int .i64 k1, .int .i64 k2], 62)] := Boxes.store (vs := [.int .i64 k1, .int .i64 k2]) (i := 0) (o := 0) hB rfl rfl rfl rfl hw_w5
   have hc_w5 := sil_new hc_w4 (sil_cN hw_w5) hlo_b1
   refine LW.rd hL rfl (Wants.free rfl) rfl (Rd.assign (v := .int .u32 v1) rfl) ?_
   refine LW.nil hL rfl ?_
   refine NW.then ?_
   refine CW.seq ?_
   refine CW.region fun L hL => ?_
   refine LW.rd hL rfl (Wants.free rfl) rfl (Rd.move (v := .map m21) rfl) ?_
   refine LW.rd hL rfl (Wants.free rfl) rfl (Rd.ldN (cs := [.int .i64 k1, .int .i64 k2]) rfl (by kernel_rfl) (by kernel_rfl) (cellsS (box_cells (hB.at (i := 0) rfl) rfl))) ?_
   replace h := h b1 w5 ⟨hlo_b1, lt_of_heap (hB.at (i := 0) rfl)⟩ hc_w5
   obtain ⟨v2, ok2, hl4, h⟩ := h
   refine LW.rd hL rfl (Wants.free rfl) rfl (Rd.lookup (v := .tuple #[.int .u32 v2, .bool ok2]) rfl rfl (fun _ e => e ▸ hl4)) ?_
   refine LW.rd hL rfl (Wants.free rfl) rfl (Rd.move (v := .tuple #[.int .u32 v2, .bool ok2]) rfl) ?_
   refine LW.rd hL rfl (Wants.free rfl) rfl (Rd.extract (v := .int .u32 v2) rfl rfl) ?_
   refine LW.rd hL rfl (Wants.free rfl) rfl (Rd.extract (v := .bool ok2) rfl rfl) ?_
   refine LW.rd hL rfl (Wants.free rfl) rfl (Rd.assign (v := .int .u32 v2) rfl) ?_
   refine LW.rd hL rfl (Wants.free rfl) rfl (Rd.assign (v := .bool ok2) rfl) ?_
   refine LW.nil hL rfl ?_
   refine NW.then ?_
   refine CW.seq ?_
   refine CW.region fun L hL => ?_
   refine LW.rd hL rfl (Wants.free rfl) rfl (Rd.move (v := .bool ok2) rfl) ?_
   refine LW.rd hL rfl (Wants.free rfl) rfl (Rd.un (v := .bool (!ok2)) rfl (fun _ => by kernel_rfl)) ?_
   refine LW.rd hL rfl (Wants.free rfl) rfl (Rd.move (v := .bool (!ok2)) rfl) ?_
   suffices K1 : L 7 [(1, .map m21), (4, .bool x1), (15, .pointer it1), (33, .bool (!ok2 || !(v1 == v2)))] w5 by
    rcases Bool.eq_false_or_eq_true (!ok2) with hb4 | hb4
    ·skip
     refine LW.skip hL rfl (Skips.on rfl rfl rfl rfl rfl hb4) rfl ?_
     refine LW.skip hL rfl (Skips.on rfl rfl rfl rfl rfl hb4) rfl ?_
     refine LW.skip hL rfl (Skips.on rfl rfl rfl rfl rfl hb4) rfl ?_
     refine LW.rd hL rfl (Wants.free rfl) rfl (Rd.pickT rfl hb4 rfl) ?_
     exact LW.sub hL (by exact ⟨rfl, rfl, rfl, (by rw [hb4]; rfl), trivial⟩) K1
    ·skip
     refine LW.rd hL rfl (Wants.on rfl rfl rfl rfl rfl hb4) rfl (Rd.move (v := .int .u32 v1) rfl) ?_
     refine LW.rd hL rfl (Wants.on rfl rfl rfl rfl rfl hb4) rfl (Rd.move (v := .int .u32 v2) rfl) ?_
     refine LW.rd hL rfl (Wants.on rfl rfl rfl rfl rfl hb4) rfl (Rd.bin (v := .bool (!(v1 == v2))) rfl rfl (fun w => by kernel_rfl)) ?_
     refine LW.rd hL rfl (Wants.free rfl) rfl (Rd.pickF rfl hb4 rfl) ?_
     exact LW.sub hL (by exact ⟨rfl, rfl, rfl, (by rw [hb4]; rfl), trivial⟩) K1
   refine LW.nil hL rfl ?_
   refine NW.then ?_
   refine CW.cond rfl (fun hb5 => ?_) (fun hb5 => ?_)
   ·replace h := h.1 hb5
    refine CW.seq ?_
    refine CW.region fun L hL => ?_
    refine LW.rd hL rfl (Wants.free rfl) rfl (Rd.assign (v := .bool false) rfl) ?_
    refine LW.nil hL rfl ?_
    refine NW.then ?_
    refine CW.ret ?_
    refine RW.block ?_
    refine RW.then ?_
    refine RW.block ?_
    refine RW.then ?_
    exact res1 rfl rfl ⟨false, rfl, h⟩
   ·replace h := h.2 hb5
    refine CW.skip ?_
    refine NW.block ?_
    exact NW.loop (S := Bool) (Ek := fun x1 => [(1, .map m21), (15, .pointer it1), (4, .bool x1)]) x1 (by exact ⟨rfl, rfl, rfl, trivial⟩) h
  ·replace h := h.2 hb2
   refine CW.exit ?_
   refine XW.then ?_
   refine XW.then ?_
   refine XW.hit ?_
   refine NW.then ?_
   refine CW.seq ?_
   refine CW.region fun L hL => ?_
   refine LW.rd hL rfl (Wants.free rfl) rfl (Rd.assign (v := .bool true) rfl) ?_
   refine LW.nil hL rfl ?_
   refine NW.then ?_
   refine CW.ret ?_
   exact res1 rfl rfl ⟨true, rfl, h⟩
/- slices.Equal[[]uint32,uint32] -/
def W_slices_Equal_334 (s11 : Option Addr) (s11n : Nat) (s11c : Nat) (s21 : Option Addr) (s21n : Nat) (s21c : Nat) (w : World) (R : Bool → World → Prop) : Prop :=
 ((!((s11n : Int) == (s21n : Int))) = true → R false w) ∧ ((!((s11n : Int) == (s21n : Int))) = false → ∃ (I1 : Bool → Int → World → Prop) (m1 : Bool → Int → World → Nat), I1 false 0 w ∧ ∀ (x1 : Bool) (x2 : Int) (w1 : World), I1 x1 x2 w1 → ((decide (x2 < (s11n : Int))) = true → ∃ a1 : Addr, s11 = some a1 ∧ (0 : Int) ≤ x2 ∧ x2 < (s11n : Int) ∧ (∀ (w2 : World), Chg [] w1 w2 → (∃ (t1 : Int), w2.cell? (a1.add (Int.toNat x2 * 1)) = some (.int .u32 t1) ∧ (∃ a2 : Addr, s21 = some a2 ∧ (0 : Int) ≤ x2 ∧ x2 < (s21n : Int) ∧ (∃ (t2 : Int), w2.cell? (a2.add (Int.toNat x2 * 1)) = some (.int .u32 t2) ∧ (((!(t1 == t2)) = true → R false w2) ∧ ((!(t1 == t2)) = false → (I1 x1 (IntKind.wrap .i64 (x2 + 1)) w2 ∧ m1 x1 (IntKind.wrap .i64 (x2 + 1)) w2 < m1 x1 x2 w1)))))))) ∧ ((decide (x2 < (s11n : Int))) = false → R true w1))
set_option maxRecDepth 100000 in
theorem go_slices_Equal_334 (s11 : Option Addr) (s11n : Nat) (s11c : Nat) (s21 : Option Addr) (s21n : Nat) (s21c : Nat) (w : World) (R : Bool → World → Prop) (h : W_slices_Equal_334 s11 s11n s11c s21 s21n s21c w R) : Calls Tryz.prog 87 #[.slice s11 s11n s11c, .slice s21 s21n s21c] w (fun e w' => ∃ (r1 : Bool), e = .returned (.bool r1) ∧ R r1 w') := by
 unfold W_slices_Equal_334 at h
 refine enter (N := 26) Tryz.func87 rfl rfl ?_
 refine CW.seq ?_
 refine CW.region fun L hL => ?_
 refine LW.rd hL rfl (Wants.free rfl) rfl (Rd.assign (v := .bool false) rfl) ?_
 refine LW.nil hL rfl ?_
 refine NW.then ?_
 refine CW.seq ?_
 refine CW.seq ?_
 refine CW.region fun L hL => ?_
 refine LW.rd hL rfl (Wants.free rfl) rfl (Rd.move (v := .slice s11 s11n s11c) rfl) ?_
 refine LW.rd hL rfl (Wants.free rfl) rfl (Rd.builtin (v := .int .i64 (s11n : Int)) rfl (fun _ _ => by kernel_rfl)) ?_
 refine LW.rd hL rfl (Wants.free rfl) rfl (Rd.move (v := .slice s21 s21n s21c) rfl) ?_
 refine LW.rd hL rfl (Wants.free rfl) rfl (Rd.builtin (v := .int .i64 (s21n : Int)) rfl (fun _ _ => by kernel_rfl)) ?_
 refine LW.rd hL rfl (Wants.free rfl) rfl (Rd.bin (v := .bool (!((s11n : Int) == (s21n : Int)))) rfl rfl (fun w => by kernel_rfl)) ?_
 refine LW.nil hL rfl ?_
 refine NW.then ?_
 refine CW.cond rfl (fun hb1 => ?_) (fun hb1 => ?_)
 ·replace h := h.1 hb1
  refine CW.seq ?_
  refine CW.region fun L hL => ?_
  refine LW.rd hL rfl (Wants.free rfl) rfl (Rd.assign (v := .bool false) rfl) ?_
  refine LW.nil hL rfl ?_
  refine NW.then ?_
  refine CW.ret ?_
  refine RW.then ?_
  exact res1 rfl rfl ⟨false, rfl, h⟩
 ·replace h := h.2 hb1
  refine CW.skip ?_
  refine NW.then ?_
  refine CW.seq ?_
  refine CW.seq ?_
  refine CW.region fun L hL => ?_
  refine LW.rd hL rfl (Wants.free rfl) rfl (Rd.move (v := .slice s11 s11n s11c) rfl) ?_
  refine LW.rd hL rfl (Wants.free rfl) rfl (Rd.builtin (v := .int .i64 (s11n : Int)) rfl (fun _ _ => by kernel_rfl)) ?_
  refine LW.rd hL rfl (Wants.free rfl) rfl (Rd.move (v := .int .i64 0) rfl) ?_
  refine LW.nil hL rfl ?_
  refine NW.then ?_
  refine CW.block ?_
  obtain ⟨I1, m1, hI1, h⟩ := h
  refine CW.loop (S := Bool × Int) (fun s1 => [(0, .slice s11 s11n s11c), (1, .slice s21 s21n s21c), (12, .int .i64 (s11n : Int)), (4, .bool s1.1), (13, .int .i64 s1.2)]) (fun s1 w1 => I1 s1.1 s1.2 w1) (fun s1 w1 => m1 s1.1 s1.2 w1) (false, 0) (by exact ⟨rfl, rfl, rfl, rfl, rfl, trivial⟩) hI1 (fun s1 w1 hI1 => ?_)
  obtain ⟨x1, x2⟩ := s1; replace h := h x1 x2 w1 hI1
  refine CW.seq ?_
  refine CW.region fun L hL => ?_
  refine LW.rd hL rfl (Wants.free rfl) rfl (Rd.bin (v := .bool (decide (x2 < (s11n : Int)))) rfl rfl (fun w => by kernel_rfl)) ?_
  refine LW.nil hL rfl ?_
  refine NW.then ?_
  refine CW.seq ?_
  refine CW.cond rfl (fun hb2 => ?_) (fun hb2 => ?_)
  ·replace h := h.1 hb2
   refine CW.skip ?_
   refine NW.then ?_
   refine CW.seq ?_
   refine CW.block ?_
   refine CW.seq ?_
   refine CW.region fun L hL => ?_
   refine LW.rd hL rfl (Wants.free rfl) rfl (Rd.move (v := .int .i64 x2) rfl) ?_
   refine LW.rd hL rfl (Wants.free rfl) rfl (Rd.assign (v := .int .i64 x2) rfl) ?_
   refine LW.nil hL rfl ?_
   refine NW.then ?_
   refine CW.seq ?_
   obtain ⟨w2, hw_w2⟩ : ∃ x, x = World.drew w1 := ⟨_, rfl⟩
   have hc_w2 := sil_drew (Chg.refl [] w1) hw_w2
   refine CW.drawn (fun w => w = w2) 9 (by kernel_rfl) fun H hH => ?_
   rw [← hw_w2]
   refine HW.pure (i := 0) hH rfl (by kernel_rfl) (Wants.free rfl) rfl (fun _ => rfl) (Rd.move (v := .slice s11 s11n s11c) rfl) ?_
   refine HW.pure (i := 1) hH rfl (by kernel_rfl) (Wants.free rfl) rfl (fun _ => rfl) (Rd.move (v := .int .i64 x2) rfl) ?_
   obtain ⟨a1, he1, hi1, hi2, h⟩ := h
   refine HW.pure (i := 2) hH rfl (by kernel_rfl) (Wants.free rfl) rfl (fun _ => rfl) (Rd.iaS (q := a1) (sz := 1) (by rw [← he1]; rfl) rfl Tryz.underlying38 (by kernel_rfl) hi1 hi2) ?_
   replace h := h  w2  hc_w2
   obtain ⟨t1, hc1, h⟩ := h
   refine HW.take (i := 3) hH rfl (by kernel_rfl) (by kernel_rfl) (Wants.free rfl) rfl (fun _ => rfl) (Rd.ld (v := .int .u32 t1) rfl (by kernel_rfl) (eqs hc1)) ?_
   refine HW.pure (i := 4) hH rfl (by kernel_rfl) (Wants.free rfl) rfl (fun _ => rfl) (Rd.move (v := .slice s21 s21n s21c) rfl) ?_
   refine HW.pure (i := 5) hH rfl (by kernel_rfl) (Wants.free rfl) rfl (fun _ => rfl) (Rd.move (v := .int .i64 x2) rfl) ?_
   obtain ⟨a2, he2, hi3, hi4, h⟩ := h
   refine HW.pure (i := 6) hH rfl (by kernel_rfl) (Wants.free rfl) rfl (fun _ => rfl) (Rd.iaS (q := a2) (sz := 1) (by rw [← he2]; rfl) rfl Tryz.underlying38 (by kernel_rfl) hi3 hi4) ?_
   obtain ⟨t2, hc2, h⟩ := h
   refine HW.take (i := 7) hH rfl (by kernel_rfl) (by kernel_rfl) (Wants.free rfl) rfl (fun _ => rfl) (Rd.ld (v := .int .u32 t2) rfl (by kernel_rfl) (eqs hc2)) ?_
   refine HW.pure (i := 8) hH rfl (by kernel_rfl) (Wants.free rfl) rfl (fun _ => rfl) (Rd.bin (v := .bool (!(t1 == t2))) rfl rfl (fun w => by kernel_rfl)) ?_
   refine HW.done hH (by kernel_rfl) ?_
   refine NW.then ?_
   refine CW.cond rfl (fun hb3 => ?_) (fun hb3 => ?_)
   ·replace h := h.1 hb3
    refine CW.seq ?_
    refine CW.region fun L hL => ?_
    refine LW.rd hL rfl (Wants.free rfl) rfl (Rd.assign (v := .bool false) rfl) ?_
    refine LW.nil hL rfl ?_
    refine NW.then ?_
    refine CW.ret ?_
    refine RW.block ?_
    refine RW.then ?_
    refine RW.then ?_
    refine RW.block ?_
    refine RW.then ?_
    exact res1 rfl rfl ⟨false, rfl, h⟩
   ·replace h := h.2 hb3
    refine CW.skip ?_
    refine NW.block ?_
    refine NW.then ?_
    refine CW.region fun L hL => ?_
    refine LW.rd hL rfl (Wants.free rfl) rfl (Rd.bin (v := .int .i64 (IntKind.wrap .i64 (x2 + 1))) rfl rfl (fun w => by kernel_rfl)) ?_
    refine LW.rd hL rfl (Wants.free rfl) rfl (Rd.move (v := .int .i64 (IntKind.wrap .i64 (x2 + 1))) rfl) ?_
    refine LW.nil hL rfl ?_
    exact NW.loop (S := Bool × Int) (Ek := fun s1 => [(0, .slice s11 s11n s11c), (1, .slice s21 s21n s21c), (12, .int .i64 (s11n : Int)), (4, .bool s1.1), (13, .int .i64 s1.2)]) (x1, IntKind.wrap .i64 (x2 + 1)) (by exact ⟨rfl, rfl, rfl, rfl, rfl, trivial⟩) h
  ·replace h := h.2 hb2
   refine CW.exit ?_
   refine XW.then ?_
   refine XW.then ?_
   refine XW.hit ?_
   refine NW.then ?_
   refine CW.seq ?_
   refine CW.region fun L hL => ?_
   refine LW.rd hL rfl (Wants.free rfl) rfl (Rd.assign (v := .bool true) rfl) ?_
   refine LW.nil hL rfl ?_
   refine NW.then ?_
   refine CW.ret ?_
   exact res1 rfl rfl ⟨true, rfl, h⟩
/- (pomander/pomanderref12.Flow).Pages -/
def W_pomanderref12_Flow_Pages (f1 : Int) (f2 : Int) (f3 : Int) (f4 : Option Addr) (f4n : Nat) (f4c : Nat) (f5 : Option Addr) (f5n : Nat) (f5c : Nat) (kind1 : Int) (w : World) (R : Int → World → Prop) : Prop :=
 ∀ (b1 : Nat) (w1 : World), (w.heap.size ≤ b1 ∧ b1 < w1.heap.size) → Chg [] w w1 → (∃ (I1 : Int → Int → Int → World → Prop) (m1 : Int → Int → Int → World → Nat), I1 0 (-1) 0 w1 ∧ ∀ (n1 : Int) (last1 : Int) (i1 : Int) (w2 : World), I1 n1 last1 i1 w2 → ((decide (i1 < (f5n : Int))) = true → ∃ J1 : Int → Int → World → Prop, (∀ (n2 : Int) (last2 : Int) (w3 : World), J1 n2 last2 w3 → (I1 n2 last2 (IntKind.wrap .i64 (i1 + 1)) w3 ∧ m1 n2 last2 (IntKind.wrap .i64 (i1 + 1)) w3 < m1 n1 last1 i1 w2)) ∧ (∃ a1 : Addr, f5 = some a1 ∧ (0 : Int) ≤ i1 ∧ i1 < (f5n : Int) ∧ (∃ (t1 : Int) (t2 : Int), CellsAt w2 (a1.add (Int.toNat i1 * 3)) 0 [.int .i64 t1, .int .i64 t2] ∧ (∀ (b2 : Nat) (w5 : World), (w2.heap.size ≤ b2 ∧ b2 < w5.heap.size) → Chg [] w2 w5 → (∃ J2 : Bool → World → Prop, (∀ (b3 : Bool) (w6 : World), J2 b3 w6 → (b3 = true → J1 (IntKind.wrap .i64 (n1 + 1)) (IntKind.wrap .i64 (Int.tdiv t2 64)) w6) ∧ (b3 = false → J1 n1 last1 w6)) ∧ (((t1 == kind1) = true → J2 (!((IntKind.wrap .i64 (Int.tdiv t2 64)) == last1)) w5) ∧ ((t1 == kind1) = false → J2 false w5))))))) ∧ ((decide (i1 < (f5n : Int))) = false → R n1 w2))
set_option maxRecDepth 100000 in
theorem go_pomanderref12_Flow_Pages (f1 : Int) (f2 : Int) (f3 : Int) (f4 : Option Addr) (f4n : Nat) (f4c : Nat) (f5 : Option Addr) (f5n : Nat) (f5c : Nat) (kind1 : Int) (w : World) (R : Int → World → Prop) (h : W_pomanderref12_Flow_Pages f1 f2 f3 f4 f4n f4c f5 f5n f5c kind1 w R) : Calls Tryz.prog 60 #[.agg #[.int .i64 f1, .int .i64 f2, .int .i64 f3, .slice f4 f4n f4c, .slice f5 f5n f5c], .int .i64 kind1] w (fun e w' => ∃ (r1 : Int), e = .returned (.int .i64 r1) ∧ R r1 w') := by
 unfold W_pomanderref12_Flow_Pages at h
 refine enter (N := 39) Tryz.func60 rfl rfl ?_
 refine CW.seq ?_
 refine CW.region fun L hL => ?_
 obtain ⟨b1, hb_b1⟩ : ∃ b1, b1 = World.size w := ⟨_, rfl⟩
 obtain ⟨w1, hw_w1⟩ : ∃ w1, w1 = World.alloc w (.cells #[.int .i64 f1, .int .i64 f2, .int .i64 f3, .slice f4 f4n f4c, .slice f5 f5n f5c] 43) := ⟨_, rfl⟩
 refine LW.val hL rfl (Wants.free rfl) rfl (boxE hb_b1 hw_w1 (Vl.box (v := .agg #[.int .i64 f1, .int .i64 f2, .int .i64 f3, .slice f4 f4n f4c, .slice f5 f5n f5c]) rfl)) ?_
 have hB := Boxes.alloc (cs := [.int .i64 f1, .int .i64 f2, .int .i64 f3, .slice f4 f4n f4c, .slice f5 f5n f5c]) (T := 43) (Boxes.nil w) hb_b1 hw_w1
 have hlo_b1 := sil_lo (Chg.refl [] w) hb_b1
 have hc_w1 := sil_alloc (Chg.refl [] w) hw_w1
 refine LW.rd hL rfl (Wants.free rfl) rfl (Rd.assign (v := .int .i64 0) rfl) ?_
 refine LW.nil hL rfl ?_
 refine NW.then ?_
 refine CW.seq ?_
 refine CW.region fun L hL => ?_
 refine LW.rd hL rfl (Wants.free rfl) rfl (Rd.assign (v := .int .i64 0) rfl) ?_
 refine LW.rd hL rfl (Wants.free rfl) rfl (Rd.assign (v := .int .i64 (-1)) rfl) ?_
 refine LW.nil hL rfl ?_
 refine NW.then ?_
 refine CW.seq ?_
 refine CW.seq ?_
 refine CW.region fun L hL => ?_
 refine LW.rd hL rfl (Wants.free rfl) rfl (Rd.assign (v := .int .i64 0) rfl) ?_
 refine LW.nil hL rfl ?_
 refine NW.then ?_
 refine CW.block ?_
 replace h := h b1 w1 ⟨hlo_b1, lt_of_heap (hB.at (i := 0) rfl)⟩ hc_w1
 obtain ⟨I1, m1, hI1, h⟩ := h
 refine CW.loop (S := Int × Int × Int) (fun s1 => [(1, .int .i64 kind1), (2, .pointer (some (⟨b1, 0, none⟩ : Addr))), (4, .int .i64 0), (5, .int .i64 s1.1), (6, .int .i64 s1.2.1), (7, .int .i64 s1.2.2)]) (fun s1 w2 => I1 s1.1 s1.2.1 s1.2.2 w2 ∧ Boxes w2 [(b1, [.int .i64 f1, .int .i64 f2, .int .i64 f3, .slice f4 f4n f4c, .slice f5 f5n f5c], 43)]) (fun s1 w2 => m1 s1.1 s1.2.1 s1.2.2 w2) (0, (-1), 0) (by exact ⟨rfl, rfl, rfl, rfl, rfl, rfl, trivial⟩) ⟨hI1, hB⟩ (fun s1 w2 hI1 => ?_)
 obtain ⟨hI1, hB⟩ := hI1
 obtain ⟨n1, last1, i1⟩ := s1; replace h := h n1 last1 i1 w2 hI1
 refine CW.seq ?_
 refine CW.seq ?_
 refine CW.region fun L hL => ?_
 refine LW.rd hL rfl (Wants.free rfl) rfl (Rd.move (v := .int .i64 i1) rfl) ?_
 refine LW.rd hL rfl (Wants.free rfl) rfl (Rd.fa (v := .pointer (some (⟨b1, 4, none⟩ : Addr))) rfl (fun _ => by kernel_rfl)) ?_
 refine LW.rd hL rfl (Wants.free rfl) rfl (Rd.ld (v := .slice f5 f5n f5c) rfl (by kernel_rfl) (eqs (box_cell (hB.at (i := 0) rfl) rfl))) ?_
 refine LW.rd hL rfl (Wants.free rfl) rfl (Rd.builtin (v := .int .i64 (f5n : Int)) rfl (fun _ _ => by kernel_rfl)) ?_
 refine LW.rd hL rfl (Wants.free rfl) rfl (Rd.bin (v := .bool (decide (i1 < (f5n : Int)))) rfl rfl (fun w => by kernel_rfl)) ?_
 refine LW.nil hL rfl ?_
 refine NW.then ?_
 refine CW.cond rfl (fun hb1 => ?_) (fun hb1 => ?_)
 ·replace h := h.1 hb1
  refine CW.skip ?_
  refine NW.then ?_
  obtain ⟨J1, hJ1, h⟩ := h
  refine CW.cut (S := Int × Int) (fun s2 => [(1, .int .i64 kind1), (2, .pointer (some (⟨b1, 0, none⟩ : Addr))), (4, .int .i64 0), (7, .int .i64 i1), (5, .int .i64 s2.1), (6, .int .i64 s2.2)]) (fun s2 w3 => J1 s2.1 s2.2 w3 ∧ Boxes w3 [(b1, [.int .i64 f1, .int .i64 f2, .int .i64 f3, .slice f4 f4n f4c, .slice f5 f5n f5c], 43)]) (fun s2 w3 h_ => ?_) ?_
  ·obtain ⟨h_, hB⟩ := h_; obtain ⟨n2, last2⟩ := s2; replace h := hJ1 n2 last2 w3 h_; clear h_
   refine CW.region fun L hL => ?_
   refine LW.rd hL rfl (Wants.free rfl) rfl (Rd.move (v := .int .i64 i1) rfl) ?_
   refine LW.rd hL rfl (Wants.free rfl) rfl (Rd.bin (v := .int .i64 (IntKind.wrap .i64 (i1 + 1))) rfl rfl (fun w => by kernel_rfl)) ?_
   refine LW.rd hL rfl (Wants.free rfl) rfl (Rd.assign (v := .int .i64 (IntKind.wrap .i64 (i1 + 1))) rfl) ?_
   refine LW.nil hL rfl ?_
   exact NW.loop (S := Int × Int × Int) (Ek := fun s1 => [(1, .int .i64 kind1), (2, .pointer (some (⟨b1, 0, none⟩ : Addr))), (4, .int .i64 0), (5, .int .i64 s1.1), (6, .int .i64 s1.2.1), (7, .int .i64 s1.2.2)]) (n2, last2, IntKind.wrap .i64 (i1 + 1)) (by exact ⟨rfl, rfl, rfl, rfl, rfl, rfl, trivial⟩) ⟨⟨h.1, hB⟩, h.2⟩
  ·skip
   refine CW.block ?_
   refine CW.seq ?_
   refine CW.region fun L hL => ?_
   refine LW.rd hL rfl (Wants.free rfl) rfl (Rd.fa (v := .pointer (some (⟨b1, 4, none⟩ : Addr))) rfl (fun _ => by kernel_rfl)) ?_
   refine LW.rd hL rfl (Wants.free rfl) rfl (Rd.ld (v := .slice f5 f5n f5c) rfl (by kernel_rfl) (eqs (box_cell (hB.at (i := 0) rfl) rfl))) ?_
   refine LW.rd hL rfl (Wants.free rfl) rfl (Rd.move (v := .int .i64 i1) rfl) ?_
   obtain ⟨a1, he1, hi1, hi2, h⟩ := h
   refine LW.rd hL rfl (Wants.free rfl) rfl (Rd.iaS (q := a1) (sz := 3) (by rw [← he1]; rfl) rfl Tryz.underlying41 (by kernel_rfl) hi1 hi2) ?_
   refine LW.rd hL rfl (Wants.free rfl) rfl (Rd.fa (v := .pointer (some (a1.add (Int.toNat i1 * 3)))) rfl (fun _ => by kernel_rfl)) ?_
   obtain ⟨t1, t2, hc1, h⟩ := h
   refine LW.rd hL rfl (Wants.free rfl) rfl (Rd.ldN (cs := [.int .i64 t1, .int .i64 t2]) rfl (by kernel_rfl) (by kernel_rfl) (cellsS hc1)) ?_
   obtain ⟨b2, hb_b2⟩ : ∃ b2, b2 = World.size w2 := ⟨_, rfl⟩
   obtain ⟨w4, hw_w4⟩ : ∃ w4, w4 = World.alloc w2 (.cells #[.int .i64 0, .int .i64 0] 62) := ⟨_, rfl⟩
   refine LW.val hL rfl (Wants.free rfl) rfl (boxE hb_b2 hw_w4 (Vl.alloc (z := .agg #[.int .i64 0, .int .i64 0]) (by kernel_rfl))) ?_
   replace hB := Boxes.alloc (cs := [.int .i64 0, .int .i64 0]) (T := 62) hB hb_b2 hw_w4
   have hlo_b2 := sil_lo (Chg.refl [] w2) hb_b2
   have hc_w4 := sil_alloc (Chg.refl [] w2) hw_w4
   obtain ⟨w5, hw_w5⟩ : ∃ x, x = setCells w4 (⟨b2, 0, none⟩ : Addr) 0 [.int .i64 t1, .int .i64 t2] := ⟨_, rfl⟩
   refine LW.eff hL rfl (Wants.free rfl) rfl (stNE hw_w5 (Ef.stN (cs := [.int .i64 t1, .int .i64 t2]) rfl rfl (by kernel_rfl) (List.forall_mem_cons.2 ⟨rfl, (List.forall_mem_cons.2 ⟨rfl, (List.forall_mem_nil _)⟩)⟩) (has_of (hB.at (i := 0) rfl) (by simp)) (free_of' (hB.at (i := 0) rfl)))) ?_
   replace hB : Boxes w5 [(b2, [.int .i64 t1, .int .i64 t2], 62), (b1, [.int .i64 f1, .int .i64 f2, .int .i64 f3, .slice f4 f4n f4c, .slice f5 f5n f5c], 43)] := Boxes.store (vs := [.int .i64 t1, .int .i64 t2]) (i := 0) (o := 0) hB rfl rfl rfl rfl hw_w5
   have hc_w5 := sil_new hc_w4 (sil_cN hw_w5) hlo_b2
   refine LW.nil hL rfl ?_
   refine NW.then ?_
   refine CW.seq ?_
   refine CW.region fun L hL => ?_
   refine LW.rd hL rfl (Wants.free rfl) rfl (Rd.fa (v := .pointer (some (⟨b2, 0, none⟩ : Addr))) rfl (fun _ => by kernel_rfl)) ?_
   refine LW.rd hL rfl (Wants.free rfl) rfl (Rd.ld (v := .int .i64 t1) rfl (by kernel_rfl) (eqs (box_cell (hB.at (i := 0) rfl) rfl))) ?_
   refine LW.rd hL rfl (Wants.free rfl) rfl (Rd.move (v := .int .i64 kind1) rfl) ?_
   refine LW.rd hL rfl (Wants.free rfl) rfl (Rd.bin (v := .bool (t1 == kind1)) rfl rfl (fun w => by kernel_rfl)) ?_
   refine LW.rd hL rfl (Wants.free rfl) rfl (Rd.move (v := .bool (t1 == kind1)) rfl) ?_
   replace h := h b2 w5 ⟨hlo_b2, lt_of_heap (hB.at (i := 0) rfl)⟩ hc_w5
   obtain ⟨J2, hJ2, h1_J2, h0_J2⟩ := h
   suffices K1 : ∀ (b3 : Bool) (w6 : World), Boxes w6 [(b2, [.int .i64 t1, .int .i64 t2], 62), (b1, [.int .i64 f1, .int .i64 f2, .int .i64 f3, .slice f4 f4n f4c, .slice f5 f5n f5c], 43)] → J2 b3 w6 → L 11 [(1, .int .i64 kind1), (2, .pointer (some (⟨b1, 0, none⟩ : Addr))), (4, .int .i64 0), (5, .int .i64 n1), (6, .int .i64 last1), (7, .int .i64 i1), (8, .pointer (some (⟨b2, 0, none⟩ : Addr))), (32, .bool b3)] w6 by
    rcases Bool.eq_false_or_eq_true (t1 == kind1) with hb2 | hb2
    ·have h := h1_J2 hb2
     refine LW.rd hL rfl (Wants.on rfl rfl rfl rfl rfl hb2) rfl (Rd.fa (v := .pointer (some (⟨b2, 1, none⟩ : Addr))) rfl (fun _ => by kernel_rfl)) ?_
     refine LW.rd hL rfl (Wants.on rfl rfl rfl rfl rfl hb2) rfl (Rd.ld (v := .int .i64 t2) rfl (by kernel_rfl) (eqs (box_cell (hB.at (i := 0) rfl) rfl))) ?_
     refine LW.rd hL rfl (Wants.on rfl rfl rfl rfl rfl hb2) rfl (Rd.bin (v := .int .i64 (IntKind.wrap .i64 (Int.tdiv t2 64))) rfl rfl (fun w => by kernel_rfl)) ?_
     refine LW.rd hL rfl (Wants.on rfl rfl rfl rfl rfl hb2) rfl (Rd.move (v := .int .i64 last1) rfl) ?_
     refine LW.rd hL rfl (Wants.on rfl rfl rfl rfl rfl hb2) rfl (Rd.bin (v := .bool (!((IntKind.wrap .i64 (Int.tdiv t2 64)) == last1))) rfl rfl (fun w => by kernel_rfl)) ?_
     refine LW.rd hL rfl (Wants.free rfl) rfl (Rd.pickT rfl hb2 rfl) ?_
     exact LW.sub hL (by exact ⟨rfl, rfl, rfl, rfl, rfl, rfl, rfl, rfl, trivial⟩) (K1 (!((IntKind.wrap .i64 (Int.tdiv t2 64)) == last1)) w5 (by exact hB) h)
    ·have h := h0_J2 hb2
     refine LW.skip hL rfl (Skips.on rfl rfl rfl rfl rfl hb2) rfl ?_
     refine LW.skip hL rfl (Skips.on rfl rfl rfl rfl rfl hb2) rfl ?_
     refine LW.skip hL rfl (Skips.on rfl rfl rfl rfl rfl hb2) rfl ?_
     refine LW.skip hL rfl (Skips.on rfl rfl rfl rfl rfl hb2) rfl ?_
     refine LW.skip hL rfl (Skips.on rfl rfl rfl rfl rfl hb2) rfl ?_
     refine LW.rd hL rfl (Wants.free rfl) rfl (Rd.pickF rfl hb2 rfl) ?_
     exact LW.sub hL (by exact ⟨rfl, rfl, rfl, rfl, rfl, rfl, rfl, rfl, trivial⟩) (K1 false w5 (by exact hB) h)
   intro b3 w6 hB h_
   have h := hJ2 b3 w6 h_; clear h_
   refine LW.nil hL rfl ?_
   refine NW.then ?_
   refine CW.cond rfl (fun hb3 => ?_) (fun hb3 => ?_)
   ·replace h := h.1 hb3
    refine CW.seq ?_
    refine CW.region fun L hL => ?_
    refine LW.rd hL rfl (Wants.free rfl) rfl (Rd.fa (v := .pointer (some (⟨b2, 1, none⟩ : Addr))) rfl (fun _ => by kernel_rfl)) ?_
    refine LW.rd hL rfl (Wants.free rfl) rfl (Rd.ld (v := .int .i64 t2) rfl (by kernel_rfl) (eqs (box_cell (hB.at (i := 0) rfl) rfl))) ?_
    refine LW.rd hL rfl (Wants.free rfl) rfl (Rd.bin (v := .int .i64 (IntKind.wrap .i64 (Int.tdiv t2 64))) rfl rfl (fun w => by kernel_rfl)) ?_
    refine LW.rd hL rfl (Wants.free rfl) rfl (Rd.assign (v := .int .i64 (IntKind.wrap .i64 (Int.tdiv t2 64))) rfl) ?_
    refine LW.nil hL rfl ?_
    refine NW.then ?_
    refine CW.region fun L hL => ?_
    refine LW.rd hL rfl (Wants.free rfl) rfl (Rd.move (v := .int .i64 n1) rfl) ?_
    refine LW.rd hL rfl (Wants.free rfl) rfl (Rd.bin (v := .int .i64 (IntKind.wrap .i64 (n1 + 1))) rfl rfl (fun w => by kernel_rfl)) ?_
    refine LW.rd hL rfl (Wants.free rfl) rfl (Rd.assign (v := .int .i64 (IntKind.wrap .i64 (n1 + 1))) rfl) ?_
    refine LW.nil hL rfl ?_
    refine NW.block ?_
    exact NW.cut (S := Int × Int) (Ek := fun s2 => [(1, .int .i64 kind1), (2, .pointer (some (⟨b1, 0, none⟩ : Addr))), (4, .int .i64 0), (7, .int .i64 i1), (5, .int .i64 s2.1), (6, .int .i64 s2.2)]) (IntKind.wrap .i64 (n1 + 1), IntKind.wrap .i64 (Int.tdiv t2 64)) (by exact ⟨rfl, rfl, rfl, rfl, rfl, rfl, trivial⟩) ⟨h, (hB.sel [1] (by decide) rfl)⟩
   ·replace h := h.2 hb3
    refine CW.skip ?_
    refine NW.block ?_
    exact NW.cut (S := Int × Int) (Ek := fun s2 => [(1, .int .i64 kind1), (2, .pointer (some (⟨b1, 0, none⟩ : Addr))), (4, .int .i64 0), (7, .int .i64 i1), (5, .int .i64 s2.1), (6, .int .i64 s2.2)]) (n1, last1) (by exact ⟨rfl, rfl, rfl, rfl, rfl, rfl, trivial⟩) ⟨h, (hB.sel [1] (by decide) rfl)⟩
 ·replace h := h.2 hb1
  refine CW.exit ?_
  refine XW.then ?_
  refine XW.then ?_
  refine XW.hit ?_
  refine NW.then ?_
  refine CW.seq ?_
  refine CW.region fun L hL => ?_
  refine LW.rd hL rfl (Wants.free rfl) rfl (Rd.move (v := .int .i64 n1) rfl) ?_
  refine LW.rd hL rfl (Wants.free rfl) rfl (Rd.assign (v := .int .i64 n1) rfl) ?_
  refine LW.nil hL rfl ?_
  refine NW.then ?_
  refine CW.ret ?_
  exact res1 rfl rfl ⟨n1, rfl, h⟩
/- pomander/pomanderlaw12.sets -/
def W_pomanderlaw12_sets (a1 : Option Addr) (a1n : Nat) (a1c : Nat) (b1 : Option Addr) (b1n : Nat) (b1c : Nat) (w : World) (R : Bool → World → Prop) : Prop :=
 ((!((a1n : Int) == (b1n : Int))) = true → R false w) ∧ ((!((a1n : Int) == (b1n : Int))) = false → ∃ (I1 : Bool → Int → World → Prop) (m1 : Bool → Int → World → Nat), I1 false 0 w ∧ ∀ (x1 : Bool) (i1 : Int) (w1 : World), I1 x1 i1 w1 → ((decide (i1 < (a1n : Int))) = true → ∃ a2 : Addr, a1 = some a2 ∧ (0 : Int) ≤ i1 ∧ i1 < (a1n : Int) ∧ (∀ (w2 : World), Chg [] w1 w2 → (∃ (t1 : Int), w2.cell? (a2.add (Int.toNat i1 * 1)) = some (.int .u32 t1) ∧ (∃ a3 : Addr, b1 = some a3 ∧ (0 : Int) ≤ i1 ∧ i1 < (b1n : Int) ∧ (∃ (t2 : Int), w2.cell? (a3.add (Int.toNat i1 * 1)) = some (.int .u32 t2) ∧ (((!(t1 == t2)) = true → R false w2) ∧ ((!(t1 == t2)) = false → (I1 x1 (IntKind.wrap .i64 (i1 + 1)) w2 ∧ m1 x1 (IntKind.wrap .i64 (i1 + 1)) w2 < m1 x1 i1 w1)))))))) ∧ ((decide (i1 < (a1n : Int))) = false → R true w1))
set_option maxRecDepth 100000 in
theorem go_pomanderlaw12_sets (a1 : Option Addr) (a1n : Nat) (a1c : Nat) (b1 : Option Addr) (b1n : Nat) (b1c : Nat) (w : World) (R : Bool → World → Prop) (h : W_pomanderlaw12_sets a1 a1n a1c b1 b1n b1c w R) : Calls Tryz.prog 61 #[.slice a1 a1n a1c, .slice b1 b1n b1c] w (fun e w' => ∃ (r1 : Bool), e = .returned (.bool r1) ∧ R r1 w') := by
 unfold W_pomanderlaw12_sets at h
 refine enter (N := 26) Tryz.func61 rfl rfl ?_
 refine CW.seq ?_
 refine CW.region fun L hL => ?_
 refine LW.rd hL rfl (Wants.free rfl) rfl (Rd.assign (v := .bool false) rfl) ?_
 refine LW.nil hL rfl ?_
 refine NW.then ?_
 refine CW.seq ?_
 refine CW.seq ?_
 refine CW.region fun L hL => ?_
 refine LW.rd hL rfl (Wants.free rfl) rfl (Rd.move (v := .slice a1 a1n a1c) rfl) ?_
 refine LW.rd hL rfl (Wants.free rfl) rfl (Rd.builtin (v := .int .i64 (a1n : Int)) rfl (fun _ _ => by kernel_rfl)) ?_
 refine LW.rd hL rfl (Wants.free rfl) rfl (Rd.move (v := .slice b1 b1n b1c) rfl) ?_
 refine LW.rd hL rfl (Wants.free rfl) rfl (Rd.builtin (v := .int .i64 (b1n : Int)) rfl (fun _ _ => by kernel_rfl)) ?_
 refine LW.rd hL rfl (Wants.free rfl) rfl (Rd.bin (v := .bool (!((a1n : Int) == (b1n : Int)))) rfl rfl (fun w => by kernel_rfl)) ?_
 refine LW.nil hL rfl ?_
 refine NW.then ?_
 refine CW.cond rfl (fun hb1 => ?_) (fun hb1 => ?_)
 ·replace h := h.1 hb1
  refine CW.seq ?_
  refine CW.region fun L hL => ?_
  refine LW.rd hL rfl (Wants.free rfl) rfl (Rd.assign (v := .bool false) rfl) ?_
  refine LW.nil hL rfl ?_
  refine NW.then ?_
  refine CW.ret ?_
  refine RW.then ?_
  exact res1 rfl rfl ⟨false, rfl, h⟩
 ·replace h := h.2 hb1
  refine CW.skip ?_
  refine NW.then ?_
  refine CW.seq ?_
  refine CW.seq ?_
  refine CW.region fun L hL => ?_
  refine LW.rd hL rfl (Wants.free rfl) rfl (Rd.assign (v := .int .i64 0) rfl) ?_
  refine LW.nil hL rfl ?_
  refine NW.then ?_
  refine CW.block ?_
  obtain ⟨I1, m1, hI1, h⟩ := h
  refine CW.loop (S := Bool × Int) (fun s1 => [(0, .slice a1 a1n a1c), (1, .slice b1 b1n b1c), (4, .bool s1.1), (5, .int .i64 s1.2)]) (fun s1 w1 => I1 s1.1 s1.2 w1) (fun s1 w1 => m1 s1.1 s1.2 w1) (false, 0) (by exact ⟨rfl, rfl, rfl, rfl, trivial⟩) hI1 (fun s1 w1 hI1 => ?_)
  obtain ⟨x1, i1⟩ := s1; replace h := h x1 i1 w1 hI1
  refine CW.seq ?_
  refine CW.seq ?_
  refine CW.region fun L hL => ?_
  refine LW.rd hL rfl (Wants.free rfl) rfl (Rd.move (v := .int .i64 i1) rfl) ?_
  refine LW.rd hL rfl (Wants.free rfl) rfl (Rd.move (v := .slice a1 a1n a1c) rfl) ?_
  refine LW.rd hL rfl (Wants.free rfl) rfl (Rd.builtin (v := .int .i64 (a1n : Int)) rfl (fun _ _ => by kernel_rfl)) ?_
  refine LW.rd hL rfl (Wants.free rfl) rfl (Rd.bin (v := .bool (decide (i1 < (a1n : Int)))) rfl rfl (fun w => by kernel_rfl)) ?_
  refine LW.nil hL rfl ?_
  refine NW.then ?_
  refine CW.cond rfl (fun hb2 => ?_) (fun hb2 => ?_)
  ·replace h := h.1 hb2
   refine CW.skip ?_
   refine NW.then ?_
   refine CW.seq ?_
   refine CW.block ?_
   refine CW.seq ?_
   obtain ⟨w2, hw_w2⟩ : ∃ x, x = World.drew w1 := ⟨_, rfl⟩
   have hc_w2 := sil_drew (Chg.refl [] w1) hw_w2
   refine CW.drawn (fun w => w = w2) 9 (by kernel_rfl) fun H hH => ?_
   rw [← hw_w2]
   refine HW.pure (i := 0) hH rfl (by kernel_rfl) (Wants.free rfl) rfl (fun _ => rfl) (Rd.move (v := .slice a1 a1n a1c) rfl) ?_
   refine HW.pure (i := 1) hH rfl (by kernel_rfl) (Wants.free rfl) rfl (fun _ => rfl) (Rd.move (v := .int .i64 i1) rfl) ?_
   obtain ⟨a2, he1, hi1, hi2, h⟩ := h
   refine HW.pure (i := 2) hH rfl (by kernel_rfl) (Wants.free rfl) rfl (fun _ => rfl) (Rd.iaS (q := a2) (sz := 1) (by rw [← he1]; rfl) rfl Tryz.underlying38 (by kernel_rfl) hi1 hi2) ?_
   replace h := h  w2  hc_w2
   obtain ⟨t1, hc1, h⟩ := h
   refine HW.take (i := 3) hH rfl (by kernel_rfl) (by kernel_rfl) (Wants.free rfl) rfl (fun _ => rfl) (Rd.ld (v := .int .u32 t1) rfl (by kernel_rfl) (eqs hc1)) ?_
   refine HW.pure (i := 4) hH rfl (by kernel_rfl) (Wants.free rfl) rfl (fun _ => rfl) (Rd.move (v := .slice b1 b1n b1c) rfl) ?_
   refine HW.pure (i := 5) hH rfl (by kernel_rfl) (Wants.free rfl) rfl (fun _ => rfl) (Rd.move (v := .int .i64 i1) rfl) ?_
   obtain ⟨a3, he2, hi3, hi4, h⟩ := h
   refine HW.pure (i := 6) hH rfl (by kernel_rfl) (Wants.free rfl) rfl (fun _ => rfl) (Rd.iaS (q := a3) (sz := 1) (by rw [← he2]; rfl) rfl Tryz.underlying38 (by kernel_rfl) hi3 hi4) ?_
   obtain ⟨t2, hc2, h⟩ := h
   refine HW.take (i := 7) hH rfl (by kernel_rfl) (by kernel_rfl) (Wants.free rfl) rfl (fun _ => rfl) (Rd.ld (v := .int .u32 t2) rfl (by kernel_rfl) (eqs hc2)) ?_
   refine HW.pure (i := 8) hH rfl (by kernel_rfl) (Wants.free rfl) rfl (fun _ => rfl) (Rd.bin (v := .bool (!(t1 == t2))) rfl rfl (fun w => by kernel_rfl)) ?_
   refine HW.done hH (by kernel_rfl) ?_
   refine NW.then ?_
   refine CW.cond rfl (fun hb3 => ?_) (fun hb3 => ?_)
   ·replace h := h.1 hb3
    refine CW.seq ?_
    refine CW.region fun L hL => ?_
    refine LW.rd hL rfl (Wants.free rfl) rfl (Rd.assign (v := .bool false) rfl) ?_
    refine LW.nil hL rfl ?_
    refine NW.then ?_
    refine CW.ret ?_
    refine RW.block ?_
    refine RW.then ?_
    refine RW.then ?_
    refine RW.block ?_
    refine RW.then ?_
    exact res1 rfl rfl ⟨false, rfl, h⟩
   ·replace h := h.2 hb3
    refine CW.skip ?_
    refine NW.block ?_
    refine NW.then ?_
    refine CW.region fun L hL => ?_
    refine LW.rd hL rfl (Wants.free rfl) rfl (Rd.move (v := .int .i64 i1) rfl) ?_
    refine LW.rd hL rfl (Wants.free rfl) rfl (Rd.bin (v := .int .i64 (IntKind.wrap .i64 (i1 + 1))) rfl rfl (fun w => by kernel_rfl)) ?_
    refine LW.rd hL rfl (Wants.free rfl) rfl (Rd.assign (v := .int .i64 (IntKind.wrap .i64 (i1 + 1))) rfl) ?_
    refine LW.nil hL rfl ?_
    exact NW.loop (S := Bool × Int) (Ek := fun s1 => [(0, .slice a1 a1n a1c), (1, .slice b1 b1n b1c), (4, .bool s1.1), (5, .int .i64 s1.2)]) (x1, IntKind.wrap .i64 (i1 + 1)) (by exact ⟨rfl, rfl, rfl, rfl, trivial⟩) h
  ·replace h := h.2 hb2
   refine CW.exit ?_
   refine XW.then ?_
   refine XW.then ?_
   refine XW.hit ?_
   refine NW.then ?_
   refine CW.seq ?_
   refine CW.region fun L hL => ?_
   refine LW.rd hL rfl (Wants.free rfl) rfl (Rd.assign (v := .bool true) rfl) ?_
   refine LW.nil hL rfl ?_
   refine NW.then ?_
   refine CW.ret ?_
   exact res1 rfl rfl ⟨true, rfl, h⟩
/- (*pomander/labels.Table).All -/
def W_labels_Table_All (t1 : Option Addr) (w : World) (R : (Option Addr) → Nat → Nat → World → Prop) : Prop :=
 Calls Tryz.prog 77 #[.pointer t1] w fun e w1 => ∃ (r2 : Bool), e = .returned (.bool r2) ∧ ((r2 = true → R none 0 0 w1) ∧ (r2 = false → ∃ a1 : Addr, t1 = some a1 ∧ (∃ (t2 : Option Addr) (t2n : Nat) (t2c : Nat), w1.cell? (a1.add 1) = some (.slice t2 t2n t2c) ∧ (Calls Tryz.prog 78 #[.slice t2 t2n t2c] w1 fun e w2 => ∃ (r3 : Option Addr) (r3n : Nat) (r3c : Nat), e = .returned (.slice r3 r3n r3c) ∧ (R r3 r3n r3c w2)))))
set_option maxRecDepth 100000 in
theorem go_labels_Table_All (t1 : Option Addr) (w : World) (R : (Option Addr) → Nat → Nat → World → Prop) (h : W_labels_Table_All t1 w R) : Calls Tryz.prog 68 #[.pointer t1] w (fun e w' => ∃ (r1 : Option Addr) (r1n : Nat) (r1c : Nat), e = .returned (.slice r1 r1n r1c) ∧ R r1 r1n r1c w') := by
 unfold W_labels_Table_All at h
 refine enter (N := 10) Tryz.func68 rfl rfl ?_
 refine CW.seq ?_
 refine CW.region fun L hL => ?_
 refine LW.rd hL rfl (Wants.free rfl) rfl (Rd.assign (v := .slice none 0 0) rfl) ?_
 refine LW.nil hL rfl ?_
 refine NW.then ?_
 refine CW.seq ?_
 refine CW.seq ?_
 refine CW.region fun L hL => ?_
 refine LW.rd hL rfl (Wants.free rfl) rfl (Rd.move (v := .pointer t1) rfl) ?_
 refine LW.call hL rfl (Wants.free rfl) rfl (Cl.fn (f := 77) rfl Tryz.func77 (by kernel_rfl) rfl) h (fun e w1 h_ => ?_)
 clear h
 obtain ⟨r2, rfl, h⟩ := h_
 refine ⟨_, rfl, ?_⟩
 refine LW.nil hL rfl ?_
 refine NW.then ?_
 refine CW.cond rfl (fun hb1 => ?_) (fun hb1 => ?_)
 ·replace h := h.1 hb1
  refine CW.seq ?_
  refine CW.region fun L hL => ?_
  refine LW.rd hL rfl (Wants.free rfl) rfl (Rd.assign (v := .slice none 0 0) rfl) ?_
  refine LW.nil hL rfl ?_
  refine NW.then ?_
  refine CW.ret ?_
  refine RW.then ?_
  exact res1 rfl rfl ⟨none, 0, 0, rfl, h⟩
 ·replace h := h.2 hb1
  refine CW.skip ?_
  refine NW.then ?_
  refine CW.seq ?_
  refine CW.region fun L hL => ?_
  refine LW.rd hL rfl (Wants.free rfl) rfl (Rd.move (v := .pointer t1) rfl) ?_
  obtain ⟨a1, ha1, h⟩ := h
  refine LW.rd hL rfl (Wants.free rfl) rfl (Rd.nil (q := a1) (by rw [← ha1]; rfl)) ?_
  refine LW.rd hL rfl (Wants.free rfl) rfl (Rd.fa (v := .pointer (some (a1.add 1))) rfl (fun _ => by kernel_rfl)) ?_
  obtain ⟨t2, t2n, t2c, hc1, h⟩ := h
  refine LW.rd hL rfl (Wants.free rfl) rfl (Rd.ld (v := .slice t2 t2n t2c) rfl (by kernel_rfl) (eqs hc1)) ?_
  refine LW.call hL rfl (Wants.free rfl) rfl (Cl.fn (f := 78) rfl Tryz.func78 (by kernel_rfl) rfl) h (fun e w2 h_ => ?_)
  clear h
  obtain ⟨r3, r3n, r3c, rfl, h⟩ := h_
  refine ⟨_, rfl, ?_⟩
  refine LW.rd hL rfl (Wants.free rfl) rfl (Rd.assign (v := .slice r3 r3n r3c) rfl) ?_
  refine LW.nil hL rfl ?_
  refine NW.then ?_
  refine CW.ret ?_
  exact res1 rfl rfl ⟨r3, r3n, r3c, rfl, h⟩
/- (*pomander/flow.Flow).Sets -/
def W_flow_Flow_Sets (f1 : Option Addr) (w : World) (R : (Option Addr) → Nat → Nat → World → Prop) : Prop :=
 Calls Tryz.prog 43 #[.pointer f1] w fun e w1 => ∃ (r2 : Bool), e = .returned (.bool r2) ∧ ((r2 = true → R none 0 0 w1) ∧ (r2 = false → ∃ a1 : Addr, f1 = some a1 ∧ (∃ (t1 : Option Addr), w1.cell? (a1.add 2) = some (.pointer t1) ∧ (Calls Tryz.prog 68 #[.pointer t1] w1 fun e w2 => ∃ (r3 : Option Addr) (r3n : Nat) (r3c : Nat), e = .returned (.slice r3 r3n r3c) ∧ (R r3 r3n r3c w2)))))
set_option maxRecDepth 100000 in
theorem go_flow_Flow_Sets (f1 : Option Addr) (w : World) (R : (Option Addr) → Nat → Nat → World → Prop) (h : W_flow_Flow_Sets f1 w R) : Calls Tryz.prog 33 #[.pointer f1] w (fun e w' => ∃ (r1 : Option Addr) (r1n : Nat) (r1c : Nat), e = .returned (.slice r1 r1n r1c) ∧ R r1 r1n r1c w') := by
 unfold W_flow_Flow_Sets at h
 refine enter (N := 10) Tryz.func33 rfl rfl ?_
 refine CW.seq ?_
 refine CW.region fun L hL => ?_
 refine LW.rd hL rfl (Wants.free rfl) rfl (Rd.assign (v := .slice none 0 0) rfl) ?_
 refine LW.nil hL rfl ?_
 refine NW.then ?_
 refine CW.seq ?_
 refine CW.seq ?_
 refine CW.region fun L hL => ?_
 refine LW.rd hL rfl (Wants.free rfl) rfl (Rd.move (v := .pointer f1) rfl) ?_
 refine LW.call hL rfl (Wants.free rfl) rfl (Cl.fn (f := 43) rfl Tryz.func43 (by kernel_rfl) rfl) h (fun e w1 h_ => ?_)
 clear h
 obtain ⟨r2, rfl, h⟩ := h_
 refine ⟨_, rfl, ?_⟩
 refine LW.nil hL rfl ?_
 refine NW.then ?_
 refine CW.cond rfl (fun hb1 => ?_) (fun hb1 => ?_)
 ·replace h := h.1 hb1
  refine CW.seq ?_
  refine CW.region fun L hL => ?_
  refine LW.rd hL rfl (Wants.free rfl) rfl (Rd.assign (v := .slice none 0 0) rfl) ?_
  refine LW.nil hL rfl ?_
  refine NW.then ?_
  refine CW.ret ?_
  refine RW.then ?_
  exact res1 rfl rfl ⟨none, 0, 0, rfl, h⟩
 ·replace h := h.2 hb1
  refine CW.skip ?_
  refine NW.then ?_
  refine CW.seq ?_
  refine CW.region fun L hL => ?_
  refine LW.rd hL rfl (Wants.free rfl) rfl (Rd.move (v := .pointer f1) rfl) ?_
  obtain ⟨a1, ha1, h⟩ := h
  refine LW.rd hL rfl (Wants.free rfl) rfl (Rd.nil (q := a1) (by rw [← ha1]; rfl)) ?_
  refine LW.rd hL rfl (Wants.free rfl) rfl (Rd.fa (v := .pointer (some (a1.add 2))) rfl (fun _ => by kernel_rfl)) ?_
  obtain ⟨t1, hc1, h⟩ := h
  refine LW.rd hL rfl (Wants.free rfl) rfl (Rd.ld (v := .pointer t1) rfl (by kernel_rfl) (eqs hc1)) ?_
  refine LW.call hL rfl (Wants.free rfl) rfl (Cl.fn (f := 68) rfl Tryz.func68 (by kernel_rfl) rfl) h (fun e w2 h_ => ?_)
  clear h
  obtain ⟨r3, r3n, r3c, rfl, h⟩ := h_
  refine ⟨_, rfl, ?_⟩
  refine LW.rd hL rfl (Wants.free rfl) rfl (Rd.assign (v := .slice r3 r3n r3c) rfl) ?_
  refine LW.nil hL rfl ?_
  refine NW.then ?_
  refine CW.ret ?_
  exact res1 rfl rfl ⟨r3, r3n, r3c, rfl, h⟩
/- (*pomander/flow.Flow).Pages -/
def W_flow_Flow_Pages (f1 : Option Addr) (w : World) (R : Int → Int → World → Prop) : Prop :=
 Calls Tryz.prog 43 #[.pointer f1] w fun e w1 => ∃ (r3 : Bool), e = .returned (.bool r3) ∧ ((r3 = true → R 0 0 w1) ∧ (r3 = false → ∀ (w2 : World), Chg [] w1 w2 → (∃ a1 : Addr, f1 = some a1 ∧ (∃ (t1 : Option Addr), w2.cell? (a1.add 3) = some (.pointer t1) ∧ (∃ (t2 : Option Addr), w2.cell? (a1.add 4) = some (.pointer t2) ∧ (Calls Tryz.prog 74 #[.pointer t1] w2 fun e w3 => ∃ (r4 : Int), e = .returned (.int .i64 r4) ∧ ((w3.cell? (a1.add 3) = some (.pointer t1) ∧ w3.cell? (a1.add 4) = some (.pointer t2)) ∧ (Calls Tryz.prog 74 #[.pointer t2] w3 fun e w4 => ∃ (r5 : Int), e = .returned (.int .i64 r5) ∧ (R r4 r5 w4)))))))))
set_option maxRecDepth 100000 in
theorem go_flow_Flow_Pages (f1 : Option Addr) (w : World) (R : Int → Int → World → Prop) (h : W_flow_Flow_Pages f1 w R) : Calls Tryz.prog 36 #[.pointer f1] w (fun e w' => ∃ (r1 : Int) (r2 : Int), e = .returned (.tuple #[.int .i64 r1, .int .i64 r2]) ∧ R r1 r2 w') := by
 unfold W_flow_Flow_Pages at h
 refine enter (N := 16) Tryz.func36 rfl rfl ?_
 refine CW.seq ?_
 refine CW.region fun L hL => ?_
 refine LW.rd hL rfl (Wants.free rfl) rfl (Rd.assign (v := .int .i64 0) rfl) ?_
 refine LW.rd hL rfl (Wants.free rfl) rfl (Rd.assign (v := .int .i64 0) rfl) ?_
 refine LW.nil hL rfl ?_
 refine NW.then ?_
 refine CW.seq ?_
 refine CW.seq ?_
 refine CW.region fun L hL => ?_
 refine LW.rd hL rfl (Wants.free rfl) rfl (Rd.move (v := .pointer f1) rfl) ?_
 refine LW.call hL rfl (Wants.free rfl) rfl (Cl.fn (f := 43) rfl Tryz.func43 (by kernel_rfl) rfl) h (fun e w1 h_ => ?_)
 clear h
 obtain ⟨r3, rfl, h⟩ := h_
 refine ⟨_, rfl, ?_⟩
 refine LW.nil hL rfl ?_
 refine NW.then ?_
 refine CW.cond rfl (fun hb1 => ?_) (fun hb1 => ?_)
 ·replace h := h.1 hb1
  refine CW.seq ?_
  refine CW.region fun L hL => ?_
  refine LW.rd hL rfl (Wants.free rfl) rfl (Rd.assign (v := .int .i64 0) rfl) ?_
  refine LW.rd hL rfl (Wants.free rfl) rfl (Rd.assign (v := .int .i64 0) rfl) ?_
  refine LW.nil hL rfl ?_
  refine NW.then ?_
  refine CW.ret ?_
  refine RW.then ?_
  exact res2 rfl rfl rfl ⟨0, 0, rfl, h⟩
 ·replace h := h.2 hb1
  refine CW.skip ?_
  refine NW.then ?_
  refine CW.seq ?_
  obtain ⟨w2, hw_w2⟩ : ∃ x, x = World.drew w1 := ⟨_, rfl⟩
  have hc_w2 := sil_drew (Chg.refl [] w1) hw_w2
  replace h := h  w2  hc_w2
  obtain ⟨a1, ha1, h⟩ := h
  obtain ⟨t1, hc1, h⟩ := h
  obtain ⟨t2, hc2, h⟩ := h
  refine CW.drawn (fun w => w.cell? (a1.add 3) = some (.pointer t1) ∧ w.cell? (a1.add 4) = some (.pointer t2) ∧ True) 9 (by kernel_rfl) fun H hH => ?_
  rw [← hw_w2]
  have hS1 : w2.cell? (a1.add 3) = some (.pointer t1) ∧ w2.cell? (a1.add 4) = some (.pointer t2) ∧ True := ⟨hc1, hc2, trivial⟩
  refine HW.pure (i := 0) hH rfl (by kernel_rfl) (Wants.free rfl) rfl (fun _ => hS1) (Rd.move (v := .pointer f1) rfl) ?_
  refine HW.pure (i := 1) hH rfl (by kernel_rfl) (Wants.free rfl) rfl (fun _ => hS1) (Rd.nil (q := a1) (by rw [← ha1]; rfl)) ?_
  refine HW.pure (i := 2) hH rfl (by kernel_rfl) (Wants.free rfl) rfl (fun _ => hS1) (Rd.fa (v := .pointer (some (a1.add 3))) rfl (fun _ => by kernel_rfl)) ?_
  refine HW.take (i := 3) hH rfl (by kernel_rfl) (by kernel_rfl) (Wants.free rfl) rfl (fun _ => hS1) (Rd.ld (v := .pointer t1) rfl (by kernel_rfl) (fun w h => h.1)) ?_
  refine HW.pure (i := 5) hH rfl (by kernel_rfl) (Wants.free rfl) rfl (fun _ => hS1) (Rd.move (v := .pointer f1) rfl) ?_
  refine HW.pure (i := 6) hH rfl (by kernel_rfl) (Wants.free rfl) rfl (fun _ => hS1) (Rd.nil (q := a1) (by rw [← ha1]; rfl)) ?_
  refine HW.pure (i := 7) hH rfl (by kernel_rfl) (Wants.free rfl) rfl (fun _ => hS1) (Rd.fa (v := .pointer (some (a1.add 4))) rfl (fun _ => by kernel_rfl)) ?_
  refine HW.take (i := 8) hH rfl (by kernel_rfl) (by kernel_rfl) (Wants.free rfl) rfl (fun _ => hS1) (Rd.ld (v := .pointer t2) rfl (by kernel_rfl) (fun w h => h.2.1)) ?_
  refine HW.call (i := 4) hH (by kernel_rfl) rfl (Wants.free rfl) rfl (Cl.fn (f := 74) rfl Tryz.func74 (by kernel_rfl) rfl) h (fun e w3 h_ => ?_)
  clear h
  obtain ⟨r4, rfl, hS2, h⟩ := h_
  have hS3 := (⟨hS2.1, hS2.2, trivial⟩ : w3.cell? (a1.add 3) = some (.pointer t1) ∧ w3.cell? (a1.add 4) = some (.pointer t2) ∧ True)
  refine ⟨_, rfl, (fun _ => hS3), ?_⟩
  refine HW.call (i := 9) hH (by kernel_rfl) rfl (Wants.free rfl) rfl (Cl.fn (f := 74) rfl Tryz.func74 (by kernel_rfl) rfl) h (fun e w4 h_ => ?_)
  clear h
  obtain ⟨r5, rfl, h⟩ := h_
  refine ⟨_, rfl, (fun hc => by cases hc), ?_⟩
  refine HW.pure (i := 10) hH rfl (by kernel_rfl) (Wants.free rfl) rfl (fun hc => by cases hc) (Rd.assign (v := .int .i64 r4) rfl) ?_
  refine HW.pure (i := 11) hH rfl (by kernel_rfl) (Wants.free rfl) rfl (fun hc => by cases hc) (Rd.assign (v := .int .i64 r5) rfl) ?_
  refine HW.done hH (by kernel_rfl) ?_
  refine NW.then ?_
  refine CW.ret ?_
  exact res2 rfl rfl rfl ⟨r4, r5, rfl, h⟩
end Go.Proofs.YtfcfkhbkkfpehaaGreat
end
section
/- Flows that are the same: slices.Equal, labels.Same, maps.Equal, flow.Same. -/
namespace Go.Proofs.YtfcfkhbkkfpehaaGreat
open Go Go.RowKit Go.X Go.XR
theorem take_eq_of {α : Type} {xs ys : List α} {k : Nat} (h : xs.take k = ys.take k) {x y : α} (hx : xs[k]? = some x) (hy : ys[k]? = some y) : x = y ↔ xs.take (k + 1) = ys.take (k + 1) := by
 rw [take_snoc hx, take_snoc hy, h]
 simp
theorem slices_equal {w : World} {e : TypeId} {p q : Option Addr} {n c m d : Nat} {xs ys : List Int} (h1 : RowAt w e 1 p n c (xs.map (Value.int .u32))) (h2 : RowAt w e 1 q m d (ys.map (Value.int .u32))) (hn : n ≤ 1000000) :
  Calls Tryz.prog 87 #[.slice p n c, .slice q m d] w fun e w' => ∃ r : Bool, e = .returned (.bool r) ∧ (r = decide (xs = ys) ∧ Chg [] w w') := by
 have l1 := h1.length
 have l2 := h2.length
 simp at l1 l2
 refine go_slices_Equal_334 _ _ _ _ _ _ _ _ ?_
 unfold W_slices_Equal_334
 refine ⟨fun hne => ⟨?_, Chg.refl _ _⟩, fun he => ?_⟩
 ·symm; rw [decide_eq_false_iff_not]; intro e; subst e; simp at hne; omega
 have hnm : n = m := by simp at he; omega
 subst hnm
 refine ⟨fun _ j w' => ∃ k : Nat, j = k ∧ k ≤ n ∧ xs.take k = ys.take k ∧ Chg [] w w', fun _ j _ => n - j.toNat, ⟨0, rfl, Nat.zero_le _, rfl, Chg.refl _ _⟩, ?_⟩
 rintro x1 _ w1 ⟨k, rfl, hk, htk, c1⟩
 refine ⟨fun hlt => ?_, fun hge => ?_⟩
 ·have hlt' : k < n := by have := of_decide_eq_true hlt; omega
  obtain ⟨x, hx⟩ := get_of (l := xs) (j := k) (by omega)
  obtain ⟨y, hy⟩ := get_of (l := ys) (j := k) (by omega)
  obtain ⟨a, rfl, ha⟩ := h1.at (j := k) (u := .int .u32 x) (by simp [hx])
  obtain ⟨b, rfl, hb⟩ := h2.at (j := k) (u := .int .u32 y) (by simp [hy])
  refine ⟨a, rfl, by omega, by omega, fun w2 c2 => ⟨x, ?_, b, rfl, by omega, by omega, y, ?_, fun hne => ⟨?_, c1.trans0 c2⟩, fun heq => ?_⟩⟩
  ·simpa using (c1.trans0 c2).cell (by simp) ha
  ·simpa using (c1.trans0 c2).cell (by simp) hb
  ·symm; rw [decide_eq_false_iff_not]; intro e; subst e; rw [hx] at hy; cases hy; simp at hne
  ·have hxy : x = y := by simpa using heq
   rw [wr (by omega) (by omega)]
   exact ⟨⟨k + 1, by omega, by omega, (take_eq_of htk hx hy).1 hxy, c1.trans0 c2⟩, by simp only []; omega⟩
 ·have hge' : ¬ k < n := by have := of_decide_eq_false hge; omega
  refine ⟨?_, c1⟩
  rw [List.take_of_length_le (by omega), List.take_of_length_le (by omega)] at htk
  symm; rw [decide_eq_true_eq]; exact htk
theorem table_same {w : World} {b b' : Nat} {most most' : Int} {sets sets' : List Int} {fp fp' : List Nat} (h : TableAt w b most sets fp) (h' : TableAt w b' most' sets' fp') :
  Calls Tryz.prog 53 #[.pointer (some ⟨b, 0, none⟩), .pointer (some ⟨b', 0, none⟩)] w fun e w' => ∃ r : Bool, e = .returned (.bool r) ∧ (r = decide (most = most' ∧ sets = sets') ∧ Chg [] w w') := by
 refine go_labels_Same _ _ _ _ ?_
 unfold W_labels_Same
 refine (table_none h).mono ?_
 rintro _ w1 ⟨_, rfl, rfl, hw⟩
 subst w1
 refine ⟨_, rfl, fun b2 w' => b2 = false ∧ w' = w, ?_, fun _ => ?_, fun hf => by simp at hf⟩
 rotate_left
 ·refine (table_none h').mono ?_
  rintro _ w1 ⟨_, rfl, rfl, hw⟩
  subst w1
  exact ⟨_, rfl, rfl, rfl⟩
 rintro _ w2 ⟨rfl, hw⟩
 subst w2
 refine ⟨fun h => by simp at h, fun _ => ⟨_, rfl, fun w7 c7 => ?_⟩⟩
 obtain ⟨p, c, r, j, clk, a1, a2, _⟩ := (h.chg c7 (by simp)).there
 obtain ⟨p', c', r', j', clk', b1, b2, _⟩ := (h'.chg c7 (by simp)).there
 refine ⟨most, by rw [cell_of a1]; rfl, _, rfl, most', by rw [cell_of b1]; rfl, fun b4 w8 => b4 = decide (most = most' ∧ sets = sets') ∧ Chg [] w w8, fun _ _ h => h, fun he => ?_, fun hne => ?_⟩
 ·have he' : most = most' := by simpa using he
  refine ⟨p, _, c, by rw [add_at, cell_of a1]; rfl, p', _, c', by rw [add_at, cell_of b1]; rfl, ?_⟩
  have hl := h.few
  have hm := h.most2
  refine (slices_equal a2 b2 (by omega)).mono ?_
  rintro _ w9 ⟨_, rfl, rfl, c9⟩
  exact ⟨_, rfl, by simp [he'], c7.trans0 c9⟩
 ·have hne' : most ≠ most' := by simpa using hne
  exact ⟨by simp [hne'], c7⟩
theorem map_lenP {w : World} {r : Nat} {l : List ((Int × Int) × Int)} (h : MapIs w r encP (fun n : Int => .int .u32 n) l) (T : TypeId) : (Builtin.len_ #[99] T #[.map (some r)]).run Tryz.prog w = .ok (.int .i64 (l.length : Int)) w := by
 obtain ⟨es, clk, hb, he, _⟩ := h
 have : es.size = l.length := by
  have := congrArg List.length he
  simpa using this
 simp [Builtin.len_, run_underlying u143, MapKept.run_getObj_map hb, Result.andThen, this, go_sem]
theorem look_all {K V : Type} [DecidableEq K] {l1 l2 : List (K × V)} (n1 : (l1.map Prod.fst).Nodup) (n2 : (l2.map Prod.fst).Nodup) (hl : l1.length = l2.length) (h : ∀ x ∈ l1, lookK x.1 l2 = some x.2) (k : K) : lookK k l1 = lookK k l2 := by
 cases h1 : lookK k l1 with
 | some v => exact (h _ (lookK_mem h1)).symm
 | none =>
  cases h2 : lookK k l2 with
  | none => rfl
  | some v =>
   exfalso
   have := nodup_sub_length (a := k :: l1.map Prod.fst) (b := l2.map Prod.fst) (List.nodup_cons.2 ⟨fun hm => by
    obtain ⟨x, hx, e⟩ := List.mem_map.1 hm
    exact lookK_none.1 h1 x hx e, n1⟩) (fun y hy => by
    rcases List.mem_cons.1 hy with rfl | hy
    ·exact List.mem_map.2 ⟨_, lookK_mem h2, rfl⟩
    ·obtain ⟨x, hx, rfl⟩ := List.mem_map.1 hy
     exact List.mem_map.2 ⟨_, lookK_mem (h x hx), rfl⟩)
   simp at this; omega
theorem look_length {K V : Type} [DecidableEq K] {l1 l2 : List (K × V)} (n1 : (l1.map Prod.fst).Nodup) (n2 : (l2.map Prod.fst).Nodup) (h : ∀ k, lookK k l1 = lookK k l2) : l1.length = l2.length := by
 have key : ∀ (a b : List (K × V)), (a.map Prod.fst).Nodup → (∀ k, lookK k a = lookK k b) → a.length ≤ b.length := fun a b na hab => by
  have := nodup_sub_length (a := a.map Prod.fst) (b := b.map Prod.fst) na (fun y hy => by
   obtain ⟨x, hx, rfl⟩ := List.mem_map.1 hy
   have := (lookK_iff na).2 (show (x.1, x.2) ∈ a from hx)
   rw [hab] at this
   exact List.mem_map.2 ⟨_, lookK_mem this, rfl⟩)
  simpa using this
 exact Nat.le_antisymm (key _ _ n1 h) (key _ _ n2 fun k => (h k).symm)
theorem maps_equal {w : World} {r1 r2 : Nat} {l1 l2 : List ((Int × Int) × Int)} (h1 : MapIs w r1 encP (fun n : Int => .int .u32 n) l1) (h2 : MapIs w r2 encP (fun n : Int => .int .u32 n) l2) :
  Calls Tryz.prog 54 #[.map (some r1), .map (some r2)] w fun e w' => ∃ r : Bool, e = .returned (.bool r) ∧ ((r = true ↔ ∀ k, lookK k l1 = lookK k l2) ∧ Chg [] w w') := by
 have nd1 : (l1.map Prod.fst).Nodup := by obtain ⟨_, _, _, _, nd, _⟩ := h1; exact nd
 have nd2 : (l2.map Prod.fst).Nodup := by obtain ⟨_, _, _, _, nd, _⟩ := h2; exact nd
 refine go_maps_Equal_600 _ _ _ _ ?_
 unfold W_maps_Equal_600
 refine ⟨_, map_lenP h1 _, _, map_lenP h2 _, fun hb => ?_, fun hb => ?_⟩
 ·have : ¬ l1.length = l2.length := by simp at hb; omega
  exact ⟨⟨fun h => (by cases h), fun h => absurd (look_length nd1 nd2 h) this⟩, Chg.refl _ _⟩
 have hlen : l1.length = l2.length := by simp at hb; omega
 obtain ⟨it, w1, hrg, c1, hit, hI1⟩ := iter_range (P := Tryz.prog) (T := 99) h1 u143
 have hlr := h1.lt
 have hlr2 := h2.lt
 have hne : it ≠ r1 := by omega
 have s1 := c1.size
 refine ⟨some ⟨it, 0, none⟩, w1, hrg, fun x w2 => x = false ∧ ∃ done, IterAt w2 it r1 encP (fun n : Int => .int .u32 n) l1 done ∧ Chg [] w w2 ∧ (∀ x ∈ done, lookK x.1 l2 = some x.2), fun _ w2 => l1.length - seenN w2 it, ⟨rfl, [], hI1, c1, by simp⟩, ?_⟩
 rintro _ w2 ⟨rfl, done, hIt, c2, hd⟩
 rcases iter_next (P := Tryz.prog) hIt hne keyPlace.inj 0 with ⟨hnx, hall⟩ | ⟨k, v, w3, hkl, hnew, hrun, c3, hI3, hent⟩
 ·exact ⟨_, false, w2, hnx, rfl, fun h => by simp at h, fun _ => ⟨⟨fun _ => look_all nd1 nd2 hlen fun x hx => hd x (hall x hx), fun _ => rfl⟩, c2⟩⟩
 have c03 : Chg [] w w3 := c2.trans c3 (fun i hi hlt => by simp at hi; omega)
 have a1 := hIt.count
 have a2 := hI3.count
 have a3 := hIt.more hkl hnew
 simp at a2
 refine ⟨_, true, w3, hrun, rfl, fun _ => ⟨k.1, k.2, v, hent, fun b1 w5 hb5 c5 => ?_⟩, fun h => by simp at h⟩
 have c05 := c03.trans0 c5
 have hlk := (h2.chg c05 (by simp)).lookup (P := Tryz.prog) (T := 99) u143 keyPlace (z := .int .u32 0) zero22 k true
 refine ⟨(lookK k l2).getD 0, (lookK k l2).isSome, ?_, fun hne => ⟨⟨fun h => (by cases h), fun h => ?_⟩, c05⟩, fun heq => ?_⟩
 ·rw [show (Value.agg #[.int .i64 k.1, .int .i64 k.2]) = encP k from rfl, hlk]
  cases lookK k l2 <;> rfl
 ·have := (lookK_iff nd1).2 hkl
  rw [h] at this
  rw [this] at hne
  simp at hne
 ·have hv : lookK k l2 = some v := by
   cases hl : lookK k l2 with
   | none => rw [hl] at heq; simp at heq
   | some u => rw [hl] at heq; simp at heq; rw [heq]
  have hlt : it < w3.heap.size := hI3.lt
  have a4 : seenN w5 it = seenN w3 it := by unfold seenN; rw [c5.block it hlt (by simp)]
  refine ⟨⟨rfl, done ++ [(k, v)], hI3.chg c5 (by simp) (by simp), c05, fun x hx => ?_⟩, by simp only []; omega⟩
  rcases List.mem_append.1 hx with h | h
  ·exact hd x h
  ·simp at h; subst h; exact hv
def sameF (F G : Fl) : Prop := F.fr = G.fr ∧ F.se = G.se ∧ F.most = G.most ∧ F.sets = G.sets ∧ ∀ p, F.g p = G.g p
theorem allIs_look {w w' : World} {m m' : Nat} {F G : Fl} {L M : List ((Int × Int) × Int)} (h : AllIs w m F L) (h' : AllIs w' m' G M) : (∀ k, lookK k L = lookK k M) ↔ ∀ p, F.g p = G.g p := by
 constructor
 ·intro hk p
  have := hk p
  rw [h.look, h'.look] at this
  split at this <;> split at this <;> simp_all
 ·intro hp k
  rw [h.look, h'.look, hp]
theorem flow_same {w : World} {a b : Nat} {F G : Fl} {fa fb : List Nat} (ha : FlowAt w a F fa) (hb : FlowAt w b G fb) :
  Calls Tryz.prog 23 #[.pointer (some ⟨a, 0, none⟩), .pointer (some ⟨b, 0, none⟩)] w fun e w' => ∃ r : Bool, e = .returned (.bool r) ∧ ((r = true ↔ sameF F G) ∧ Chg [] w w') := by
 refine go_flow_Same _ _ _ _ ?_
 unfold W_flow_Same
 refine (flow_none ha).mono ?_
 rintro _ w1 ⟨_, rfl, rfl, hw⟩
 subst w1
 refine ⟨_, rfl, fun b2 w' => b2 = false ∧ w' = w, ?_, fun _ => ?_, fun hf => by simp at hf⟩
 rotate_left
 ·refine (flow_none hb).mono ?_
  rintro _ w1 ⟨_, rfl, rfl, hw⟩
  subst w1
  exact ⟨_, rfl, rfl, rfl⟩
 rintro _ w2 ⟨rfl, hw⟩
 subst w2
 refine ⟨fun h => by simp at h, fun _ w7 c7 => ?_⟩
 have ha7 := ha.chg c7 (by simp)
 have hb7 := hb.chg c7 (by simp)
 obtain ⟨T, m, d, r, l, fpT, fpm, fpd, gm, gd, h1, h2, _⟩ := ha7.there
 obtain ⟨T', m', d', r', l', fpT', fpm', fpd', gm', gd', k1, k2, _⟩ := hb7.there
 have K : ∀ {W : World}, Chg [] w7 W → (CellsAt W ⟨a, 0, none⟩ 0 [.int .i64 F.fr, .int .i64 F.se] ∧ CellsAt W ⟨b, 0, none⟩ 0 [.int .i64 G.fr, .int .i64 G.se] ∧ W.cell? ((⟨a, 0, none⟩ : Addr).add 2) = some (.pointer (some ⟨T, 0, none⟩)) ∧ W.cell? ((⟨b, 0, none⟩ : Addr).add 2) = some (.pointer (some ⟨T', 0, none⟩))) := fun hc => by
  have q1 := hc.obj (by simp) h1
  have q2 := hc.obj (by simp) k1
  refine ⟨?_, ?_, by rw [add_at, cell_of q1]; rfl, by rw [add_at, cell_of q2]; rfl⟩
  ·exact ⟨by rw [add_at, cell_of q1]; rfl, by rw [add_at, cell_of q1]; rfl, trivial⟩
  ·exact ⟨by rw [add_at, cell_of q2]; rfl, by rw [add_at, cell_of q2]; rfl, trivial⟩
 obtain ⟨z1, z2, z3, z4⟩ := K (Chg.refl _ _)
 refine ⟨_, rfl, _, _, z1, _, rfl, _, _, z2, _, z3, _, z4, fun b4 w8 => (b4 = true ↔ F.fr = G.fr ∧ F.se = G.se ∧ F.most = G.most ∧ F.sets = G.sets) ∧ Chg [] w7 w8, ?_, fun he => ?_, fun hne => ?_⟩
 ·rintro b4 w8 ⟨hb4, c8⟩
  refine ⟨fun b5 w10 => (b5 = true ↔ sameF F G) ∧ Chg [] w w10, fun _ _ h => h, fun ht => ?_, fun hf => ?_⟩
  ·have h4 := hb4.1 ht
   refine (flow_all_map (ha7.chg c8 (by simp))).mono ?_
   rintro _ w11 ⟨_, rfl, m1, L1, rfl, hA1, c11, _⟩
   refine ⟨_, rfl, K (c8.trans0 c11), ?_⟩
   refine (flow_all_map ((hb7.chg c8 (by simp)).chg c11 (by simp))).mono ?_
   rintro _ w12 ⟨_, rfl, m2, L2, rfl, hA2, c12, _⟩
   refine ⟨_, rfl, K ((c8.trans0 c11).trans0 c12), ?_⟩
   refine (maps_equal (hA1.map.chg c12 (by simp)) hA2.map).mono ?_
   rintro _ w13 ⟨r9, rfl, hr, c13⟩
   refine ⟨r9, rfl, ?_, (((c7.trans0 c8).trans0 c11).trans0 c12).trans0 c13⟩
   rw [hr, allIs_look hA1 hA2]
   unfold sameF
   exact ⟨fun h => ⟨h4.1, h4.2.1, h4.2.2.1, h4.2.2.2, h⟩, fun h => h.2.2.2.2⟩
  ·refine ⟨⟨fun h => (by cases h), fun h => ?_⟩, c7.trans0 c8⟩
   have := hb4.2 ⟨h.1, h.2.1, h.2.2.1, h.2.2.2.1⟩
   rw [hf] at this; cases this
 ·have he' : F.fr = G.fr ∧ F.se = G.se := by simpa using he
  refine (table_same h2 k2).mono ?_
  rintro _ w9 ⟨_, rfl, rfl, c9⟩
  exact ⟨_, rfl, K c9, by simp [he'.1, he'.2], c9⟩
 ·refine ⟨⟨fun h => (by cases h), fun h => ?_⟩, Chg.refl _ _⟩
  simp [h.1, h.2.1] at hne
end Go.Proofs.YtfcfkhbkkfpehaaGreat
end
section
/- Pages of sets, the sets that are kept: the flow's, the document's. -/
namespace Go.Proofs.YtfcfkhbkkfpehaaGreat
open Go Go.RowKit Go.X Go.XR
theorem law_sets {w : World} {e e' : TypeId} {p q : Option Addr} {n c m d : Nat} {xs ys : List Int} (h1 : RowAt w e 1 p n c (xs.map (Value.int .u32))) (h2 : RowAt w e' 1 q m d (ys.map (Value.int .u32))) (hn : n ≤ 1000000) :
  Calls Tryz.prog 61 #[.slice p n c, .slice q m d] w fun e w' => ∃ r : Bool, e = .returned (.bool r) ∧ (r = decide (xs = ys) ∧ Chg [] w w') := by
 have l1 := h1.length
 have l2 := h2.length
 simp at l1 l2
 refine go_pomanderlaw12_sets _ _ _ _ _ _ _ _ ?_
 unfold W_pomanderlaw12_sets
 refine ⟨fun hne => ⟨?_, Chg.refl _ _⟩, fun he => ?_⟩
 ·symm; rw [decide_eq_false_iff_not]; intro e; subst e; simp at hne; omega
 have hnm : n = m := by simp at he; omega
 subst hnm
 refine ⟨fun _ j w' => ∃ k : Nat, j = k ∧ k ≤ n ∧ xs.take k = ys.take k ∧ Chg [] w w', fun _ j _ => n - j.toNat, ⟨0, rfl, Nat.zero_le _, rfl, Chg.refl _ _⟩, ?_⟩
 rintro x1 _ w1 ⟨k, rfl, hk, htk, c1⟩
 refine ⟨fun hlt => ?_, fun hge => ?_⟩
 ·have hlt' : k < n := by have := of_decide_eq_true hlt; omega
  obtain ⟨x, hx⟩ := get_of (l := xs) (j := k) (by omega)
  obtain ⟨y, hy⟩ := get_of (l := ys) (j := k) (by omega)
  obtain ⟨a, rfl, ha⟩ := h1.at (j := k) (u := .int .u32 x) (by simp [hx])
  obtain ⟨b, rfl, hb⟩ := h2.at (j := k) (u := .int .u32 y) (by simp [hy])
  refine ⟨a, rfl, by omega, by omega, fun w2 c2 => ⟨x, ?_, b, rfl, by omega, by omega, y, ?_, fun hne => ⟨?_, c1.trans0 c2⟩, fun heq => ?_⟩⟩
  ·simpa using (c1.trans0 c2).cell (by simp) ha
  ·simpa using (c1.trans0 c2).cell (by simp) hb
  ·symm; rw [decide_eq_false_iff_not]; intro e; subst e; rw [hx] at hy; cases hy; simp at hne
  ·have hxy : x = y := by simpa using heq
   rw [wr (by omega) (by omega)]
   exact ⟨⟨k + 1, by omega, by omega, (take_eq_of htk hx hy).1 hxy, c1.trans0 c2⟩, by simp only []; omega⟩
 ·have hge' : ¬ k < n := by have := of_decide_eq_false hge; omega
  refine ⟨?_, c1⟩
  rw [List.take_of_length_le (by omega), List.take_of_length_le (by omega)] at htk
  symm; rw [decide_eq_true_eq]; exact htk
theorem table_all {w : World} {b : Nat} {most : Int} {sets : List Int} {fp : List Nat} (h : TableAt w b most sets fp) :
  Calls Tryz.prog 68 #[.pointer (some ⟨b, 0, none⟩)] w fun e w' => ∃ (r : Option Addr) (rn rc : Nat), e = .returned (.slice r rn rc) ∧ (rn = sets.length ∧ RowAt w' 22 1 r rn rc (sets.map (.int .u32)) ∧ Chg [] w w' ∧ ∀ i ∈ rowB r, w.heap.size ≤ i) := by
 refine go_labels_Table_All _ _ _ ?_
 unfold W_labels_Table_All
 refine (table_none h).mono ?_
 rintro _ w1 ⟨_, rfl, rfl, hw⟩
 subst w1
 obtain ⟨p, c, r, j, clk, a1, a2, _⟩ := h.there
 refine ⟨_, rfl, fun h => by simp at h, fun _ => ⟨_, rfl, p, _, c, by rw [add_at, cell_of a1]; rfl, ?_⟩⟩
 have hl := h.few
 have hm := h.most2
 have hp : 0 < sets.length := List.length_pos_iff.2 h.some
 obtain ⟨a, rfl, _⟩ : ∃ a, p = some a ∧ True := by
  obtain ⟨x, hx⟩ := get_of (l := sets) hp
  obtain ⟨a, e, _⟩ := a2.at (j := 0) (u := .int .u32 x) (by simp [hx])
  exact ⟨a, e, trivial⟩
 refine (clone111 a2 (by omega)).mono ?_
 rintro _ w2 ⟨r3, rn, rc, rfl, rfl, hr, c2, hf⟩
 exact ⟨_, _, _, rfl, rfl, hr, c2, hf⟩
theorem flow_sets {w : World} {b : Nat} {F : Fl} {fp : List Nat} (h : FlowAt w b F fp) :
  Calls Tryz.prog 33 #[.pointer (some ⟨b, 0, none⟩)] w fun e w' => ∃ (r : Option Addr) (rn rc : Nat), e = .returned (.slice r rn rc) ∧ (rn = F.sets.length ∧ RowAt w' 22 1 r rn rc (F.sets.map (.int .u32)) ∧ Chg [] w w' ∧ ∀ i ∈ rowB r, w.heap.size ≤ i) := by
 refine go_flow_Flow_Sets _ _ _ ?_
 unfold W_flow_Flow_Sets
 refine (flow_none h).mono ?_
 rintro _ w1 ⟨_, rfl, rfl, hw⟩
 subst w1
 obtain ⟨T, m, d, r, l, fpT, fpm, fpd, gm, gd, h1, h2, _⟩ := h.there
 refine ⟨_, rfl, fun h => by simp at h, fun _ => ⟨_, rfl, _, by rw [add_at, cell_of h1]; rfl, ?_⟩⟩
 refine (table_all h2).mono ?_
 rintro _ w2 ⟨r3, rn, rc, rfl, h3⟩
 exact ⟨_, _, _, rfl, h3⟩
def pagesF (F : Fl) (k bound : Int) : Nat := pagesL (fun n => F.g (k, n)) bound bound.toNat
theorem flow_pages {w : World} {b : Nat} {F : Fl} {fp : List Nat} (h : FlowAt w b F fp) :
  Calls Tryz.prog 36 #[.pointer (some ⟨b, 0, none⟩)] w fun e w' => ∃ (r1 r2 : Int), e = .returned (.tuple #[.int .i64 r1, .int .i64 r2]) ∧ (r1 = pagesF F 10 F.fr ∧ r2 = pagesF F 12 F.se ∧ Chg [] w w') := by
 refine go_flow_Flow_Pages _ _ _ ?_
 unfold W_flow_Flow_Pages
 refine (flow_none h).mono ?_
 rintro _ w1 ⟨_, rfl, rfl, hw⟩
 subst w1
 refine ⟨_, rfl, fun h => by simp at h, fun _ w2 c2 => ?_⟩
 obtain ⟨T, m, d, r, l, fpT, fpm, fpd, gm, gd, h1, h2, h3, h4, h5, h6, h7, _⟩ := (h.chg c2 (by simp)).there
 refine ⟨_, rfl, _, by rw [add_at, cell_of h1]; rfl, _, by rw [add_at, cell_of h1]; rfl, ?_⟩
 refine (shadow_pages h3).mono ?_
 rintro _ w3 ⟨_, rfl, rfl, hw⟩
 subst w3
 refine ⟨_, rfl, ⟨by rw [add_at, cell_of h1]; rfl, by rw [add_at, cell_of h1]; rfl⟩, ?_⟩
 refine (shadow_pages h4).mono ?_
 rintro _ w4 ⟨_, rfl, rfl, hw⟩
 subst w4
 have e1 : gm = fun n => F.g (10, n) := funext fun n => (h6 n).symm
 have e2 : gd = fun n => F.g (12, n) := funext fun n => (h7 n).symm
 exact ⟨_, rfl, by rw [e1]; rfl, by rw [e2]; rfl, c2⟩
/-! ### The document's pages -/
def pageStep (k : Int) (s : Int × Int) (x : Pr) : Int × Int := if x.1.1 = k ∧ x.1.2 / 64 ≠ s.2 then (s.1 + 1, x.1.2 / 64) else s
def pageFold (k : Int) (l : List Pr) : Int × Int := l.foldl (pageStep k) (0, -1)
theorem pageFold_snoc (k : Int) (l : List Pr) (x : Pr) : pageFold k (l ++ [x]) = pageStep k (pageFold k l) x := by simp [pageFold]
def onPage (k : Int) (l : List Pr) (i : Nat) : Bool := l.any fun x => decide (x.1.1 = k ∧ x.1.2 / 64 = i)
theorem countP_new {n : Nat} {p q : Nat → Bool} {i : Nat} (hi : i < n) (hp : p i = false) (hq : q i = true) (h : ∀ j, j ≠ i → q j = p j) : (List.range n).countP q = (List.range n).countP p + 1 := by
 have := countP_set (l := List.range n) List.nodup_range (List.mem_range.2 hi) p q fun j hj => (h j hj).symm
 simp [hp, hq] at this
 omega
theorem page_inv {fr se : Int} {k K : Int} (hK : ∀ q, mayP fr se q → q.1 = k → q.2 < 64 * K) : ∀ (n : Nat) (l : List Pr), l.length = n → Good fr se l →
  (pageFold k l).1 = ((List.range K.toNat).countP (onPage k l) : Nat) ∧ (∀ x ∈ l, x.1.1 = k → x.1.2 / 64 ≤ (pageFold k l).2) ∧ ((pageFold k l).2 = -1 ∨ ∃ x ∈ l, x.1.1 = k ∧ x.1.2 / 64 = (pageFold k l).2)
 | 0, l, hl, _ => by
  obtain rfl := List.eq_nil_of_length_eq_zero hl
  refine ⟨?_, by simp, .inl rfl⟩
  have : (List.range K.toNat).countP (onPage k []) = 0 := List.countP_eq_zero.2 (by simp [onPage])
  rw [this]; rfl
 | n + 1, l, hl, hg => by
  have hne : l ≠ [] := fun e => by subst e; simp at hl
  obtain ⟨l', x, rfl⟩ : ∃ l' x, l = l' ++ [x] := ⟨l.dropLast, l.getLast hne, (List.dropLast_concat_getLast hne).symm⟩
  have hr := hg.rise
  rw [List.map_append, List.pairwise_append] at hr
  have hg' : Good fr se l' := ⟨hr.1, fun y hy => hg.each y (by simp [hy])⟩
  obtain ⟨i1, i2, i3⟩ := page_inv hK n l' (by simpa using hl) hg'
  have hx := hg.each x (by simp)
  have hbe : ∀ y ∈ l', aheadP y.1 x.1 := fun y hy => hr.2.2 y.1 (List.mem_map.2 ⟨y, hy, rfl⟩) x.1 (by simp)
  rw [pageFold_snoc]
  unfold pageStep
  by_cases hk : x.1.1 = k
  ·have h0 := hx.2.2.2.1
   have hb := hK x.1 hx.2 hk
   have hle : (pageFold k l').2 ≤ x.1.2 / 64 := by
    rcases i3 with e | ⟨y, hy, hyk, e⟩
    ·omega
    ·have := hbe y hy
     unfold aheadP at this
     omega
   by_cases hp : x.1.2 / 64 = (pageFold k l').2
   ·rw [if_neg (fun h => h.2 hp)]
    refine ⟨?_, fun y hy hyk => ?_, .inr ⟨x, by simp, hk, hp⟩⟩
    ·rw [i1]
     congr 1
     refine List.countP_congr fun i _ => ?_
     rcases i3 with e | ⟨y, hy, hyk, e⟩
     ·omega
     ·simp only [onPage, List.any_append, List.any_cons, List.any_nil, Bool.or_false, Bool.or_eq_true, decide_eq_true_eq]
      constructor
      ·exact .inl
      ·rintro (h | h)
       ·exact h
       ·rw [List.any_eq_true]; exact ⟨y, hy, by rw [decide_eq_true_eq]; exact ⟨hyk, by omega⟩⟩
    ·rcases List.mem_append.1 hy with hy | hy
     ·exact i2 y hy hyk
     ·simp at hy; subst hy; omega
   ·rw [if_pos ⟨hk, hp⟩]
    refine ⟨?_, fun y hy hyk => ?_, .inr ⟨x, by simp, hk, rfl⟩⟩
    ·rw [i1, countP_new (p := onPage k l') (q := onPage k (l' ++ [x])) (i := (x.1.2 / 64).toNat) (by omega) ?_ ?_ ?_]
     ·simp only []; omega
     ·cases hq : onPage k l' (x.1.2 / 64).toNat with
      | false => rfl
      | true =>
       unfold onPage at hq
       rw [List.any_eq_true] at hq
       obtain ⟨y, hy, e⟩ := hq
       rw [decide_eq_true_eq] at e
       have := i2 y hy e.1
       omega
     ·simp only [onPage, List.any_append, List.any_cons, List.any_nil, Bool.or_false, Bool.or_eq_true, decide_eq_true_eq]
      exact .inr ⟨hk, by omega⟩
     ·intro j hj
      simp only [onPage, List.any_append, List.any_cons, List.any_nil, Bool.or_false]
      have : decide (x.1.1 = k ∧ x.1.2 / 64 = (j : Int)) = false := by rw [decide_eq_false_iff_not]; omega
      rw [this, Bool.or_false]
    ·rcases List.mem_append.1 hy with hy | hy
     ·have := i2 y hy hyk; simp only []; omega
     ·simp at hy; subst hy; exact Int.le_refl _
  ·rw [if_neg (fun h => hk h.1)]
   refine ⟨?_, fun y hy hyk => ?_, ?_⟩
   ·rw [i1]
    congr 1
    refine List.countP_congr fun i _ => ?_
    simp [onPage, hk]
   ·rcases List.mem_append.1 hy with hy | hy
    ·exact i2 y hy hyk
    ·simp at hy; subst hy; exact absurd hyk hk
   ·rcases i3 with e | ⟨y, hy, h⟩
    ·exact .inl e
    ·exact .inr ⟨y, by simp [hy], h⟩
theorem onPage_priv {fr se : Int} {l : List Pr} (hg : Good fr se l) {k K : Int} (hK : ∀ q, mayP fr se q → q.1 = k → q.2 < 64 * K) (i : Nat) (hi : i < K.toNat) :
  onPage k l i = privL (fun n => lookPr l (k, n)) K i := by
 rw [Bool.eq_iff_iff]
 unfold onPage privL
 rw [List.any_eq_true, decide_eq_true_eq]
 constructor
 ·rintro ⟨x, hx, e⟩
  rw [decide_eq_true_eq] at e
  obtain ⟨e1, e2⟩ := e
  have hm := hg.each x hx
  refine ⟨by omega, by omega, many_pos (i := (x.1.2 % 64).toNat) (by omega) ?_⟩
  unfold pg
  have : (64 * (i : Int) + ((x.1.2 % 64).toNat : Nat) : Int) = x.1.2 := by omega
  rw [this]
  have hkx : (k, x.1.2) = x.1 := Prod.ext e1.symm rfl
  show lookPr l (k, x.1.2) ≠ 0
  rw [hkx]
  exact (hg.look x.1).1 (List.mem_map.2 ⟨x, hx, rfl⟩)
 ·rintro ⟨_, _, h⟩
  unfold many at h
  obtain ⟨j, hj, hne⟩ := List.countP_pos_iff.1 h
  have hj' := List.mem_range.1 hj
  have hne' : lookPr l (k, 64 * (i : Int) + (j : Int)) ≠ 0 := by simpa [pg] using hne
  obtain ⟨x, hx, e⟩ := List.mem_map.1 ((hg.look _).2 hne')
  refine ⟨x, hx, ?_⟩
  rw [decide_eq_true_eq, e]
  exact ⟨rfl, by simp only []; omega⟩
theorem pageFold_eq {fr se : Int} {l : List Pr} (hg : Good fr se l) {k K : Int} (hK : ∀ q, mayP fr se q → q.1 = k → q.2 < 64 * K) : (pageFold k l).1 = (pagesL (fun n => lookPr l (k, n)) K K.toNat : Nat) := by
 rw [(page_inv hK _ l rfl hg).1]
 congr 1
 unfold pagesL
 exact List.countP_congr fun i hi => by rw [onPage_priv hg hK i (List.mem_range.1 hi)]
theorem mayP_10 {fr se : Int} (q : Int × Int) (h : mayP fr se q) (hk : q.1 = 10) : q.2 < 64 * fr := by
 have := h.2.2.2; rw [hk] at this; simpa [boundP] using this
theorem mayP_12 {fr se : Int} (q : Int × Int) (h : mayP fr se q) (hk : q.1 = 12) : q.2 < 64 * se := by
 have := h.2.2.2; rw [hk] at this; simpa [boundP] using this
theorem ref_pages {w : World} {R : Rf} {p4 p5 : Option Addr} {n4 c4 n5 c5 : Nat} (h : RefAt w R p4 n4 c4 p5 n5 c5) (hn : n5 ≤ 100000000) (hw : R.fr ≤ 32 ∧ R.se ≤ 32) (hg : Good R.fr R.se R.pairs) (k : Int) :
  Calls Tryz.prog 60 #[.agg #[.int .i64 R.fr, .int .i64 R.se, .int .i64 R.most, .slice p4 n4 c4, .slice p5 n5 c5], .int .i64 k] w fun e w' => ∃ r : Int, e = .returned (.int .i64 r) ∧ (r = (pageFold k R.pairs).1 ∧ Chg [] w w') := by
 have hl := h.n5
 refine go_pomanderref12_Flow_Pages _ _ _ _ _ _ _ _ _ _ _ _ ?_
 unfold W_pomanderref12_Flow_Pages
 intro b1 w1 _ c1
 refine ⟨fun n last i w' => ∃ j : Nat, i = j ∧ j ≤ n5 ∧ (n, last) = pageFold k (R.pairs.take j) ∧ n ≤ j ∧ 0 ≤ n ∧ Chg [] w w', fun _ _ i _ => n5 - i.toNat, ⟨0, rfl, Nat.zero_le _, rfl, by omega, by omega, c1⟩, ?_⟩
 rintro n last _ w2 ⟨j, rfl, hj, hf, hnj, hn0, c2⟩
 refine ⟨fun hlt => ?_, fun hge => ?_⟩
 ·have hlt' : j < n5 := by have := of_decide_eq_true hlt; omega
  obtain ⟨x, hx⟩ := get_of (l := R.pairs) (j := j) (by omega)
  obtain ⟨a, rfl, hc⟩ := RowAt.elem (size := 3) (enc := encPr) (fun _ => rfl) h.pairs hx (by omega)
  refine ⟨fun n' last' w' => (n', last') = pageFold k (R.pairs.take (j + 1)) ∧ n' ≤ j + 1 ∧ 0 ≤ n' ∧ Chg [] w w', ?_, a, rfl, by omega, by omega, x.1.1, x.1.2, ?_, fun b2 w5 _ c5 => ?_⟩
  ·rintro n' last' w3 ⟨k1, k2, k3, k4⟩
   rw [wr (by omega) (by omega)]
   exact ⟨⟨j + 1, by omega, by omega, k1, by omega, k3, k4⟩, by simp only []; omega⟩
  ·have := c2.cells (by simp) hc
   rw [show Int.toNat (j : Int) = j by omega]
   exact ⟨this.1, this.2.1, trivial⟩
  ·have hm := hg.each x (List.mem_of_getElem? hx)
   have h0 : 0 ≤ x.1.2 := hm.2.2.2.1
   have hb : x.1.2 ≤ 9223372036854775807 := by
    have h1 := hm.2.2.2.2
    have h2 : boundP R.fr R.se x.1.1 ≤ 9223372036854775807 := by
     have := hg
     unfold boundP
     repeat' split
     all_goals omega
    omega
   have hd : IntKind.wrap .i64 (Int.tdiv x.1.2 64) = x.1.2 / 64 := by rw [Int.tdiv_eq_ediv_of_nonneg h0, wr (by omega) (by omega)]
   rw [hd]
   have hs : pageFold k (R.pairs.take (j + 1)) = pageStep k (n, last) x := by rw [take_snoc hx, pageFold_snoc, ← hf]
   refine ⟨fun b w' => b = decide (x.1.1 = k ∧ x.1.2 / 64 ≠ last) ∧ Chg [] w w', ?_, fun he => ?_, fun he => ?_⟩
   ·rintro b w6 ⟨rfl, c6⟩
    refine ⟨fun ht => ?_, fun hf' => ?_⟩
    ·have ht' := of_decide_eq_true ht
     rw [wr (by omega) (by omega), hs]
     unfold pageStep
     rw [if_pos ht']
     exact ⟨rfl, by omega, by omega, c6⟩
    ·have hf'' := of_decide_eq_false hf'
     rw [hs]
     unfold pageStep
     rw [if_neg hf'']
     exact ⟨rfl, by omega, by omega, c6⟩
   ·have he' : x.1.1 = k := by simpa using he
    refine ⟨?_, c2.trans0 c5⟩
    by_cases hl : x.1.2 / 64 = last <;> simp [he', hl]
   ·have he' : x.1.1 ≠ k := by simpa using he
    exact ⟨by simp [he'], c2.trans0 c5⟩
 ·have hge' : ¬ j < n5 := by have := of_decide_eq_false hge; omega
  rw [List.take_of_length_le (by omega)] at hf
  exact ⟨by rw [← hf], c2⟩
end Go.Proofs.YtfcfkhbkkfpehaaGreat
end
section
/- Small lemmas of several laws. -/
namespace Go.Proofs.YtfcfkhbkkfpehaaGreat
open Go Go.RowKit Go.X
theorem func_ne_nil130 (f : Nat) (lb : Array Value) (x y : Operand) (w : World) : ((do eqGuard .eql 88 x y (.func (.func f) #[] lb) .nilFunc; binOp .eql 88 (.func (.func f) #[] lb) .nilFunc : Sem Value)).run Tryz.prog w = .ok (.bool false) w := by
 simp only [binOp]
 have e : (Op.equalIn Op.maxDepth 88 (.func (.func f) #[] lb) .nilFunc).run Tryz.prog w = .ok false w := by
  rw [show Op.maxDepth = 9999 + 1 from rfl]
  unfold Op.equalIn
  simp [run_underlying Tryz.underlying88, Result.andThen, go_sem]
 simp [eqGuard, Op.equal, e, run_underlying Tryz.underlying88, Result.andThen, go_sem]
end Go.Proofs.YtfcfkhbkkfpehaaGreat
end
section
/- The law's helper same: a flow has just the document's sets. -/
namespace Go.Proofs.YtfcfkhbkkfpehaaGreat
open Go Go.RowKit Go.X Go.XR
theorem good_full {F : Fl} {R : Rf} (hrel : RelF F R) (hg : Good R.fr R.se R.pairs) {ys : List (Int × Int)} (hf : fullF F ys) : R.pairs = ys.map fun p => (p, F.g p) := by
 have hk : R.pairs.map Prod.fst = ys := by
  refine eq_of_rising hg.rise (hf.1.imp fun h => h) fun p => ?_
  rw [hf.2, hg.look, hrel.look]
  refine ⟨fun h => ⟨h, ?_⟩, fun h => h.1⟩
  have hm : p ∈ R.pairs.map Prod.fst := by rw [hg.look, hrel.look]; exact h
  obtain ⟨x, hx, rfl⟩ := List.mem_map.1 hm
  have := (hg.each x hx).2
  rwa [hrel.fr, hrel.se] at this
 have := hg.eq
 rw [hk] at this
 rw [this]
 exact List.map_congr_left fun p _ => by rw [hrel.look]
theorem same12 {w : World} {b : Nat} {F : Fl} {fp : List Nat} (hF : FlowAt w b F fp) {R : Rf} {p4 p5 : Option Addr} {n4 c4 n5 c5 : Nat} (hR : RefAt w R p4 n4 c4 p5 n5 c5) (hrel : RelF F R) (hg : Good R.fr R.se R.pairs) (hn : n5 ≤ 100000000) :
  Calls Tryz.prog 29 #[.pointer (some ⟨b, 0, none⟩), .agg #[.int .i64 R.fr, .int .i64 R.se, .int .i64 R.most, .slice p4 n4 c4, .slice p5 n5 c5]] w fun e w' => ∃ r : Bool, e = .returned (.bool r) ∧ (r = true ∧ Chg [] w w') := by
 have hwide := hF.wide
 have hl5 := hR.n5
 have hl4 := hR.n4
 have hK : ∀ q, mayP R.fr R.se q → q.1 = 10 → q.2 < 64 * R.fr := mayP_10
 refine go_pomanderlaw12_same _ _ _ _ _ _ _ _ _ _ _ _ ?_
 unfold W_pomanderlaw12_same
 rintro b3 b2 b1 w4 ⟨i3, j3⟩ ⟨i2, j2⟩ ⟨i1, j1⟩ c4'
 have s4 := c4'.size
 have N : ∀ {A B : World}, w4.heap.size ≤ A.heap.size → Chg [] A B → Same A B [b3, b2, b1] := fun h hc => Same.chg hc (by simp; omega)
 have hF4 := hF.chg c4' (by simp)
 refine (flow_all hF4).mono ?_
 rintro _ w5 ⟨_, rfl, cb0, _, _, rfl, _, _, c5', _⟩
 have s5 := c5'.size
 refine ⟨_, rfl, N (by omega) c5', false, fun w => func_ne_nil130 _ _ _ _ w, fun h => by simp at h, fun _ => ?_⟩
 refine (flow_all (hF4.chg c5' (by simp))).mono ?_
 rintro _ w7 ⟨_, rfl, cb, m, L, rfl, hcb, hAll, c7, hcbn, hmn⟩
 have s7 := c7.size
 have l1' := lt_of_heap hcb
 have l2' := hAll.map.lt
 refine ⟨_, rfl, N (by omega) c7, _, _, _, isFn100 cb, iterates_flow hcb hAll (by omega) (by omega), by simp; exact ⟨l1', l2'⟩, ?_⟩
 have c07 : Chg [] w w7 := (c4'.trans0 c5').trans0 c7
 have s07 := c07.size
 refine ⟨fun c O pre w' => c = pre.length ∧ Chg [] w w' ∧ w7.heap.size ≤ w'.heap.size, fun _ _ _ _ _ => False, ?_, ?_, ?_, ?_, ?_, ?_⟩
 ·rintro c pre O O' A B ⟨k1, k2, k3⟩ hO hc hO' hgr
  exact ⟨k1, k2.trans hc (fun i hi hlt => by have := (hO i hi).1; omega), Nat.le_trans k3 hc.size⟩
 ·rintro _ _ _ _ _ _ _ hf; exact hf.elim
 ·intro O w8 c8 hO; exact ⟨rfl, c07.trans0 c8, c8.size⟩
 ·rintro l1 O pre x1 x2 x3 c w8 hO hl1 ⟨ys, suf, hfull, hsuf⟩ ⟨rfl, k2, k3⟩ b4 w11 ⟨q1, q2⟩ c11 w12 c12
  have hl1' := hO l1 hl1
  have s11 := c11.size
  have s12 := c12.size
  have hpairs := good_full hrel hg hfull
  have hx : R.pairs[pre.length]? = some ((x1, x2), x3) := by
   have h1 : (ys.map (tell F))[pre.length]? = some (x1, x2, x3) := by rw [← hsuf]; simp
   rw [List.getElem?_map] at h1
   rw [hpairs, List.getElem?_map]
   cases hy : ys[pre.length]? with
   | none => rw [hy] at h1; cases h1
   | some y => rw [hy] at h1; simp [tell] at h1; simp [h1.1, h1.2.1, ← h1.2.2]; exact Prod.ext h1.1 h1.2.1
  have hlen := (List.getElem?_eq_some_iff.1 hx).1
  obtain ⟨a, rfl, hc⟩ := RowAt.elem (size := 3) (enc := encPr) (fun _ => rfl) hR.pairs hx (by omega)
  have c0w12 : Chg [] w w12 := (k2.trans c11 (fun i hi hlt => by simp at hi; omega)).trans0 c12
  have hc12 := c0w12.cells (by simp) hc
  refine ⟨fun bb w' => bb = false ∧ w' = w12, ?_, fun _ => ⟨a, rfl, by omega, by omega, x1, x2, ?_, ?_, rfl⟩, fun h => ?_⟩
  ·rintro _ w13 ⟨rfl, hw⟩
   subst w13
   refine ⟨fun bb w' => bb = false ∧ w' = w12, ?_, fun _ => ⟨a, rfl, by omega, by omega, x3, ?_, ?_, rfl⟩, fun h => by simp at h⟩
   ·rintro _ w14 ⟨rfl, hw⟩
    subst w14
    refine ⟨fun h => by simp at h, fun _ w16 c16 => ?_⟩
    have s16 := c16.size
    rw [wr (by omega) (by omega)]
    refine ⟨by omega, ⟨by simp, c0w12.trans c16 (fun i hi hlt => by simp at hi; omega), by omega⟩, ?_⟩
    refine Same.of (f := [b3]) (c12.nil.trans c16 (fun _ h _ => h)) fun i hi => ?_
    rcases List.mem_append.1 hi with h | h
    ·simp at h
     exact ⟨by rcases h with e | e <;> subst e <;> omega, by simp; rcases h with e | e <;> subst e <;> omega⟩
    ·have := hO i h
     exact ⟨by omega, by simp; omega⟩
   ·have := hc12.2.2.1; rw [show Int.toNat (pre.length : Int) = pre.length by omega]; exact this
   ·simp
  ·rw [show Int.toNat (pre.length : Int) = pre.length by omega]; exact ⟨hc12.1, hc12.2.1, trivial⟩
  ·simp
  ·have := of_decide_eq_true h; omega
 ·rintro d1 O xs c w17 hO hd ⟨ys, hfull, rfl⟩ ⟨rfl, k2, k3⟩
  have hd' := hO d1 hd
  have hpairs := good_full hrel hg hfull
  have hlen : R.pairs.length = ys.length := by rw [hpairs]; simp
  have N2 : ∀ {A B : World}, w17.heap.size ≤ A.heap.size → Chg [] A B → Same A B [b1, b2, b3, d1] := fun h hc => Same.chg hc (by simp; omega)
  refine (flow_pages (hF.chg k2 (by simp))).mono ?_
  rintro _ w18 ⟨r4, r5, rfl, e4, e5, c18⟩
  have s18 := c18.size
  refine ⟨_, _, rfl, N2 (Nat.le_refl _) c18, fun w19 c19 => ?_⟩
  have s19 := c19.size
  have c019 : Chg [] w w19 := (k2.trans0 c18).trans0 c19
  have hgp : ∀ (kk K : Int), (∀ q, mayP R.fr R.se q → q.1 = kk → q.2 < 64 * K) → (pageFold kk R.pairs).1 = pagesF F kk K := fun kk K hKK => by
   rw [pageFold_eq hg hKK]
   unfold pagesF
   congr 2
   funext n
   exact hrel.look _
  refine ⟨fun bb w' => bb = true ∧ Chg [] w w' ∧ w17.heap.size ≤ w'.heap.size, ?_, fun _ => ?_, fun h => ?_⟩
  ·rintro _ w20 ⟨rfl, c20, s20⟩
   refine ⟨fun bb w' => bb = true ∧ Chg [] w w' ∧ w17.heap.size ≤ w'.heap.size, ?_, fun _ => ?_, fun h => by simp at h⟩
   ·rintro _ w22 ⟨rfl, c22, s22⟩
    refine ⟨fun bb w' => bb = true ∧ Chg [] w w' ∧ w17.heap.size ≤ w'.heap.size, ?_, fun _ => ?_, fun h => by simp at h⟩
    ·rintro _ w24 ⟨rfl, c24, s24⟩ w27 c27 w28 c28
     exact ⟨rfl, (c24.trans c27 (fun i hi hlt => by simp at hi; omega)).trans c28 (fun i hi hlt => by simp at hi; omega)⟩
    ·refine (flow_sets (hF.chg c22 (by simp))).mono ?_
     rintro _ w25 ⟨r, rn, rc, rfl, rfl, hrow, c25, _⟩
     have s25 := c25.size
     refine ⟨_, _, _, rfl, N2 (by omega) c25, ?_⟩
     have hfew : F.sets.length ≤ 1000000 := by
      obtain ⟨T, m, d, r, l, fpT, fpm, fpd, gm, gd, h1, h2, _⟩ := hF.there
      have h3 := h2.few; have h4 := h2.most2; omega
     refine (law_sets hrow (((hR.sets.chg c22 (by simp)).chg c25 (by simp))) (by omega)).mono ?_
     rintro _ w26 ⟨_, rfl, rfl, c26⟩
     have s26 := c26.size
     exact ⟨_, rfl, N2 (by omega) c26, by simp [hrel.sets], (c22.trans0 c25).trans0 c26, by omega⟩
   ·refine (ref_pages (hR.chg c20 (by simp) (by simp)) hn ⟨by rw [hrel.fr]; omega, by rw [hrel.se]; omega⟩ hg 12).mono ?_
    rintro _ w23 ⟨_, rfl, rfl, c23⟩
    have s23 := c23.size
    refine ⟨_, rfl, N2 (by omega) c23, ?_, c20.trans0 c23, by omega⟩
    rw [e5, hgp 12 F.se (by rw [← hrel.se]; exact mayP_12)]; simp
  ·refine (ref_pages (hR.chg c019 (by simp) (by simp)) hn ⟨by rw [hrel.fr]; omega, by rw [hrel.se]; omega⟩ hg 10).mono ?_
   rintro _ w21 ⟨_, rfl, rfl, c21⟩
   have s21 := c21.size
   refine ⟨_, rfl, N2 (by omega) c21, ?_, c019.trans0 c21, by omega⟩
   rw [e4, hgp 10 F.fr (by rw [← hrel.fr]; exact mayP_10)]; simp
  ·exfalso
   simp at h
   omega
 ·rintro _ _ _ _ _ _ _ _ _ hf; exact hf.elim
end Go.Proofs.YtfcfkhbkkfpehaaGreat
end
section
/- A law's loop over acts: a flow and the document's, step by step. -/
namespace Go.Proofs.YtfcfkhbkkfpehaaGreat
open Go Go.RowKit Go.X Go.XR
structure LoopAt (w0 w : World) (B : List Nat) (bf : Nat) (F : Fl) (R : Rf) (p4 : Option Addr) (n4 c4 : Nat) (p5 : Option Addr) (n5 c5 : Nat) (fp : List Nat) : Prop where
 flow : FlowAt w bf F fp
 ref : RefAt w R p4 n4 c4 p5 n5 c5
 rel : RelF F R
 good : Good R.fr R.se R.pairs
 chg : Chg [] w0 w
 fresh : ∀ i ∈ fp, w0.heap.size ≤ i
 freshR : ∀ i ∈ rowB p4 ++ rowB p5, w0.heap.size ≤ i
 rows : ∀ i ∈ rowB p4 ++ rowB p5, i ∉ fp
 own : ∀ b ∈ B, b < w.heap.size ∧ b ∉ fp ∧ b ∉ rowB p4 ++ rowB p5
section
variable {w0 w w' : World} {B : List Nat} {bf : Nat} {F : Fl} {R : Rf} {p4 p5 : Option Addr} {n4 c4 n5 c5 : Nat} {fp : List Nat}
theorem LoopAt.rlt (h : LoopAt w0 w B bf F R p4 n4 c4 p5 n5 c5 fp) : ∀ i ∈ rowB p4 ++ rowB p5, i < w.heap.size := fun i hi => (List.mem_append.1 hi).elim (h.ref.sets.lt i) (h.ref.pairs.lt i)
theorem LoopAt.later (h : LoopAt w0 w B bf F R p4 n4 c4 p5 n5 c5 fp) (hc : Chg [] w w') : LoopAt w0 w' B bf F R p4 n4 c4 p5 n5 c5 fp :=
 ⟨h.flow.chg hc (by simp), h.ref.chg hc (by simp) (by simp), h.rel, h.good, h.chg.trans0 hc, h.fresh, h.freshR, h.rows, fun b hb => let ⟨a, b, c⟩ := h.own b hb; ⟨Nat.lt_of_lt_of_le a hc.size, b, c⟩⟩
theorem LoopAt.put (h : LoopAt w0 w B bf F R p4 n4 c4 p5 n5 c5 fp) {b : Nat} (hb : b ∈ B) (h0 : w0.heap.size ≤ b) (hc : Chg [b] w w') : LoopAt w0 w' B bf F R p4 n4 c4 p5 n5 c5 fp := by
 obtain ⟨_, k2, k3⟩ := h.own b hb
 refine ⟨h.flow.chg hc (fun i hi hm => by simp at hm; exact k2 (hm ▸ hi)), h.ref.chg hc (fun i hi hm => by simp at hm; exact k3 (hm ▸ List.mem_append_left _ hi)) (fun i hi hm => by simp at hm; exact k3 (hm ▸ List.mem_append_right _ hi)), h.rel, h.good, h.chg.trans hc (fun i hi hlt => by simp at hi; omega), h.fresh, h.freshR, h.rows, fun x hx => let ⟨a, b, c⟩ := h.own x hx; ⟨Nat.lt_of_lt_of_le a hc.size, b, c⟩⟩
theorem LoopAt.add (h : LoopAt w0 w B bf F R p4 n4 c4 p5 n5 c5 fp) {b : Nat} (hb : w.heap.size ≤ b) (hlt : b < w'.heap.size) (hc : Chg [] w w') : LoopAt w0 w' (b :: B) bf F R p4 n4 c4 p5 n5 c5 fp := by
 have hl := h.flow.lt
 have hr := h.rlt
 have h' := h.later hc
 refine { h' with own := fun x hx => ?_ }
 rcases List.mem_cons.1 hx with rfl | hx
 ·exact ⟨hlt, fun hm => by have := hl _ hm; omega, fun hm => by have := hr _ hm; omega⟩
 ·exact h'.own x hx
theorem LoopAt.drop {C : List Nat} (h : LoopAt w0 w B bf F R p4 n4 c4 p5 n5 c5 fp) (hs : ∀ b ∈ C, b ∈ B) : LoopAt w0 w C bf F R p4 n4 c4 p5 n5 c5 fp := { h with own := fun b hb => h.own b (hs b hb) }
theorem LoopAt.same (h : LoopAt w0 w B bf F R p4 n4 c4 p5 n5 c5 fp) {l : List Nat} (hl : ∀ b ∈ l, b ∈ B) (hc : Chg fp w w') : Same w w' l := Same.of hc fun b hb => ⟨(h.own b (hl b hb)).1, (h.own b (hl b hb)).2.1⟩
theorem LoopAt.same0 (h : LoopAt w0 w B bf F R p4 n4 c4 p5 n5 c5 fp) {l : List Nat} (hl : ∀ b ∈ l, b ∈ B) (hc : Chg [] w w') : Same w w' l := Same.chg hc fun b hb => (h.own b (hl b hb)).1
theorem LoopAt.does (h : LoopAt w0 w B bf F R p4 n4 c4 p5 n5 c5 fp) (hn4 : R.sets.length ≤ 100000) (hn5 : R.pairs.length ≤ 90000000) (hne : R.sets ≠ []) {S : Nat → Prop} {q : Option Addr} {qn qc : Nat} {a : ActV} (hA : ActAt w S q qn qc a) (hS : ∀ i, S i → i < w0.heap.size) (ht : tame a) :
  Calls Tryz.prog 30 #[.pointer (some ⟨bf, 0, none⟩), .agg #[.int .i64 R.fr, .int .i64 R.se, .int .i64 R.most, .slice p4 n4 c4, .slice p5 n5 c5], .agg #[.int .i64 a.kind, .int .i64 a.n, .int .i64 a.p.1, .int .i64 a.p.2, .int .u32 a.set, .slice q qn qc]] w fun e w' =>
   ∃ (r1 : Int) (r2 : Int) (r3 : Int) (r4 : Option Addr) (r4n : Nat) (r4c : Nat) (r5 : Option Addr) (r5n : Nat) (r5c : Nat) (r6 : Bool), e = .returned (.tuple #[.agg #[.int .i64 r1, .int .i64 r2, .int .i64 r3, .slice r4 r4n r4c, .slice r5 r5n r5c], .bool r6]) ∧
   (r1 = (stepR R a).fr ∧ r2 = (stepR R a).se ∧ r3 = (stepR R a).most ∧ r6 = true ∧ ∃ fp', LoopAt w0 w' B bf (stepF F a) (stepR R a) r4 r4n r4c r5 r5n r5c fp' ∧ Chg fp w w' ∧ (∀ i ∈ fp', i ∈ fp ∨ w.heap.size ≤ i)) := by
 have hfl := h.flow.lt
 have hrl := h.rlt
 have s := h.chg.size
 refine (does_ok h.flow h.ref h.rel h.rows hn4 hn5 hne hA (fun i hi hs => by have := hS i hs; have := h.fresh i hi; omega) ht).mono ?_
 rintro _ w1 ⟨r1, r2, r3, r4, r4n, r4c, r5, r5n, r5c, r6, rfl, rfl, rfl, rfl, rfl, hR, fp', hF, c1, hf, hr, hd⟩
 have hsh := stepR_shape R a
 refine ⟨_, _, _, _, _, _, _, _, _, _, rfl, hsh.1.symm, hsh.2.1.symm, hsh.2.2.symm, rfl, fp', ⟨hF, hR, h.rel.step a, h.good.step a, h.chg.trans c1 (fun i hi hlt => by have := h.fresh i hi; omega), fun i hi => ?_, fun i hi => ?_, hd, fun b hb => ?_⟩, c1, hf⟩
 ·rcases hf i hi with k | k
  ·exact h.fresh i k
  ·omega
 ·rcases hr i hi with k | k
  ·exact h.freshR i k
  ·omega
 ·obtain ⟨k1, k2, k3⟩ := h.own b hb
  refine ⟨Nat.lt_of_lt_of_le k1 c1.size, fun hm => ?_, fun hm => ?_⟩
  ·rcases hf b hm with k | k
   ·exact k2 k
   ·omega
  ·rcases hr b hm with k | k
   ·exact k3 k
   ·omega
theorem LoopAt.same12 (h : LoopAt w0 w B bf F R p4 n4 c4 p5 n5 c5 fp) (hn5 : R.pairs.length ≤ 90000000) :
  Calls Tryz.prog 29 #[.pointer (some ⟨bf, 0, none⟩), .agg #[.int .i64 R.fr, .int .i64 R.se, .int .i64 R.most, .slice p4 n4 c4, .slice p5 n5 c5]] w fun e w' => ∃ r : Bool, e = .returned (.bool r) ∧ (r = true ∧ Chg [] w w') := by
 have := h.ref.n5
 exact Go.Proofs.YtfcfkhbkkfpehaaGreat.same12 h.flow h.ref h.rel h.good (by omega)
end
theorem LoopAt.start {w0 w1 w2 w3 : World} {B : List Nat} {bf : Nat} {fr se most : Int} {fp : List Nat} (hF : FlowAt w2 bf (flowNew fr se most) fp) (hf : ∀ i ∈ fp, w1.heap.size ≤ i) (c01 : Chg [] w0 w1) (c12 : Chg [] w1 w2) (c23 : Chg [] w2 w3)
  {p4 p5 : Option Addr} {n4 c4 n5 c5 : Nat} (hR : RefAt w3 ⟨fr, se, most, [0], []⟩ p4 n4 c4 p5 n5 c5) (hr : ∀ i ∈ rowB p4 ++ rowB p5, w2.heap.size ≤ i) (hB : ∀ b ∈ B, b < w1.heap.size) :
  LoopAt w0 w3 B bf (flowNew fr se most) ⟨fr, se, most, [0], []⟩ p4 n4 c4 p5 n5 c5 fp := by
 have s1 := c01.size
 have s2 := c12.size
 have s3 := c23.size
 have hl := hF.lt
 exact ⟨hF.chg c23 (by simp), hR, RelF.new fr se most, Good.nil _ _, (c01.trans0 c12).trans0 c23, fun i hi => Nat.le_trans s1 (hf i hi), fun i hi => by have := hr i hi; omega, fun i hi hm => by have := hr i hi; have := hl i hm; omega,
  fun b hb => by have := hB b hb; exact ⟨by omega, fun hm => by have := hf b hm; omega, fun hm => by have := hr b hm; omega⟩⟩
end Go.Proofs.YtfcfkhbkkfpehaaGreat
end
section
namespace Go.Proofs.YtfcfkhbkkfpehaaGreat
open Go Go.X
/- pomander/pomanderlaw12.FlowCopies -/
def W_pomanderlaw12_FlowCopies (ahead1 : Option Addr) (ahead1n : Nat) (ahead1c : Nat) (behind1 : Option Addr) (behind1n : Nat) (behind1c : Nat) (leave1 : Int) (w : World) (R : Bool → World → Prop) : Prop :=
 ∀ (b1 : Nat) (w1 : World), (w.heap.size ≤ b1 ∧ b1 < w1.heap.size) → Chg [] w w1 → (Calls Tryz.prog 24 #[.slice ahead1 ahead1n ahead1c] w1 fun e w2 => ∃ (r2 : Bool), e = .returned (.bool r2) ∧ (Same w1 w2 [b1] ∧ (∃ J1 : Bool → World → Prop, (∀ (b2 : Bool) (w3 : World), J1 b2 w3 → ((b2 || decide ((IntKind.wrap .i64 ((ahead1n : Int) + (behind1n : Int))) > 30)) = true → Calls Tryz.prog 25 #[] w3 fun e w5 => ∃ (r4 : Bool), e = .returned (.bool r4) ∧ (Same w3 w5 [b1] ∧ (R r4 w5))) ∧ ((b2 || decide ((IntKind.wrap .i64 ((ahead1n : Int) + (behind1n : Int))) > 30)) = false → ∀ (b3 : Nat) (w7 : World), (w3.heap.size ≤ b3 ∧ b3 < w7.heap.size) → Chg [] w3 w7 → (Calls Tryz.prog 26 #[.agg #[.int .i64 2, .int .i64 2], .int .i64 12] w7 fun e w8 => ∃ (r5 : Option Addr) (r6 : Int), e = .returned (.tuple #[.pointer r5, .int .i64 r6]) ∧ (Same w7 w8 [b3, b1] ∧ (Calls Tryz.prog 28 #[.agg #[.int .i64 2, .int .i64 2], .int .i64 12] w8 fun e w9 => ∃ (r7 : Int) (r8 : Int) (r9 : Int) (r10 : Option Addr) (r10n : Nat) (r10c : Nat) (r11 : Option Addr) (r11n : Nat) (r11c : Nat), e = .returned (.agg #[.int .i64 r7, .int .i64 r8, .int .i64 r9, .slice r10 r10n r10c, .slice r11 r11n r11c]) ∧ (Same w8 w9 [b1] ∧ (∀ (b4 : Nat) (w11 : World), (w9.heap.size ≤ b4 ∧ b4 < w11.heap.size) → Chg [] w9 w11 → (∃ (I1 : Int → Int → Int → Int → (Option Addr) → Nat → Nat → (Option Addr) → Nat → Nat → World → Prop) (m1 : Int → Int → Int → Int → (Option Addr) → Nat → Nat → (Option Addr) → Nat → Nat → World → Nat), I1 0 r7 r8 r9 r10 r10n r10c r11 r11n r11c w11 ∧ ∀ (i1 : Int) (c1 : Int) (c2 : Int) (c3 : Int) (c4 : Option Addr) (c4n : Nat) (c4c : Nat) (c5 : Option Addr) (c5n : Nat) (c5c : Nat) (w12 : World), I1 i1 c1 c2 c3 c4 c4n c4c c5 c5n c5c w12 → ((decide (i1 < (ahead1n : Int))) = true → ∀ (w13 : World), Chg [] w12 w13 → (∃ a1 : Addr, ahead1 = some a1 ∧ (0 : Int) ≤ i1 ∧ i1 < (ahead1n : Int) ∧ (∃ (t1 : Int) (t2 : Int) (t3 : Int) (t4 : Int) (t5 : Int) (t6 : Option Addr) (t6n : Nat) (t6c : Nat), CellsAt w13 (a1.add (Int.toNat i1 * 6)) 0 [.int .i64 t1, .int .i64 t2, .int .i64 t3, .int .i64 t4, .int .u32 t5, .slice t6 t6n t6c] ∧ (Calls Tryz.prog 30 #[.pointer r5, .agg #[.int .i64 c1, .int .i64 c2, .int .i64 c3, .slice c4 c4n c4c, .slice c5 c5n c5c], .agg #[.int .i64 t1, .int .i64 t2, .int .i64 t3, .int .i64 t4, .int .u32 t5, .slice t6 t6n t6c]] w13 fun e w14 => ∃ (r12 : Int) (r13 : Int) (r14 : Int) (r15 : Option Addr) (r15n : Nat) (r15c : Nat) (r16 : Option Addr) (r16n : Nat) (r16c : Nat) (r17 : Bool), e = .returned (.tuple #[.agg #[.int .i64 r12, .int .i64 r13, .int .i64 r14, .slice r15 r15n r15c, .slice r16 r16n r16c], .bool r17]) ∧ ((CellsAt w14 (a1.add (Int.toNat i1 * 6)) 0 [.int .i64 t1, .int .i64 t2, .int .i64 t3, .int .i64 t4, .int .u32 t5, .slice t6 t6n t6c]) ∧ (Same w13 w14 [b1, b4] ∧ (∀ (w15 : World), Chg [b4] w14 w15 → ((I1 (IntKind.wrap .i64 (i1 + 1)) r12 r13 r14 r15 r15n r15c r16 r16n r16c w15 ∧ m1 (IntKind.wrap .i64 (i1 + 1)) r12 r13 r14 r15 r15n r15c r16 r16n r16c w15 < m1 i1 c1 c2 c3 c4 c4n c4c c5 c5n c5c w12))))))))) ∧ ((decide (i1 < (ahead1n : Int))) = false → Calls Tryz.prog 15 #[.pointer r5] w12 fun e w16 => ∃ (r18 : Option Addr), e = .returned (.pointer r18) ∧ (Same w12 w16 [b1, b4] ∧ (Calls Tryz.prog 23 #[.pointer r5, .pointer r18] w16 fun e w17 => ∃ (r19 : Bool), e = .returned (.bool r19) ∧ (Same w16 w17 [b1, b4] ∧ (((!r19) = true → R false w17) ∧ ((!r19) = false → ∀ (b5 : Nat) (w19 : World), (w17.heap.size ≤ b5 ∧ b5 < w19.heap.size) → Chg [] w17 w19 → (∃ (I2 : Int → Int → Int → Int → (Option Addr) → Nat → Nat → (Option Addr) → Nat → Nat → World → Prop) (m2 : Int → Int → Int → Int → (Option Addr) → Nat → Nat → (Option Addr) → Nat → Nat → World → Nat), I2 0 c1 c2 c3 c4 c4n c4c c5 c5n c5c w19 ∧ ∀ (i2 : Int) (c6 : Int) (c7 : Int) (c8 : Int) (c9 : Option Addr) (c9n : Nat) (c9c : Nat) (c10 : Option Addr) (c10n : Nat) (c10c : Nat) (w20 : World), I2 i2 c6 c7 c8 c9 c9n c9c c10 c10n c10c w20 → ((decide (i2 < (behind1n : Int))) = true → ∀ (w21 : World), Chg [] w20 w21 → (∃ a2 : Addr, behind1 = some a2 ∧ (0 : Int) ≤ i2 ∧ i2 < (behind1n : Int) ∧ (∃ (t7 : Int) (t8 : Int) (t9 : Int) (t10 : Int) (t11 : Int) (t12 : Option Addr) (t12n : Nat) (t12c : Nat), CellsAt w21 (a2.add (Int.toNat i2 * 6)) 0 [.int .i64 t7, .int .i64 t8, .int .i64 t9, .int .i64 t10, .int .u32 t11, .slice t12 t12n t12c] ∧ (Calls Tryz.prog 30 #[.pointer r18, .agg #[.int .i64 c6, .int .i64 c7, .int .i64 c8, .slice c9 c9n c9c, .slice c10 c10n c10c], .agg #[.int .i64 t7, .int .i64 t8, .int .i64 t9, .int .i64 t10, .int .u32 t11, .slice t12 t12n t12c]] w21 fun e w22 => ∃ (r20 : Int) (r21 : Int) (r22 : Int) (r23 : Option Addr) (r23n : Nat) (r23c : Nat) (r24 : Option Addr) (r24n : Nat) (r24c : Nat) (r25 : Bool), e = .returned (.tuple #[.agg #[.int .i64 r20, .int .i64 r21, .int .i64 r22, .slice r23 r23n r23c, .slice r24 r24n r24c], .bool r25]) ∧ ((CellsAt w22 (a2.add (Int.toNat i2 * 6)) 0 [.int .i64 t7, .int .i64 t8, .int .i64 t9, .int .i64 t10, .int .u32 t11, .slice t12 t12n t12c]) ∧ (Same w21 w22 [b1, b4, b5] ∧ (∀ (w23 : World), Chg [b5] w22 w23 → ((I2 (IntKind.wrap .i64 (i2 + 1)) r20 r21 r22 r23 r23n r23c r24 r24n r24c w23 ∧ m2 (IntKind.wrap .i64 (i2 + 1)) r20 r21 r22 r23 r23n r23c r24 r24n r24c w23 < m2 i2 c6 c7 c8 c9 c9n c9c c10 c10n c10c w20))))))))) ∧ ((decide (i2 < (behind1n : Int))) = false → Calls Tryz.prog 29 #[.pointer r5, .agg #[.int .i64 c1, .int .i64 c2, .int .i64 c3, .slice c4 c4n c4c, .slice c5 c5n c5c]] w20 fun e w24 => ∃ (r26 : Bool), e = .returned (.bool r26) ∧ (Same w20 w24 [b1, b4, b5] ∧ (∃ J2 : Bool → World → Prop, (∀ (b6 : Bool) (w25 : World), J2 b6 w25 → (b6 = true → R false w25) ∧ (b6 = false → ∀ (b7 : Nat) (w28 : World), (w25.heap.size ≤ b7 ∧ b7 < w28.heap.size) → Chg [] w25 w28 → (Calls Tryz.prog 34 #[.pointer r5] w28 fun e w29 => ∃ (r28 : Value), e = .returned (r28) ∧ (Same w28 w29 [b7, b1, b4] ∧ (∃ (S1 Sp1 : List (Int × Int × Int) → Prop) (keep1 : List Nat), XR.IsFn Tryz.prog r28 ∧ XR.Iterates Tryz.prog r28 (fun x : Int × Int × Int => #[.agg #[.int .i64 x.1, .int .i64 x.2.1], .int .u32 x.2.2]) S1 Sp1 keep1 w29 ∧ (∀ i_ ∈ keep1, i_ < w29.heap.size) ∧ ∃ (I3 : Int → List Nat → List (Int × Int × Int) → World → Prop) (X1 : Int → List Nat → List (Int × Int × Int) → World → Prop), (∀ (c11 : Int) (pre_ : List (Int × Int × Int)), XR.Stab w29 (fun O_ w_ => I3 c11 O_ pre_ w_)) ∧ (∀ (c11 : Int) (pre_ : List (Int × Int × Int)), XR.Stab w29 (fun O_ w_ => X1 c11 O_ pre_ w_)) ∧ (∀ (O1 : List Nat) (w30 : World), Chg [] w29 w30 → XR.InO w29 O1 w30 → I3 0 O1 ([]) w30) ∧ (∀ (l1 : Nat) (O1 : List Nat) (pre1 : List (Int × Int × Int)) (x1 : Int) (x2 : Int) (x3 : Int) (c11 : Int) (w30 : World), XR.InO w29 O1 w30 → l1 ∈ O1 → Sp1 (pre1 ++ [(x1, x2, x3)]) → I3 c11 O1 pre1 w30 → (∀ (w31 : World), Chg [l1] w30 w31 → (∀ (w32 : World), Chg [b7] w31 w32 → (((decide ((IntKind.wrap .i64 (c11 + 1)) ≥ leave1)) = true → (w31.heap.size ≤ w32.heap.size ∧ X1 (IntKind.wrap .i64 (c11 + 1)) O1 (pre1 ++ [(x1, x2, x3)]) w32 ∧ Same w31 w32 (keep1 ++ O1))) ∧ ((decide ((IntKind.wrap .i64 (c11 + 1)) ≥ leave1)) = false → (w31.heap.size ≤ w32.heap.size ∧ I3 (IntKind.wrap .i64 (c11 + 1)) O1 (pre1 ++ [(x1, x2, x3)]) w32 ∧ Same w31 w32 (keep1 ++ O1))))))) ∧ (∀ (d1 : Nat) (O2 : List Nat) (xs1 : List (Int × Int × Int)) (c11 : Int) (w33 : World), XR.InO w29 O2 w33 → d1 ∈ O2 → S1 xs1 → I3 c11 O2 xs1 w33 → (∃ (I4 : Int → Int → Int → Int → (Option Addr) → Nat → Nat → (Option Addr) → Nat → Nat → World → Prop) (m3 : Int → Int → Int → Int → (Option Addr) → Nat → Nat → (Option Addr) → Nat → Nat → World → Nat), I4 0 c1 c2 c3 c4 c4n c4c c5 c5n c5c w33 ∧ ∀ (i3 : Int) (c13 : Int) (c14 : Int) (c15 : Int) (c16 : Option Addr) (c16n : Nat) (c16c : Nat) (c17 : Option Addr) (c17n : Nat) (c17c : Nat) (w34 : World), I4 i3 c13 c14 c15 c16 c16n c16c c17 c17n c17c w34 → ((decide (i3 < (behind1n : Int))) = true → ∀ (w35 : World), Chg [] w34 w35 → (∃ a3 : Addr, behind1 = some a3 ∧ (0 : Int) ≤ i3 ∧ i3 < (behind1n : Int) ∧ (∃ (t13 : Int) (t14 : Int) (t15 : Int) (t16 : Int) (t17 : Int) (t18 : Option Addr) (t18n : Nat) (t18c : Nat), CellsAt w35 (a3.add (Int.toNat i3 * 6)) 0 [.int .i64 t13, .int .i64 t14, .int .i64 t15, .int .i64 t16, .int .u32 t17, .slice t18 t18n t18c] ∧ (Calls Tryz.prog 30 #[.pointer r5, .agg #[.int .i64 c13, .int .i64 c14, .int .i64 c15, .slice c16 c16n c16c, .slice c17 c17n c17c], .agg #[.int .i64 t13, .int .i64 t14, .int .i64 t15, .int .i64 t16, .int .u32 t17, .slice t18 t18n t18c]] w35 fun e w36 => ∃ (r29 : Int) (r30 : Int) (r31 : Int) (r32 : Option Addr) (r32n : Nat) (r32c : Nat) (r33 : Option Addr) (r33n : Nat) (r33c : Nat) (r34 : Bool), e = .returned (.tuple #[.agg #[.int .i64 r29, .int .i64 r30, .int .i64 r31, .slice r32 r32n r32c, .slice r33 r33n r33c], .bool r34]) ∧ ((CellsAt w36 (a3.add (Int.toNat i3 * 6)) 0 [.int .i64 t13, .int .i64 t14, .int .i64 t15, .int .i64 t16, .int .u32 t17, .slice t18 t18n t18c]) ∧ (Same w35 w36 [b1, b4, b7, d1] ∧ (∀ (w37 : World), Chg [b4] w36 w37 → ((I4 (IntKind.wrap .i64 (i3 + 1)) r29 r30 r31 r32 r32n r32c r33 r33n r33c w37 ∧ m3 (IntKind.wrap .i64 (i3 + 1)) r29 r30 r31 r32 r32n r32c r33 r33n r33c w37 < m3 i3 c13 c14 c15 c16 c16n c16c c17 c17n c17c w34))))))))) ∧ ((decide (i3 < (behind1n : Int))) = false → Calls Tryz.prog 23 #[.pointer r5, .pointer r18] w34 fun e w38 => ∃ (r35 : Bool), e = .returned (.bool r35) ∧ (Same w34 w38 [b1, b7, d1] ∧ (∃ J3 : Bool → World → Prop, (∀ (b8 : Bool) (w39 : World), J3 b8 w39 → ∃ J4 : Bool → World → Prop, (∀ (b9 : Bool) (w40 : World), J4 b9 w40 → ∀ w42 : World, Chg [d1] w40 w42 → (R b9 w42)) ∧ ((b8 = true → Calls Tryz.prog 25 #[] w39 fun e w41 => ∃ (r36 : Bool), e = .returned (.bool r36) ∧ (Same w39 w41 [d1] ∧ (J4 r36 w41))) ∧ (b8 = false → J4 false w39))) ∧ ((r35 = true → J3 (decide (c11 ≤ (if leave1 < 1 then 1 else leave1))) w38) ∧ (r35 = false → J3 false w38))))))) ∧ (∀ (d2 : Nat) (O3 : List Nat) (xs2 : List (Int × Int × Int)) (c11 : Int) (w43 : World), XR.InO w29 O3 w43 → d2 ∈ O3 → Sp1 xs2 → X1 c11 O3 xs2 w43 → (∃ (I5 : Int → Int → Int → Int → (Option Addr) → Nat → Nat → (Option Addr) → Nat → Nat → World → Prop) (m4 : Int → Int → Int → Int → (Option Addr) → Nat → Nat → (Option Addr) → Nat → Nat → World → Nat), I5 0 c1 c2 c3 c4 c4n c4c c5 c5n c5c w43 ∧ ∀ (i4 : Int) (c18 : Int) (c19 : Int) (c20 : Int) (c21 : Option Addr) (c21n : Nat) (c21c : Nat) (c22 : Option Addr) (c22n : Nat) (c22c : Nat) (w44 : World), I5 i4 c18 c19 c20 c21 c21n c21c c22 c22n c22c w44 → ((decide (i4 < (behind1n : Int))) = true → ∀ (w45 : World), Chg [] w44 w45 → (∃ a4 : Addr, behind1 = some a4 ∧ (0 : Int) ≤ i4 ∧ i4 < (behind1n : Int) ∧ (∃ (t19 : Int) (t20 : Int) (t21 : Int) (t22 : Int) (t23 : Int) (t24 : Option Addr) (t24n : Nat) (t24c : Nat), CellsAt w45 (a4.add (Int.toNat i4 * 6)) 0 [.int .i64 t19, .int .i64 t20, .int .i64 t21, .int .i64 t22, .int .u32 t23, .slice t24 t24n t24c] ∧ (Calls Tryz.prog 30 #[.pointer r5, .agg #[.int .i64 c18, .int .i64 c19, .int .i64 c20, .slice c21 c21n c21c, .slice c22 c22n c22c], .agg #[.int .i64 t19, .int .i64 t20, .int .i64 t21, .int .i64 t22, .int .u32 t23, .slice t24 t24n t24c]] w45 fun e w46 => ∃ (r37 : Int) (r38 : Int) (r39 : Int) (r40 : Option Addr) (r40n : Nat) (r40c : Nat) (r41 : Option Addr) (r41n : Nat) (r41c : Nat) (r42 : Bool), e = .returned (.tuple #[.agg #[.int .i64 r37, .int .i64 r38, .int .i64 r39, .slice r40 r40n r40c, .slice r41 r41n r41c], .bool r42]) ∧ ((CellsAt w46 (a4.add (Int.toNat i4 * 6)) 0 [.int .i64 t19, .int .i64 t20, .int .i64 t21, .int .i64 t22, .int .u32 t23, .slice t24 t24n t24c]) ∧ (Same w45 w46 [b1, b4, b7, d2] ∧ (∀ (w47 : World), Chg [b4] w46 w47 → ((I5 (IntKind.wrap .i64 (i4 + 1)) r37 r38 r39 r40 r40n r40c r41 r41n r41c w47 ∧ m4 (IntKind.wrap .i64 (i4 + 1)) r37 r38 r39 r40 r40n r40c r41 r41n r41c w47 < m4 i4 c18 c19 c20 c21 c21n c21c c22 c22n c22c w44))))))))) ∧ ((decide (i4 < (behind1n : Int))) = false → Calls Tryz.prog 23 #[.pointer r5, .pointer r18] w44 fun e w48 => ∃ (r43 : Bool), e = .returned (.bool r43) ∧ (Same w44 w48 [b1, b7, d2] ∧ (∃ J5 : Bool → World → Prop, (∀ (b10 : Bool) (w49 : World), J5 b10 w49 → ∃ J6 : Bool → World → Prop, (∀ (b11 : Bool) (w50 : World), J6 b11 w50 → ∀ w52 : World, Chg [d2] w50 w52 → (R b11 w52)) ∧ ((b10 = true → Calls Tryz.prog 25 #[] w49 fun e w51 => ∃ (r44 : Bool), e = .returned (.bool r44) ∧ (Same w49 w51 [d2] ∧ (J6 r44 w51))) ∧ (b10 = false → J6 false w49))) ∧ ((r43 = true → J5 (decide (c11 ≤ (if leave1 < 1 then 1 else leave1))) w48) ∧ (r43 = false → J5 false w48)))))))))))) ∧ (((!r26) = false → Calls Tryz.prog 29 #[.pointer r18, .agg #[.int .i64 c6, .int .i64 c7, .int .i64 c8, .slice c9 c9n c9c, .slice c10 c10n c10c]] w24 fun e w26 => ∃ (r27 : Bool), e = .returned (.bool r27) ∧ (Same w24 w26 [b1, b4] ∧ (J2 (!r27) w26))) ∧ ((!r26) = true → J2 true w24)))))))))))))))))))) ∧ ((r2 = false → Calls Tryz.prog 24 #[.slice behind1 behind1n behind1c] w2 fun e w4 => ∃ (r3 : Bool), e = .returned (.bool r3) ∧ (Same w2 w4 [b1] ∧ (J1 r3 w4))) ∧ (r2 = true → J1 true w2)))))
set_option maxRecDepth 100000 in
theorem go_pomanderlaw12_FlowCopies (ahead1 : Option Addr) (ahead1n : Nat) (ahead1c : Nat) (behind1 : Option Addr) (behind1n : Nat) (behind1c : Nat) (leave1 : Int) (w : World) (R : Bool → World → Prop) (h : W_pomanderlaw12_FlowCopies ahead1 ahead1n ahead1c behind1 behind1n behind1c leave1 w R) : Calls Tryz.prog 8 #[.slice ahead1 ahead1n ahead1c, .slice behind1 behind1n behind1c, .int .i64 leave1] w (fun e w' => ∃ (r1 : Bool), e = .returned (.bool r1) ∧ R r1 w') := by
 unfold W_pomanderlaw12_FlowCopies at h
 refine XR.enterM (N := 126) Tryz.func8 rfl rfl ?_
 refine CW.seq ?_
 refine CW.region fun L hL => ?_
 obtain ⟨b1, hb_b1⟩ : ∃ b1, b1 = World.size w := ⟨_, rfl⟩
 obtain ⟨w1, hw_w1⟩ : ∃ w1, w1 = World.alloc w (.cells #[.int .i64 leave1] 3) := ⟨_, rfl⟩
 refine LW.val hL rfl (Wants.free rfl) rfl (boxE hb_b1 hw_w1 (Vl.box (v := .int .i64 leave1) rfl)) ?_
 have hB := Boxes.alloc (cs := [.int .i64 leave1]) (T := 3) (Boxes.nil w) hb_b1 hw_w1
 have hlo_b1 := sil_lo (Chg.refl [] w) hb_b1
 have hc_w1 := sil_alloc (Chg.refl [] w) hw_w1
 refine LW.rd hL rfl (Wants.free rfl) rfl (Rd.assign (v := .bool false) rfl) ?_
 refine LW.nil hL rfl ?_
 refine NW.then ?_
 refine CW.seq ?_
 refine CW.seq ?_
 refine CW.region fun L hL => ?_
 refine LW.rd hL rfl (Wants.free rfl) rfl (Rd.move (v := .slice ahead1 ahead1n ahead1c) rfl) ?_
 replace h := h b1 w1 ⟨hlo_b1, lt_of_heap (hB.at (i := 0) rfl)⟩ hc_w1
 refine LW.call hL rfl (Wants.free rfl) rfl (Cl.fn (f := 24) rfl Tryz.func24 (by kernel_rfl) rfl) h (fun e w2 h_ => ?_)
 clear h
 obtain ⟨r2, rfl, h⟩ := h_
 obtain ⟨hsm1, h⟩ := h
 replace hB := Boxes.sameS hB hsm1 (by simp)
 refine ⟨_, rfl, ?_⟩
 refine LW.rd hL rfl (Wants.free rfl) rfl (Rd.move (v := .bool r2) rfl) ?_
 obtain ⟨J1, hJ1, h1_J1, h0_J1⟩ := h
 suffices K1 : ∀ (b2 : Bool) (w3 : World), Boxes w3 [(b1, [.int .i64 leave1], 3)] → J1 b2 w3 → L 6 [(0, .slice ahead1 ahead1n ahead1c), (1, .slice behind1 behind1n behind1c), (5, .pointer (some (⟨b1, 0, none⟩ : Addr))), (6, .bool false), (22, .bool b2)] w3 by
  rcases Bool.eq_false_or_eq_true r2 with hb1 | hb1
  ·have h := h0_J1 hb1
   refine LW.skip hL rfl (Skips.on rfl rfl rfl rfl rfl hb1) rfl ?_
   refine LW.skip hL rfl (Skips.on rfl rfl rfl rfl rfl hb1) rfl ?_
   refine LW.rd hL rfl (Wants.free rfl) rfl (Rd.pickT rfl hb1 rfl) ?_
   exact LW.sub hL (by exact ⟨rfl, rfl, rfl, rfl, rfl, trivial⟩) (K1 true w2 (by exact hB) h)
  ·have h := h1_J1 hb1
   refine LW.rd hL rfl (Wants.on rfl rfl rfl rfl rfl hb1) rfl (Rd.move (v := .slice behind1 behind1n behind1c) rfl) ?_
   refine LW.call hL rfl (Wants.on rfl rfl rfl rfl rfl hb1) rfl (Cl.fn (f := 24) rfl Tryz.func24 (by kernel_rfl) rfl) h (fun e w4 h_ => ?_)
   clear h
   obtain ⟨r3, rfl, h⟩ := h_
   obtain ⟨hsm2, h⟩ := h
   replace hB := Boxes.sameS hB hsm2 (by simp)
   refine ⟨_, rfl, ?_⟩
   refine LW.rd hL rfl (Wants.free rfl) rfl (Rd.pickF rfl hb1 rfl) ?_
   exact LW.sub hL (by exact ⟨rfl, rfl, rfl, rfl, rfl, trivial⟩) (K1 r3 w4 (by exact hB) h)
 intro b2 w3 hB h_
 have h := hJ1 b2 w3 h_; clear h_
 refine LW.rd hL rfl (Wants.free rfl) rfl (Rd.move (v := .bool b2) rfl) ?_
 suffices K2 : L 14 [(0, .slice ahead1 ahead1n ahead1c), (1, .slice behind1 behind1n behind1c), (5, .pointer (some (⟨b1, 0, none⟩ : Addr))), (6, .bool false), (30, .bool (b2 || decide ((IntKind.wrap .i64 ((ahead1n : Int) + (behind1n : Int))) > 30)))] w3 by
  rcases Bool.eq_false_or_eq_true b2 with hb3 | hb3
  ·skip
   refine LW.skip hL rfl (Skips.on rfl rfl rfl rfl rfl hb3) rfl ?_
   refine LW.skip hL rfl (Skips.on rfl rfl rfl rfl rfl hb3) rfl ?_
   refine LW.skip hL rfl (Skips.on rfl rfl rfl rfl rfl hb3) rfl ?_
   refine LW.skip hL rfl (Skips.on rfl rfl rfl rfl rfl hb3) rfl ?_
   refine LW.skip hL rfl (Skips.on rfl rfl rfl rfl rfl hb3) rfl ?_
   refine LW.skip hL rfl (Skips.on rfl rfl rfl rfl rfl hb3) rfl ?_
   refine LW.rd hL rfl (Wants.free rfl) rfl (Rd.pickT rfl hb3 rfl) ?_
   exact LW.sub hL (by exact ⟨rfl, rfl, rfl, rfl, (by rw [hb3]; rfl), trivial⟩) K2
  ·skip
   refine LW.rd hL rfl (Wants.on rfl rfl rfl rfl rfl hb3) rfl (Rd.move (v := .slice ahead1 ahead1n ahead1c) rfl) ?_
   refine LW.rd hL rfl (Wants.on rfl rfl rfl rfl rfl hb3) rfl (Rd.builtin (v := .int .i64 (ahead1n : Int)) rfl (fun _ _ => by kernel_rfl)) ?_
   refine LW.rd hL rfl (Wants.on rfl rfl rfl rfl rfl hb3) rfl (Rd.move (v := .slice behind1 behind1n behind1c) rfl) ?_
   refine LW.rd hL rfl (Wants.on rfl rfl rfl rfl rfl hb3) rfl (Rd.builtin (v := .int .i64 (behind1n : Int)) rfl (fun _ _ => by kernel_rfl)) ?_
   refine LW.rd hL rfl (Wants.on rfl rfl rfl rfl rfl hb3) rfl (Rd.bin (v := .int .i64 (IntKind.wrap .i64 ((ahead1n : Int) + (behind1n : Int)))) rfl rfl (fun w => by kernel_rfl)) ?_
   refine LW.rd hL rfl (Wants.on rfl rfl rfl rfl rfl hb3) rfl (Rd.bin (v := .bool (decide ((IntKind.wrap .i64 ((ahead1n : Int) + (behind1n : Int))) > 30))) rfl rfl (fun w => by kernel_rfl)) ?_
   refine LW.rd hL rfl (Wants.free rfl) rfl (Rd.pickF rfl hb3 rfl) ?_
   exact LW.sub hL (by exact ⟨rfl, rfl, rfl, rfl, (by rw [hb3]; rfl), trivial⟩) K2
 refine LW.nil hL rfl ?_
 refine NW.then ?_
 refine CW.cond rfl (fun hb4 => ?_) (fun hb4 => ?_)
 ·replace h := h.1 hb4
  refine CW.seq ?_
  refine CW.region fun L hL => ?_
  refine LW.call hL rfl (Wants.free rfl) rfl (Cl.fn (f := 25) rfl Tryz.func25 (by kernel_rfl) rfl) h (fun e w5 h_ => ?_)
  clear h
  obtain ⟨r4, rfl, h⟩ := h_
  obtain ⟨hsm3, h⟩ := h
  replace hB := Boxes.sameS hB hsm3 (by simp)
  refine ⟨_, rfl, ?_⟩
  refine LW.rd hL rfl (Wants.free rfl) rfl (Rd.assign (v := .bool r4) rfl) ?_
  refine LW.nil hL rfl ?_
  refine NW.then ?_
  refine CW.ret ?_
  refine RW.then ?_
  exact XR.res0M (vs := [.bool r4]) (by exact (ResOK.t rfl ResOK.nil)) rfl ⟨r4, rfl, h⟩
 ·replace h := h.2 hb4
  refine CW.skip ?_
  refine NW.then ?_
  refine CW.seq ?_
  refine CW.region fun L hL => ?_
  refine LW.rd hL rfl (Wants.free rfl) rfl (Rd.build (v := .agg #[.int .i64 2, .int .i64 2]) rfl (fun _ => by kernel_rfl)) ?_
  obtain ⟨b3, hb_b3⟩ : ∃ b3, b3 = World.size w3 := ⟨_, rfl⟩
  obtain ⟨w6, hw_w6⟩ : ∃ w6, w6 = World.alloc w3 (.cells #[.int .i64 0, .int .i64 0] 37) := ⟨_, rfl⟩
  refine LW.val hL rfl (Wants.free rfl) rfl (boxE hb_b3 hw_w6 (Vl.alloc (z := .agg #[.int .i64 0, .int .i64 0]) (by kernel_rfl))) ?_
  replace hB := Boxes.alloc (cs := [.int .i64 0, .int .i64 0]) (T := 37) hB hb_b3 hw_w6
  have hlo_b3 := sil_lo (Chg.refl [] w3) hb_b3
  have hc_w6 := sil_alloc (Chg.refl [] w3) hw_w6
  obtain ⟨w7, hw_w7⟩ : ∃ x, x = setCells w6 (⟨b3, 0, none⟩ : Addr) 0 [.int .i64 2, .int .i64 2] := ⟨_, rfl⟩
  refine LW.eff hL rfl (Wants.free rfl) rfl (stNE hw_w7 (Ef.stN (cs := [.int .i64 2, .int .i64 2]) rfl rfl (by kernel_rfl) (List.forall_mem_cons.2 ⟨rfl, (List.forall_mem_cons.2 ⟨rfl, (List.forall_mem_nil _)⟩)⟩) (has_of (hB.at (i := 0) rfl) (by simp)) (free_of' (hB.at (i := 0) rfl)))) ?_
  replace hB : Boxes w7 [(b3, [.int .i64 2, .int .i64 2], 37), (b1, [.int .i64 leave1], 3)] := Boxes.store (vs := [.int .i64 2, .int .i64 2]) (i := 0) (o := 0) hB rfl rfl rfl rfl hw_w7
  have hc_w7 := sil_new hc_w6 (sil_cN hw_w7) hlo_b3
  refine LW.nil hL rfl ?_
  refine NW.then ?_
  refine CW.seq ?_
  refine CW.region fun L hL => ?_
  refine LW.rd hL rfl (Wants.free rfl) rfl (Rd.ldN (cs := [.int .i64 2, .int .i64 2]) rfl (by kernel_rfl) (by kernel_rfl) (cellsS (box_cells (hB.at (i := 0) rfl) rfl))) ?_
  replace h := h b3 w7 ⟨hlo_b3, lt_of_heap (hB.at (i := 0) rfl)⟩ hc_w7
  refine LW.call hL rfl (Wants.free rfl) rfl (Cl.fn (f := 26) rfl Tryz.func26 (by kernel_rfl) rfl) h (fun e w8 h_ => ?_)
  clear h
  obtain ⟨r5, r6, rfl, h⟩ := h_
  obtain ⟨hsm4, h⟩ := h
  replace hB := Boxes.sameS hB hsm4 (by simp)
  refine ⟨_, rfl, ?_⟩
  refine LW.rd hL rfl (Wants.free rfl) rfl (Rd.move (v := .tuple #[.pointer r5, .int .i64 r6]) rfl) ?_
  refine LW.rd hL rfl (Wants.free rfl) rfl (Rd.extract (v := .pointer r5) rfl rfl) ?_
  refine LW.rd hL rfl (Wants.free rfl) rfl (Rd.extract (v := .int .i64 r6) rfl rfl) ?_
  refine LW.rd hL rfl (Wants.free rfl) rfl (Rd.assign (v := .pointer r5) rfl) ?_
  refine LW.rd hL rfl (Wants.free rfl) rfl (Rd.assign (v := .int .i64 r6) rfl) ?_
  refine LW.nil hL rfl ?_
  refine NW.then ?_
  refine CW.seq ?_
  refine CW.region fun L hL => ?_
  refine LW.rd hL rfl (Wants.free rfl) rfl (Rd.ldN (cs := [.int .i64 2, .int .i64 2]) rfl (by kernel_rfl) (by kernel_rfl) (cellsS (box_cells (hB.at (i := 0) rfl) rfl))) ?_
  refine LW.call hL rfl (Wants.free rfl) rfl (Cl.fn (f := 28) rfl Tryz.func28 (by kernel_rfl) rfl) h (fun e w9 h_ => ?_)
  clear h
  obtain ⟨r7, r8, r9, r10, r10n, r10c, r11, r11n, r11c, rfl, h⟩ := h_
  obtain ⟨hsm5, h⟩ := h
  replace hB := Boxes.sameS (hB.sel [1] (by decide) rfl) hsm5 (by simp)
  refine ⟨_, rfl, ?_⟩
  obtain ⟨b4, hb_b4⟩ : ∃ b4, b4 = World.size w9 := ⟨_, rfl⟩
  obtain ⟨w10, hw_w10⟩ : ∃ w10, w10 = World.alloc w9 (.cells #[.int .i64 0, .int .i64 0, .int .i64 0, .slice none 0 0, .slice none 0 0] 43) := ⟨_, rfl⟩
  refine LW.val hL rfl (Wants.free rfl) rfl (boxE hb_b4 hw_w10 (Vl.alloc (z := .agg #[.int .i64 0, .int .i64 0, .int .i64 0, .slice none 0 0, .slice none 0 0]) (by kernel_rfl))) ?_
  replace hB := Boxes.alloc (cs := [.int .i64 0, .int .i64 0, .int .i64 0, .slice none 0 0, .slice none 0 0]) (T := 43) hB hb_b4 hw_w10
  have hlo_b4 := sil_lo (Chg.refl [] w9) hb_b4
  have hc_w10 := sil_alloc (Chg.refl [] w9) hw_w10
  obtain ⟨w11, hw_w11⟩ : ∃ x, x = setCells w10 (⟨b4, 0, none⟩ : Addr) 0 [.int .i64 r7, .int .i64 r8, .int .i64 r9, .slice r10 r10n r10c, .slice r11 r11n r11c] := ⟨_, rfl⟩
  refine LW.eff hL rfl (Wants.free rfl) rfl (stNE hw_w11 (Ef.stN (cs := [.int .i64 r7, .int .i64 r8, .int .i64 r9, .slice r10 r10n r10c, .slice r11 r11n r11c]) rfl rfl (by kernel_rfl) (List.forall_mem_cons.2 ⟨rfl, (List.forall_mem_cons.2 ⟨rfl, (List.forall_mem_cons.2 ⟨rfl, (List.forall_mem_cons.2 ⟨rfl, (List.forall_mem_cons.2 ⟨rfl, (List.forall_mem_nil _)⟩)⟩)⟩)⟩)⟩) (has_of (hB.at (i := 0) rfl) (by simp)) (free_of' (hB.at (i := 0) rfl)))) ?_
  replace hB : Boxes w11 [(b4, [.int .i64 r7, .int .i64 r8, .int .i64 r9, .slice r10 r10n r10c, .slice r11 r11n r11c], 43), (b1, [.int .i64 leave1], 3)] := Boxes.store (vs := [.int .i64 r7, .int .i64 r8, .int .i64 r9, .slice r10 r10n r10c, .slice r11 r11n r11c]) (i := 0) (o := 0) hB rfl rfl rfl rfl hw_w11
  have hc_w11 := sil_new hc_w10 (sil_cN hw_w11) hlo_b4
  refine LW.nil hL rfl ?_
  refine NW.then ?_
  refine CW.seq ?_
  refine CW.seq ?_
  refine CW.region fun L hL => ?_
  refine LW.rd hL rfl (Wants.free rfl) rfl (Rd.assign (v := .int .i64 0) rfl) ?_
  refine LW.nil hL rfl ?_
  refine NW.then ?_
  refine CW.block ?_
  replace h := h b4 w11 ⟨hlo_b4, lt_of_heap (hB.at (i := 0) rfl)⟩ hc_w11
  obtain ⟨I1, m1, hI1, h⟩ := h
  refine CW.loop (S := Int × Int × Int × Int × (Option Addr) × Nat × Nat × (Option Addr) × Nat × Nat) (fun s1 => [(0, .slice ahead1 ahead1n ahead1c), (1, .slice behind1 behind1n behind1c), (5, .pointer (some (⟨b1, 0, none⟩ : Addr))), (6, .bool false), (8, .pointer r5), (10, .pointer (some (⟨b4, 0, none⟩ : Addr))), (11, .int .i64 s1.1)]) (fun s1 w12 => I1 s1.1 s1.2.1 s1.2.2.1 s1.2.2.2.1 s1.2.2.2.2.1 s1.2.2.2.2.2.1 s1.2.2.2.2.2.2.1 s1.2.2.2.2.2.2.2.1 s1.2.2.2.2.2.2.2.2.1 s1.2.2.2.2.2.2.2.2.2 w12 ∧ Boxes w12 [(b1, [.int .i64 leave1], 3), (b4, [.int .i64 s1.2.1, .int .i64 s1.2.2.1, .int .i64 s1.2.2.2.1, .slice s1.2.2.2.2.1 s1.2.2.2.2.2.1 s1.2.2.2.2.2.2.1, .slice s1.2.2.2.2.2.2.2.1 s1.2.2.2.2.2.2.2.2.1 s1.2.2.2.2.2.2.2.2.2], 43)]) (fun s1 w12 => m1 s1.1 s1.2.1 s1.2.2.1 s1.2.2.2.1 s1.2.2.2.2.1 s1.2.2.2.2.2.1 s1.2.2.2.2.2.2.1 s1.2.2.2.2.2.2.2.1 s1.2.2.2.2.2.2.2.2.1 s1.2.2.2.2.2.2.2.2.2 w12) (0, r7, r8, r9, r10, r10n, r10c, r11, r11n, r11c) (by exact ⟨rfl, rfl, rfl, rfl, rfl, rfl, rfl, trivial⟩) ⟨hI1, (hB.sel [1, 0] (by decide) rfl)⟩ (fun s1 w12 hI1 => ?_)
  obtain ⟨hI1, hB⟩ := hI1
  obtain ⟨i1, c1, c2, c3, c4, c4n, c4c, c5, c5n, c5c⟩ := s1; replace h := h i1 c1 c2 c3 c4 c4n c4c c5 c5n c5c w12 hI1
  refine CW.seq ?_
  refine CW.seq ?_
  refine CW.region fun L hL => ?_
  refine LW.rd hL rfl (Wants.free rfl) rfl (Rd.move (v := .int .i64 i1) rfl) ?_
  refine LW.rd hL rfl (Wants.free rfl) rfl (Rd.move (v := .slice ahead1 ahead1n ahead1c) rfl) ?_
  refine LW.rd hL rfl (Wants.free rfl) rfl (Rd.builtin (v := .int .i64 (ahead1n : Int)) rfl (fun _ _ => by kernel_rfl)) ?_
  refine LW.rd hL rfl (Wants.free rfl) rfl (Rd.bin (v := .bool (decide (i1 < (ahead1n : Int)))) rfl rfl (fun w => by kernel_rfl)) ?_
  refine LW.nil hL rfl ?_
  refine NW.then ?_
  refine CW.cond rfl (fun hb5 => ?_) (fun hb5 => ?_)
  ·replace h := h.1 hb5
   refine CW.skip ?_
   refine NW.then ?_
   refine CW.seq ?_
   refine CW.block ?_
   obtain ⟨w13, hw_w13⟩ : ∃ x, x = World.drew w12 := ⟨_, rfl⟩
   have hc_w13 := sil_drew (Chg.refl [] w12) hw_w13
   replace hB := hB.drew hw_w13
   replace h := h  w13  hc_w13
   obtain ⟨a1, he1, hi1, hi2, h⟩ := h
   obtain ⟨t1, t2, t3, t4, t5, t6, t6n, t6c, hc1, h⟩ := h
   refine CW.drawn (fun w => CellsAt w (a1.add (Int.toNat i1 * 6)) 0 [.int .i64 t1, .int .i64 t2, .int .i64 t3, .int .i64 t4, .int .u32 t5, .slice t6 t6n t6c] ∧ Boxes w [(b4, [.int .i64 c1, .int .i64 c2, .int .i64 c3, .slice c4 c4n c4c, .slice c5 c5n c5c], 43)]) 10 (by kernel_rfl) fun H hH => ?_
   rw [← hw_w13]
   have hS1 : CellsAt w13 (a1.add (Int.toNat i1 * 6)) 0 [.int .i64 t1, .int .i64 t2, .int .i64 t3, .int .i64 t4, .int .u32 t5, .slice t6 t6n t6c] ∧ Boxes w13 [(b4, [.int .i64 c1, .int .i64 c2, .int .i64 c3, .slice c4 c4n c4c, .slice c5 c5n c5c], 43)] := ⟨hc1, (hB.sel [1] (by decide) rfl)⟩
   refine HW.pure (i := 0) hH rfl (by kernel_rfl) (Wants.free rfl) rfl (fun _ => hS1) (Rd.move (v := .pointer r5) rfl) ?_
   refine HW.take (i := 1) hH rfl (by kernel_rfl) (by kernel_rfl) (Wants.free rfl) rfl (fun _ => hS1) (Rd.ldN (cs := [.int .i64 c1, .int .i64 c2, .int .i64 c3, .slice c4 c4n c4c, .slice c5 c5n c5c]) rfl (by kernel_rfl) (by kernel_rfl) (fun w h => cellsAt_get (box_cells (Boxes.at (i := 0) h.2 rfl) rfl))) ?_
   refine HW.pure (i := 2) hH rfl (by kernel_rfl) (Wants.free rfl) rfl (fun _ => hS1) (Rd.move (v := .slice ahead1 ahead1n ahead1c) rfl) ?_
   refine HW.pure (i := 3) hH rfl (by kernel_rfl) (Wants.free rfl) rfl (fun _ => hS1) (Rd.move (v := .int .i64 i1) rfl) ?_
   refine HW.pure (i := 4) hH rfl (by kernel_rfl) (Wants.free rfl) rfl (fun _ => hS1) (Rd.iaS (q := a1) (sz := 6) (by rw [← he1]; rfl) rfl Tryz.underlying69 (by kernel_rfl) hi1 hi2) ?_
   refine HW.take (i := 5) hH rfl (by kernel_rfl) (by kernel_rfl) (Wants.free rfl) rfl (fun _ => hS1) (Rd.ldN (cs := [.int .i64 t1, .int .i64 t2, .int .i64 t3, .int .i64 t4, .int .u32 t5, .slice t6 t6n t6c]) rfl (by kernel_rfl) (by kernel_rfl) (fun w h => cellsAt_get h.1)) ?_
   refine HW.call (i := 6) hH (by kernel_rfl) rfl (Wants.free rfl) rfl (Cl.fn (f := 30) rfl Tryz.func30 (by kernel_rfl) rfl) h (fun e w14 h_ => ?_)
   clear h
   obtain ⟨r12, r13, r14, r15, r15n, r15c, r16, r16n, r16c, r17, rfl, hS2, h⟩ := h_
   obtain ⟨hsm6, h⟩ := h
   replace hB := Boxes.sameS hB hsm6 (by simp)
   have hS3 := (⟨hS2, (hB.sel [1] (by decide) rfl)⟩ : CellsAt w14 (a1.add (Int.toNat i1 * 6)) 0 [.int .i64 t1, .int .i64 t2, .int .i64 t3, .int .i64 t4, .int .u32 t5, .slice t6 t6n t6c] ∧ Boxes w14 [(b4, [.int .i64 c1, .int .i64 c2, .int .i64 c3, .slice c4 c4n c4c, .slice c5 c5n c5c], 43)])
   refine ⟨_, rfl, (fun _ => hS3), ?_⟩
   refine HW.pure (i := 7) hH rfl (by kernel_rfl) (Wants.free rfl) rfl (fun _ => hS3) (Rd.move (v := .tuple #[.agg #[.int .i64 r12, .int .i64 r13, .int .i64 r14, .slice r15 r15n r15c, .slice r16 r16n r16c], .bool r17]) rfl) ?_
   refine HW.pure (i := 8) hH rfl (by kernel_rfl) (Wants.free rfl) rfl (fun _ => hS3) (Rd.extract (v := .agg #[.int .i64 r12, .int .i64 r13, .int .i64 r14, .slice r15 r15n r15c, .slice r16 r16n r16c]) rfl rfl) ?_
   refine HW.pure (i := 9) hH rfl (by kernel_rfl) (Wants.free rfl) rfl (fun _ => hS3) (Rd.extract (v := .bool r17) rfl rfl) ?_
   obtain ⟨w15, hw_w15⟩ : ∃ x, x = setCells w14 (⟨b4, 0, none⟩ : Addr) 0 [.int .i64 r12, .int .i64 r13, .int .i64 r14, .slice r15 r15n r15c, .slice r16 r16n r16c] := ⟨_, rfl⟩
   refine HW.eff (i := 10) hH (by kernel_rfl) rfl (Wants.free rfl) rfl (stNE hw_w15 (Ef.stN (cs := [.int .i64 r12, .int .i64 r13, .int .i64 r14, .slice r15 r15n r15c, .slice r16 r16n r16c]) rfl rfl (by kernel_rfl) (List.forall_mem_cons.2 ⟨rfl, (List.forall_mem_cons.2 ⟨rfl, (List.forall_mem_cons.2 ⟨rfl, (List.forall_mem_cons.2 ⟨rfl, (List.forall_mem_cons.2 ⟨rfl, (List.forall_mem_nil _)⟩)⟩)⟩)⟩)⟩) (has_of (hB.at (i := 1) rfl) (by simp)) (free_of' (hB.at (i := 1) rfl)))) (fun hc => by cases hc) ?_
   replace hB : Boxes w15 [(b1, [.int .i64 leave1], 3), (b4, [.int .i64 r12, .int .i64 r13, .int .i64 r14, .slice r15 r15n r15c, .slice r16 r16n r16c], 43)] := Boxes.store (vs := [.int .i64 r12, .int .i64 r13, .int .i64 r14, .slice r15 r15n r15c, .slice r16 r16n r16c]) (i := 1) (o := 0) hB rfl rfl rfl rfl hw_w15
   have hc_w15 : Chg [b4] w14 w15 := sil_more (Chg.refl [] w14) (sil_cN hw_w15)
   refine HW.done hH (by kernel_rfl) ?_
   refine NW.block ?_
   refine NW.then ?_
   refine CW.region fun L hL => ?_
   refine LW.rd hL rfl (Wants.free rfl) rfl (Rd.move (v := .int .i64 i1) rfl) ?_
   refine LW.rd hL rfl (Wants.free rfl) rfl (Rd.bin (v := .int .i64 (IntKind.wrap .i64 (i1 + 1))) rfl rfl (fun w => by kernel_rfl)) ?_
   refine LW.rd hL rfl (Wants.free rfl) rfl (Rd.assign (v := .int .i64 (IntKind.wrap .i64 (i1 + 1))) rfl) ?_
   refine LW.nil hL rfl ?_
   replace h := h  w15  hc_w15
   exact NW.loop (S := Int × Int × Int × Int × (Option Addr) × Nat × Nat × (Option Addr) × Nat × Nat) (Ek := fun s1 => [(0, .slice ahead1 ahead1n ahead1c), (1, .slice behind1 behind1n behind1c), (5, .pointer (some (⟨b1, 0, none⟩ : Addr))), (6, .bool false), (8, .pointer r5), (10, .pointer (some (⟨b4, 0, none⟩ : Addr))), (11, .int .i64 s1.1)]) (IntKind.wrap .i64 (i1 + 1), r12, r13, r14, r15, r15n, r15c, r16, r16n, r16c) (by exact ⟨rfl, rfl, rfl, rfl, rfl, rfl, rfl, trivial⟩) ⟨⟨h.1, hB⟩, h.2⟩
  ·replace h := h.2 hb5
   refine CW.exit ?_
   refine XW.then ?_
   refine XW.then ?_
   refine XW.hit ?_
   refine NW.then ?_
   refine CW.seq ?_
   refine CW.region fun L hL => ?_
   refine LW.rd hL rfl (Wants.free rfl) rfl (Rd.move (v := .pointer r5) rfl) ?_
   refine LW.call hL rfl (Wants.free rfl) rfl (Cl.fn (f := 15) rfl Tryz.func15 (by kernel_rfl) rfl) h (fun e w16 h_ => ?_)
   clear h
   obtain ⟨r18, rfl, h⟩ := h_
   obtain ⟨hsm7, h⟩ := h
   replace hB := Boxes.sameS hB hsm7 (by simp)
   refine ⟨_, rfl, ?_⟩
   refine LW.rd hL rfl (Wants.free rfl) rfl (Rd.assign (v := .pointer r18) rfl) ?_
   refine LW.nil hL rfl ?_
   refine NW.then ?_
   refine CW.seq ?_
   refine CW.seq ?_
   refine CW.region fun L hL => ?_
   refine LW.rd hL rfl (Wants.free rfl) rfl (Rd.move (v := .pointer r5) rfl) ?_
   refine LW.rd hL rfl (Wants.free rfl) rfl (Rd.move (v := .pointer r18) rfl) ?_
   refine LW.call hL rfl (Wants.free rfl) rfl (Cl.fn (f := 23) rfl Tryz.func23 (by kernel_rfl) rfl) h (fun e w17 h_ => ?_)
   clear h
   obtain ⟨r19, rfl, h⟩ := h_
   obtain ⟨hsm8, h⟩ := h
   replace hB := Boxes.sameS hB hsm8 (by simp)
   refine ⟨_, rfl, ?_⟩
   refine LW.rd hL rfl (Wants.free rfl) rfl (Rd.un (v := .bool (!r19)) rfl (fun _ => by kernel_rfl)) ?_
   refine LW.nil hL rfl ?_
   refine NW.then ?_
   refine CW.cond rfl (fun hb6 => ?_) (fun hb6 => ?_)
   ·replace h := h.1 hb6
    refine CW.seq ?_
    refine CW.region fun L hL => ?_
    refine LW.rd hL rfl (Wants.free rfl) rfl (Rd.assign (v := .bool false) rfl) ?_
    refine LW.nil hL rfl ?_
    refine NW.then ?_
    refine CW.ret ?_
    refine RW.then ?_
    exact XR.res0M (vs := [.bool false]) (by exact (ResOK.t rfl ResOK.nil)) rfl ⟨false, rfl, h⟩
   ·replace h := h.2 hb6
    refine CW.skip ?_
    refine NW.then ?_
    refine CW.seq ?_
    refine CW.region fun L hL => ?_
    refine LW.rd hL rfl (Wants.free rfl) rfl (Rd.ldN (cs := [.int .i64 c1, .int .i64 c2, .int .i64 c3, .slice c4 c4n c4c, .slice c5 c5n c5c]) rfl (by kernel_rfl) (by kernel_rfl) (cellsS (box_cells (hB.at (i := 1) rfl) rfl))) ?_
    obtain ⟨b5, hb_b5⟩ : ∃ b5, b5 = World.size w17 := ⟨_, rfl⟩
    obtain ⟨w18, hw_w18⟩ : ∃ w18, w18 = World.alloc w17 (.cells #[.int .i64 0, .int .i64 0, .int .i64 0, .slice none 0 0, .slice none 0 0] 43) := ⟨_, rfl⟩
    refine LW.val hL rfl (Wants.free rfl) rfl (boxE hb_b5 hw_w18 (Vl.alloc (z := .agg #[.int .i64 0, .int .i64 0, .int .i64 0, .slice none 0 0, .slice none 0 0]) (by kernel_rfl))) ?_
    replace hB := Boxes.alloc (cs := [.int .i64 0, .int .i64 0, .int .i64 0, .slice none 0 0, .slice none 0 0]) (T := 43) hB hb_b5 hw_w18
    have hlo_b5 := sil_lo (Chg.refl [] w17) hb_b5
    have hc_w18 := sil_alloc (Chg.refl [] w17) hw_w18
    obtain ⟨w19, hw_w19⟩ : ∃ x, x = setCells w18 (⟨b5, 0, none⟩ : Addr) 0 [.int .i64 c1, .int .i64 c2, .int .i64 c3, .slice c4 c4n c4c, .slice c5 c5n c5c] := ⟨_, rfl⟩
    refine LW.eff hL rfl (Wants.free rfl) rfl (stNE hw_w19 (Ef.stN (cs := [.int .i64 c1, .int .i64 c2, .int .i64 c3, .slice c4 c4n c4c, .slice c5 c5n c5c]) rfl rfl (by kernel_rfl) (List.forall_mem_cons.2 ⟨rfl, (List.forall_mem_cons.2 ⟨rfl, (List.forall_mem_cons.2 ⟨rfl, (List.forall_mem_cons.2 ⟨rfl, (List.forall_mem_cons.2 ⟨rfl, (List.forall_mem_nil _)⟩)⟩)⟩)⟩)⟩) (has_of (hB.at (i := 0) rfl) (by simp)) (free_of' (hB.at (i := 0) rfl)))) ?_
    replace hB : Boxes w19 [(b5, [.int .i64 c1, .int .i64 c2, .int .i64 c3, .slice c4 c4n c4c, .slice c5 c5n c5c], 43), (b1, [.int .i64 leave1], 3), (b4, [.int .i64 c1, .int .i64 c2, .int .i64 c3, .slice c4 c4n c4c, .slice c5 c5n c5c], 43)] := Boxes.store (vs := [.int .i64 c1, .int .i64 c2, .int .i64 c3, .slice c4 c4n c4c, .slice c5 c5n c5c]) (i := 0) (o := 0) hB rfl rfl rfl rfl hw_w19
    have hc_w19 := sil_new hc_w18 (sil_cN hw_w19) hlo_b5
    refine LW.nil hL rfl ?_
    refine NW.then ?_
    refine CW.seq ?_
    refine CW.seq ?_
    refine CW.region fun L hL => ?_
    refine LW.rd hL rfl (Wants.free rfl) rfl (Rd.assign (v := .int .i64 0) rfl) ?_
    refine LW.nil hL rfl ?_
    refine NW.then ?_
    refine CW.block ?_
    replace h := h b5 w19 ⟨hlo_b5, lt_of_heap (hB.at (i := 0) rfl)⟩ hc_w19
    obtain ⟨I2, m2, hI2, h⟩ := h
    refine CW.loop (S := Int × Int × Int × Int × (Option Addr) × Nat × Nat × (Option Addr) × Nat × Nat) (fun s2 => [(1, .slice behind1 behind1n behind1c), (5, .pointer (some (⟨b1, 0, none⟩ : Addr))), (6, .bool false), (8, .pointer r5), (10, .pointer (some (⟨b4, 0, none⟩ : Addr))), (12, .pointer r18), (13, .pointer (some (⟨b5, 0, none⟩ : Addr))), (14, .int .i64 s2.1)]) (fun s2 w20 => I2 s2.1 s2.2.1 s2.2.2.1 s2.2.2.2.1 s2.2.2.2.2.1 s2.2.2.2.2.2.1 s2.2.2.2.2.2.2.1 s2.2.2.2.2.2.2.2.1 s2.2.2.2.2.2.2.2.2.1 s2.2.2.2.2.2.2.2.2.2 w20 ∧ Boxes w20 [(b1, [.int .i64 leave1], 3), (b4, [.int .i64 c1, .int .i64 c2, .int .i64 c3, .slice c4 c4n c4c, .slice c5 c5n c5c], 43), (b5, [.int .i64 s2.2.1, .int .i64 s2.2.2.1, .int .i64 s2.2.2.2.1, .slice s2.2.2.2.2.1 s2.2.2.2.2.2.1 s2.2.2.2.2.2.2.1, .slice s2.2.2.2.2.2.2.2.1 s2.2.2.2.2.2.2.2.2.1 s2.2.2.2.2.2.2.2.2.2], 43)]) (fun s2 w20 => m2 s2.1 s2.2.1 s2.2.2.1 s2.2.2.2.1 s2.2.2.2.2.1 s2.2.2.2.2.2.1 s2.2.2.2.2.2.2.1 s2.2.2.2.2.2.2.2.1 s2.2.2.2.2.2.2.2.2.1 s2.2.2.2.2.2.2.2.2.2 w20) (0, c1, c2, c3, c4, c4n, c4c, c5, c5n, c5c) (by exact ⟨rfl, rfl, rfl, rfl, rfl, rfl, rfl, rfl, trivial⟩) ⟨hI2, (hB.sel [1, 2, 0] (by decide) rfl)⟩ (fun s2 w20 hI2 => ?_)
    obtain ⟨hI2, hB⟩ := hI2
    obtain ⟨i2, c6, c7, c8, c9, c9n, c9c, c10, c10n, c10c⟩ := s2; replace h := h i2 c6 c7 c8 c9 c9n c9c c10 c10n c10c w20 hI2
    refine CW.seq ?_
    refine CW.seq ?_
    refine CW.region fun L hL => ?_
    refine LW.rd hL rfl (Wants.free rfl) rfl (Rd.move (v := .int .i64 i2) rfl) ?_
    refine LW.rd hL rfl (Wants.free rfl) rfl (Rd.move (v := .slice behind1 behind1n behind1c) rfl) ?_
    refine LW.rd hL rfl (Wants.free rfl) rfl (Rd.builtin (v := .int .i64 (behind1n : Int)) rfl (fun _ _ => by kernel_rfl)) ?_
    refine LW.rd hL rfl (Wants.free rfl) rfl (Rd.bin (v := .bool (decide (i2 < (behind1n : Int)))) rfl rfl (fun w => by kernel_rfl)) ?_
    refine LW.nil hL rfl ?_
    refine NW.then ?_
    refine CW.cond rfl (fun hb7 => ?_) (fun hb7 => ?_)
    ·replace h := h.1 hb7
     refine CW.skip ?_
     refine NW.then ?_
     refine CW.seq ?_
     refine CW.block ?_
     obtain ⟨w21, hw_w21⟩ : ∃ x, x = World.drew w20 := ⟨_, rfl⟩
     have hc_w21 := sil_drew (Chg.refl [] w20) hw_w21
     replace hB := hB.drew hw_w21
     replace h := h  w21  hc_w21
     obtain ⟨a2, he2, hi3, hi4, h⟩ := h
     obtain ⟨t7, t8, t9, t10, t11, t12, t12n, t12c, hc2, h⟩ := h
     refine CW.drawn (fun w => CellsAt w (a2.add (Int.toNat i2 * 6)) 0 [.int .i64 t7, .int .i64 t8, .int .i64 t9, .int .i64 t10, .int .u32 t11, .slice t12 t12n t12c] ∧ Boxes w [(b5, [.int .i64 c6, .int .i64 c7, .int .i64 c8, .slice c9 c9n c9c, .slice c10 c10n c10c], 43)]) 10 (by kernel_rfl) fun H hH => ?_
     rw [← hw_w21]
     have hS4 : CellsAt w21 (a2.add (Int.toNat i2 * 6)) 0 [.int .i64 t7, .int .i64 t8, .int .i64 t9, .int .i64 t10, .int .u32 t11, .slice t12 t12n t12c] ∧ Boxes w21 [(b5, [.int .i64 c6, .int .i64 c7, .int .i64 c8, .slice c9 c9n c9c, .slice c10 c10n c10c], 43)] := ⟨hc2, (hB.sel [2] (by decide) rfl)⟩
     refine HW.pure (i := 0) hH rfl (by kernel_rfl) (Wants.free rfl) rfl (fun _ => hS4) (Rd.move (v := .pointer r18) rfl) ?_
     refine HW.take (i := 1) hH rfl (by kernel_rfl) (by kernel_rfl) (Wants.free rfl) rfl (fun _ => hS4) (Rd.ldN (cs := [.int .i64 c6, .int .i64 c7, .int .i64 c8, .slice c9 c9n c9c, .slice c10 c10n c10c]) rfl (by kernel_rfl) (by kernel_rfl) (fun w h => cellsAt_get (box_cells (Boxes.at (i := 0) h.2 rfl) rfl))) ?_
     refine HW.pure (i := 2) hH rfl (by kernel_rfl) (Wants.free rfl) rfl (fun _ => hS4) (Rd.move (v := .slice behind1 behind1n behind1c) rfl) ?_
     refine HW.pure (i := 3) hH rfl (by kernel_rfl) (Wants.free rfl) rfl (fun _ => hS4) (Rd.move (v := .int .i64 i2) rfl) ?_
     refine HW.pure (i := 4) hH rfl (by kernel_rfl) (Wants.free rfl) rfl (fun _ => hS4) (Rd.iaS (q := a2) (sz := 6) (by rw [← he2]; rfl) rfl Tryz.underlying69 (by kernel_rfl) hi3 hi4) ?_
     refine HW.take (i := 5) hH rfl (by kernel_rfl) (by kernel_rfl) (Wants.free rfl) rfl (fun _ => hS4) (Rd.ldN (cs := [.int .i64 t7, .int .i64 t8, .int .i64 t9, .int .i64 t10, .int .u32 t11, .slice t12 t12n t12c]) rfl (by kernel_rfl) (by kernel_rfl) (fun w h => cellsAt_get h.1)) ?_
     refine HW.call (i := 6) hH (by kernel_rfl) rfl (Wants.free rfl) rfl (Cl.fn (f := 30) rfl Tryz.func30 (by kernel_rfl) rfl) h (fun e w22 h_ => ?_)
     clear h
     obtain ⟨r20, r21, r22, r23, r23n, r23c, r24, r24n, r24c, r25, rfl, hS5, h⟩ := h_
     obtain ⟨hsm9, h⟩ := h
     replace hB := Boxes.sameS hB hsm9 (by simp)
     have hS6 := (⟨hS5, (hB.sel [2] (by decide) rfl)⟩ : CellsAt w22 (a2.add (Int.toNat i2 * 6)) 0 [.int .i64 t7, .int .i64 t8, .int .i64 t9, .int .i64 t10, .int .u32 t11, .slice t12 t12n t12c] ∧ Boxes w22 [(b5, [.int .i64 c6, .int .i64 c7, .int .i64 c8, .slice c9 c9n c9c, .slice c10 c10n c10c], 43)])
     refine ⟨_, rfl, (fun _ => hS6), ?_⟩
     refine HW.pure (i := 7) hH rfl (by kernel_rfl) (Wants.free rfl) rfl (fun _ => hS6) (Rd.move (v := .tuple #[.agg #[.int .i64 r20, .int .i64 r21, .int .i64 r22, .slice r23 r23n r23c, .slice r24 r24n r24c], .bool r25]) rfl) ?_
     refine HW.pure (i := 8) hH rfl (by kernel_rfl) (Wants.free rfl) rfl (fun _ => hS6) (Rd.extract (v := .agg #[.int .i64 r20, .int .i64 r21, .int .i64 r22, .slice r23 r23n r23c, .slice r24 r24n r24c]) rfl rfl) ?_
     refine HW.pure (i := 9) hH rfl (by kernel_rfl) (Wants.free rfl) rfl (fun _ => hS6) (Rd.extract (v := .bool r25) rfl rfl) ?_
     obtain ⟨w23, hw_w23⟩ : ∃ x, x = setCells w22 (⟨b5, 0, none⟩ : Addr) 0 [.int .i64 r20, .int .i64 r21, .int .i64 r22, .slice r23 r23n r23c, .slice r24 r24n r24c] := ⟨_, rfl⟩
     refine HW.eff (i := 10) hH (by kernel_rfl) rfl (Wants.free rfl) rfl (stNE hw_w23 (Ef.stN (cs := [.int .i64 r20, .int .i64 r21, .int .i64 r22, .slice r23 r23n r23c, .slice r24 r24n r24c]) rfl rfl (by kernel_rfl) (List.forall_mem_cons.2 ⟨rfl, (List.forall_mem_cons.2 ⟨rfl, (List.forall_mem_cons.2 ⟨rfl, (List.forall_mem_cons.2 ⟨rfl, (List.forall_mem_cons.2 ⟨rfl, (List.forall_mem_nil _)⟩)⟩)⟩)⟩)⟩) (has_of (hB.at (i := 2) rfl) (by simp)) (free_of' (hB.at (i := 2) rfl)))) (fun hc => by cases hc) ?_
     replace hB : Boxes w23 [(b1, [.int .i64 leave1], 3), (b4, [.int .i64 c1, .int .i64 c2, .int .i64 c3, .slice c4 c4n c4c, .slice c5 c5n c5c], 43), (b5, [.int .i64 r20, .int .i64 r21, .int .i64 r22, .slice r23 r23n r23c, .slice r24 r24n r24c], 43)] := Boxes.store (vs := [.int .i64 r20, .int .i64 r21, .int .i64 r22, .slice r23 r23n r23c, .slice r24 r24n r24c]) (i := 2) (o := 0) hB rfl rfl rfl rfl hw_w23
     have hc_w23 : Chg [b5] w22 w23 := sil_more (Chg.refl [] w22) (sil_cN hw_w23)
     refine HW.done hH (by kernel_rfl) ?_
     refine NW.block ?_
     refine NW.then ?_
     refine CW.region fun L hL => ?_
     refine LW.rd hL rfl (Wants.free rfl) rfl (Rd.move (v := .int .i64 i2) rfl) ?_
     refine LW.rd hL rfl (Wants.free rfl) rfl (Rd.bin (v := .int .i64 (IntKind.wrap .i64 (i2 + 1))) rfl rfl (fun w => by kernel_rfl)) ?_
     refine LW.rd hL rfl (Wants.free rfl) rfl (Rd.assign (v := .int .i64 (IntKind.wrap .i64 (i2 + 1))) rfl) ?_
     refine LW.nil hL rfl ?_
     replace h := h  w23  hc_w23
     exact NW.loop (S := Int × Int × Int × Int × (Option Addr) × Nat × Nat × (Option Addr) × Nat × Nat) (Ek := fun s2 => [(1, .slice behind1 behind1n behind1c), (5, .pointer (some (⟨b1, 0, none⟩ : Addr))), (6, .bool false), (8, .pointer r5), (10, .pointer (some (⟨b4, 0, none⟩ : Addr))), (12, .pointer r18), (13, .pointer (some (⟨b5, 0, none⟩ : Addr))), (14, .int .i64 s2.1)]) (IntKind.wrap .i64 (i2 + 1), r20, r21, r22, r23, r23n, r23c, r24, r24n, r24c) (by exact ⟨rfl, rfl, rfl, rfl, rfl, rfl, rfl, rfl, trivial⟩) ⟨⟨h.1, hB⟩, h.2⟩
    ·replace h := h.2 hb7
     refine CW.exit ?_
     refine XW.then ?_
     refine XW.then ?_
     refine XW.hit ?_
     refine NW.then ?_
     refine CW.seq ?_
     refine CW.seq ?_
     refine CW.region fun L hL => ?_
     refine LW.rd hL rfl (Wants.free rfl) rfl (Rd.move (v := .pointer r5) rfl) ?_
     refine LW.rd hL rfl (Wants.free rfl) rfl (Rd.ldN (cs := [.int .i64 c1, .int .i64 c2, .int .i64 c3, .slice c4 c4n c4c, .slice c5 c5n c5c]) rfl (by kernel_rfl) (by kernel_rfl) (cellsS (box_cells (hB.at (i := 1) rfl) rfl))) ?_
     refine LW.call hL rfl (Wants.free rfl) rfl (Cl.fn (f := 29) rfl Tryz.func29 (by kernel_rfl) rfl) h (fun e w24 h_ => ?_)
     clear h
     obtain ⟨r26, rfl, h⟩ := h_
     obtain ⟨hsm10, h⟩ := h
     replace hB := Boxes.sameS hB hsm10 (by simp)
     refine ⟨_, rfl, ?_⟩
     refine LW.rd hL rfl (Wants.free rfl) rfl (Rd.un (v := .bool (!r26)) rfl (fun _ => by kernel_rfl)) ?_
     refine LW.rd hL rfl (Wants.free rfl) rfl (Rd.move (v := .bool (!r26)) rfl) ?_
     obtain ⟨J2, hJ2, h1_J2, h0_J2⟩ := h
     suffices K3 : ∀ (b6 : Bool) (w25 : World), Boxes w25 [(b1, [.int .i64 leave1], 3), (b4, [.int .i64 c1, .int .i64 c2, .int .i64 c3, .slice c4 c4n c4c, .slice c5 c5n c5c], 43)] → J2 b6 w25 → L 10 [(1, .slice behind1 behind1n behind1c), (5, .pointer (some (⟨b1, 0, none⟩ : Addr))), (6, .bool false), (8, .pointer r5), (10, .pointer (some (⟨b4, 0, none⟩ : Addr))), (12, .pointer r18), (88, .bool b6)] w25 by
      rcases Bool.eq_false_or_eq_true (!r26) with hb8 | hb8
      ·have h := h0_J2 hb8
       refine LW.skip hL rfl (Skips.on rfl rfl rfl rfl rfl hb8) rfl ?_
       refine LW.skip hL rfl (Skips.on rfl rfl rfl rfl rfl hb8) rfl ?_
       refine LW.skip hL rfl (Skips.on rfl rfl rfl rfl rfl hb8) rfl ?_
       refine LW.skip hL rfl (Skips.on rfl rfl rfl rfl rfl hb8) rfl ?_
       refine LW.rd hL rfl (Wants.free rfl) rfl (Rd.pickT rfl hb8 rfl) ?_
       exact LW.sub hL (by exact ⟨rfl, rfl, rfl, rfl, rfl, rfl, rfl, trivial⟩) (K3 true w24 (by exact (hB.sel [0, 1] (by decide) rfl)) h)
      ·have h := h1_J2 hb8
       refine LW.rd hL rfl (Wants.on rfl rfl rfl rfl rfl hb8) rfl (Rd.move (v := .pointer r18) rfl) ?_
       refine LW.rd hL rfl (Wants.on rfl rfl rfl rfl rfl hb8) rfl (Rd.ldN (cs := [.int .i64 c6, .int .i64 c7, .int .i64 c8, .slice c9 c9n c9c, .slice c10 c10n c10c]) rfl (by kernel_rfl) (by kernel_rfl) (cellsS (box_cells (hB.at (i := 2) rfl) rfl))) ?_
       refine LW.call hL rfl (Wants.on rfl rfl rfl rfl rfl hb8) rfl (Cl.fn (f := 29) rfl Tryz.func29 (by kernel_rfl) rfl) h (fun e w26 h_ => ?_)
       clear h
       obtain ⟨r27, rfl, h⟩ := h_
       obtain ⟨hsm11, h⟩ := h
       replace hB := Boxes.sameS (hB.sel [0, 1] (by decide) rfl) hsm11 (by simp)
       refine ⟨_, rfl, ?_⟩
       refine LW.rd hL rfl (Wants.on rfl rfl rfl rfl rfl hb8) rfl (Rd.un (v := .bool (!r27)) rfl (fun _ => by kernel_rfl)) ?_
       refine LW.rd hL rfl (Wants.free rfl) rfl (Rd.pickF rfl hb8 rfl) ?_
       exact LW.sub hL (by exact ⟨rfl, rfl, rfl, rfl, rfl, rfl, rfl, trivial⟩) (K3 (!r27) w26 (by exact hB) h)
     intro b6 w25 hB h_
     have h := hJ2 b6 w25 h_; clear h_
     refine LW.nil hL rfl ?_
     refine NW.then ?_
     refine CW.cond rfl (fun hb9 => ?_) (fun hb9 => ?_)
     ·replace h := h.1 hb9
      refine CW.seq ?_
      refine CW.region fun L hL => ?_
      refine LW.rd hL rfl (Wants.free rfl) rfl (Rd.assign (v := .bool false) rfl) ?_
      refine LW.nil hL rfl ?_
      refine NW.then ?_
      refine CW.ret ?_
      refine RW.then ?_
      exact XR.res0M (vs := [.bool false]) (by exact (ResOK.t rfl ResOK.nil)) rfl ⟨false, rfl, h⟩
     ·replace h := h.2 hb9
      refine CW.skip ?_
      refine NW.then ?_
      refine CW.seq ?_
      refine CW.region fun L hL => ?_
      obtain ⟨b7, hb_b7⟩ : ∃ b7, b7 = World.size w25 := ⟨_, rfl⟩
      obtain ⟨w27, hw_w27⟩ : ∃ w27, w27 = World.alloc w25 (.cells #[.int .i64 0] 3) := ⟨_, rfl⟩
      refine LW.val hL rfl (Wants.free rfl) rfl (boxE hb_b7 hw_w27 (Vl.alloc (z := .int .i64 0) (by kernel_rfl))) ?_
      replace hB := Boxes.alloc (cs := [.int .i64 0]) (T := 3) hB hb_b7 hw_w27
      have hlo_b7 := sil_lo (Chg.refl [] w25) hb_b7
      have hc_w27 := sil_alloc (Chg.refl [] w25) hw_w27
      obtain ⟨w28, hw_w28⟩ : ∃ x, x = World.setCell w27 (⟨b7, 0, none⟩ : Addr) (.int .i64 0) := ⟨_, rfl⟩
      refine LW.eff hL rfl (Wants.free rfl) rfl (stE hw_w28 (Ef.st rfl rfl rfl (by kernel_rfl) (box_cell (v := .int .i64 0) (hB.at (i := 0) rfl) rfl) (free_of (hB.at (i := 0) rfl) 0))) ?_
      replace hB : Boxes w28 [(b7, [.int .i64 0], 3), (b1, [.int .i64 leave1], 3), (b4, [.int .i64 c1, .int .i64 c2, .int .i64 c3, .slice c4 c4n c4c, .slice c5 c5n c5c], 43)] := Boxes.store1  (i := 0) (o := 0) hB rfl rfl rfl rfl hw_w28
      have hc_w28 := sil_new hc_w27 (sil_c1 hw_w28) hlo_b7
      refine LW.nil hL rfl ?_
      refine NW.then ?_
      refine CW.seq ?_
      refine CW.seq ?_
      refine CW.region fun L hL => ?_
      refine LW.rd hL rfl (Wants.free rfl) rfl (Rd.move (v := .pointer r5) rfl) ?_
      replace h := h b7 w28 ⟨hlo_b7, lt_of_heap (hB.at (i := 0) rfl)⟩ hc_w28
      refine LW.call hL rfl (Wants.free rfl) rfl (Cl.fn (f := 34) rfl Tryz.func34 (by kernel_rfl) rfl) h (fun e w29 h_ => ?_)
      clear h
      obtain ⟨r28, rfl, h⟩ := h_
      obtain ⟨hsm12, h⟩ := h
      replace hB := Boxes.sameS hB hsm12 (by simp)
      refine ⟨_, rfl, ?_⟩
      refine LW.nil hL rfl ?_
      refine NW.then ?_
      refine CW.block ?_
      obtain ⟨S1, Sp1, keep1, hfn_, hit_, hkp_, I3, X1, hst_I3, hst_X1, h0_, hrd_, hdn_, hso_X1⟩ := h
      refine XR.CW.rangeV (α := Int × Int × Int) (enc := (fun x : Int × Int × Int => #[.agg #[.int .i64 x.1, .int .i64 x.2.1], .int .u32 x.2.2])) (S := S1) (Sp := Sp1) (keep := keep1) rfl hfn_ (fun _ => rfl) (by decide) hit_ (fun (O_ : List Nat) (pre_ : List (Int × Int × Int)) (w_ : World) => ∃ (c11 : Int), I3 c11 O_ pre_ w_ ∧ Boxes w_ [(b1, [.int .i64 leave1], 3), (b4, [.int .i64 c1, .int .i64 c2, .int .i64 c3, .slice c4 c4n c4c, .slice c5 c5n c5c], 43), (b7, [.int .i64 c11], 3)]) (fun (c_ : Code) (O_ : List Nat) (pre_ : List (Int × Int × Int)) (w_ : World) => (c_ = Code.exit 4 ∧ ∃ (c11 : Int), X1 c11 O_ pre_ w_ ∧ Boxes w_ [(b1, [.int .i64 leave1], 3), (b4, [.int .i64 c1, .int .i64 c2, .int .i64 c3, .slice c4 c4n c4c, .slice c5 c5n c5c], 43), (b7, [.int .i64 c11], 3)])) ?_ ?_ ?_ hkp_ ?_ ?_ ?_
      ·intro pre_ O_ O2_ A_ B_ hi_ hO_ hc_ hO2_ hg_
       have hB0_ := (hB.sel [1, 2, 0] (by decide) rfl)
       obtain ⟨c11, hi_, hB⟩ := hi_
       exact ⟨c11, hst_I3 c11 pre_ O_ O2_ A_ B_ hi_ hO_ hc_ hO2_ hg_, hB.stab hB0_ rfl hO_ hc_⟩
      ·intro c_ pre_ O_ O2_ A_ B_ hi_ hO_ hc_ hO2_ hg_
       have hB0_ := (hB.sel [1, 2, 0] (by decide) rfl)
       rcases hi_ with ⟨hcc_, c11, hi_, hB⟩
       ·exact ⟨hcc_, c11, hst_X1 c11 pre_ O_ O2_ A_ B_ hi_ hO_ hc_ hO2_ hg_, hB.stab hB0_ rfl hO_ hc_⟩
      ·intro O_ A_ hc_ hO_
       exact ⟨0, h0_ O_ A_ hc_ hO_, Boxes.chg (hB.sel [1, 2, 0] (by decide) rfl) hc_ (by simp)⟩
      ·intro l1 O1 pre1 x_ w30 hO_ hl_ hSp_ hi_
       obtain ⟨x1, x2, x3⟩ := x_
       obtain ⟨c11, hi_, hB⟩ := hi_
       have h := hrd_ l1 O1 pre1 x1 x2 x3 c11 w30 hO_ hl_ hSp_ hi_
       refine XR.CW.skip ?_
       refine XR.NW.begin (Chg.refl [] w30) (fun w31 hcb_w31 hlp_ hib_ => ?_)
       have hc_w31 : Chg [l1] w30 w31 := sil_more (Chg.refl [] w30) hcb_w31
       replace hB := hB.notloop hlp_ hcb_w31
       replace h := h  w31  hc_w31
       refine XR.CW.block ?_
       refine XR.CW.seq ?_
       refine XR.CW.region fun L hL => ?_
       refine XR.LW.rd hL rfl (Wants.free rfl) rfl (Rd.ld (v := .int .i64 c11) rfl (by kernel_rfl) (eqs (box_cell (hB.at (i := 2) rfl) rfl))) ?_
       refine XR.LW.rd hL rfl (Wants.free rfl) rfl (Rd.bin (v := .int .i64 (IntKind.wrap .i64 (c11 + 1))) rfl rfl (fun w => by kernel_rfl)) ?_
       obtain ⟨w32, hw_w32⟩ : ∃ x, x = World.setCell w31 (⟨b7, 0, none⟩ : Addr) (.int .i64 (IntKind.wrap .i64 (c11 + 1))) := ⟨_, rfl⟩
       refine XR.LW.eff hL rfl (Wants.free rfl) rfl (stE hw_w32 (Ef.st rfl rfl rfl (by kernel_rfl) (box_cell (v := .int .i64 c11) (hB.at (i := 2) rfl) rfl) (free_of (hB.at (i := 2) rfl) 0))) ?_
       replace hB : Boxes w32 [(b1, [.int .i64 leave1], 3), (b4, [.int .i64 c1, .int .i64 c2, .int .i64 c3, .slice c4 c4n c4c, .slice c5 c5n c5c], 43), (b7, [.int .i64 (IntKind.wrap .i64 (c11 + 1))], 3)] := Boxes.store1  (i := 2) (o := 0) hB rfl rfl rfl rfl hw_w32
       have hc_w32 : Chg [b7] w31 w32 := sil_more (Chg.refl [] w31) (sil_c1 hw_w32)
       refine XR.LW.nil hL rfl ?_
       refine XR.NW.then ?_
       refine XR.CW.seq ?_
       refine XR.CW.region fun L hL => ?_
       refine XR.LW.rd hL rfl (Wants.free rfl) rfl (Rd.ld (v := .int .i64 (IntKind.wrap .i64 (c11 + 1))) rfl (by kernel_rfl) (eqs (box_cell (hB.at (i := 2) rfl) rfl))) ?_
       refine XR.LW.rd hL rfl (Wants.free rfl) rfl (Rd.ld (v := .int .i64 leave1) rfl (by kernel_rfl) (eqs (box_cell (hB.at (i := 0) rfl) rfl))) ?_
       refine XR.LW.rd hL rfl (Wants.free rfl) rfl (Rd.bin (v := .bool (decide ((IntKind.wrap .i64 (c11 + 1)) ≥ leave1))) rfl rfl (fun w => by kernel_rfl)) ?_
       refine XR.LW.nil hL rfl ?_
       refine XR.NW.then ?_
       replace h := h  w32  hc_w32
       refine XR.CW.cond rfl (fun hb10 => ?_) (fun hb10 => ?_)
       ·replace h := h.1 hb10
        refine XR.CW.exit ?_
        refine XW.miss rfl ?_
        exact fun a_ ha_ => ⟨h.1, (⟨rfl, IntKind.wrap .i64 (c11 + 1), h.2.1, hB⟩), h.2.2⟩
       ·replace h := h.2 hb10
        refine XR.CW.skip ?_
        refine NW.block ?_
        exact fun a_ ha_ => ⟨h.1, ⟨IntKind.wrap .i64 (c11 + 1), h.2.1, hB⟩, h.2.2⟩
      ·intro d1 O2 xs1 w33 hO_ hd_ hdh_ hS_ hi_
       obtain ⟨c11, hi_, hB⟩ := hi_
       have h := hdn_ d1 O2 xs1 c11 w33 hO_ hd_ hS_ hi_
       have hK := XR.Marks.cons (XR.Marks.nil _) hdh_ (by simp)
       refine NW.block ?_
       refine NW.then ?_
       refine CW.seq ?_
       refine CW.seq ?_
       refine CW.region fun L hL => ?_
       refine LW.rd hL rfl (Wants.free rfl) rfl (Rd.assign (v := .int .i64 0) rfl) ?_
       refine LW.nil hL rfl ?_
       refine NW.then ?_
       refine CW.block ?_
       obtain ⟨I4, m3, hI4, h⟩ := h
       refine CW.loop (S := Int × Int × Int × Int × (Option Addr) × Nat × Nat × (Option Addr) × Nat × Nat) (fun s3 => [(1, .slice behind1 behind1n behind1c), (5, .pointer (some (⟨b1, 0, none⟩ : Addr))), (6, .bool false), (8, .pointer r5), (10, .pointer (some (⟨b4, 0, none⟩ : Addr))), (12, .pointer r18), (15, .pointer (some (⟨b7, 0, none⟩ : Addr))), (16, .int .i64 s3.1)]) (fun s3 w34 => I4 s3.1 s3.2.1 s3.2.2.1 s3.2.2.2.1 s3.2.2.2.2.1 s3.2.2.2.2.2.1 s3.2.2.2.2.2.2.1 s3.2.2.2.2.2.2.2.1 s3.2.2.2.2.2.2.2.2.1 s3.2.2.2.2.2.2.2.2.2 w34 ∧ XR.Marks w34 [d1] ∧ Boxes w34 [(b1, [.int .i64 leave1], 3), (b4, [.int .i64 s3.2.1, .int .i64 s3.2.2.1, .int .i64 s3.2.2.2.1, .slice s3.2.2.2.2.1 s3.2.2.2.2.2.1 s3.2.2.2.2.2.2.1, .slice s3.2.2.2.2.2.2.2.1 s3.2.2.2.2.2.2.2.2.1 s3.2.2.2.2.2.2.2.2.2], 43), (b7, [.int .i64 c11], 3)]) (fun s3 w34 => m3 s3.1 s3.2.1 s3.2.2.1 s3.2.2.2.1 s3.2.2.2.2.1 s3.2.2.2.2.2.1 s3.2.2.2.2.2.2.1 s3.2.2.2.2.2.2.2.1 s3.2.2.2.2.2.2.2.2.1 s3.2.2.2.2.2.2.2.2.2 w34) (0, c1, c2, c3, c4, c4n, c4c, c5, c5n, c5c) (by exact ⟨rfl, rfl, rfl, rfl, rfl, rfl, rfl, rfl, trivial⟩) ⟨hI4, hK, hB⟩ (fun s3 w34 hI4 => ?_)
       obtain ⟨hI4, hK, hB⟩ := hI4
       obtain ⟨i3, c13, c14, c15, c16, c16n, c16c, c17, c17n, c17c⟩ := s3; replace h := h i3 c13 c14 c15 c16 c16n c16c c17 c17n c17c w34 hI4
       refine CW.seq ?_
       refine CW.seq ?_
       refine CW.region fun L hL => ?_
       refine LW.rd hL rfl (Wants.free rfl) rfl (Rd.move (v := .int .i64 i3) rfl) ?_
       refine LW.rd hL rfl (Wants.free rfl) rfl (Rd.move (v := .slice behind1 behind1n behind1c) rfl) ?_
       refine LW.rd hL rfl (Wants.free rfl) rfl (Rd.builtin (v := .int .i64 (behind1n : Int)) rfl (fun _ _ => by kernel_rfl)) ?_
       refine LW.rd hL rfl (Wants.free rfl) rfl (Rd.bin (v := .bool (decide (i3 < (behind1n : Int)))) rfl rfl (fun w => by kernel_rfl)) ?_
       refine LW.nil hL rfl ?_
       refine NW.then ?_
       refine CW.cond rfl (fun hb11 => ?_) (fun hb11 => ?_)
       ·replace h := h.1 hb11
        refine CW.skip ?_
        refine NW.then ?_
        refine CW.seq ?_
        refine CW.block ?_
        obtain ⟨w35, hw_w35⟩ : ∃ x, x = World.drew w34 := ⟨_, rfl⟩
        have hc_w35 := sil_drew (Chg.refl [] w34) hw_w35
        replace hB := hB.drew hw_w35
        replace hK := XR.Marks.drew hK hw_w35
        replace h := h  w35  hc_w35
        obtain ⟨a3, he3, hi5, hi6, h⟩ := h
        obtain ⟨t13, t14, t15, t16, t17, t18, t18n, t18c, hc3, h⟩ := h
        refine CW.drawn (fun w => CellsAt w (a3.add (Int.toNat i3 * 6)) 0 [.int .i64 t13, .int .i64 t14, .int .i64 t15, .int .i64 t16, .int .u32 t17, .slice t18 t18n t18c] ∧ Boxes w [(b4, [.int .i64 c13, .int .i64 c14, .int .i64 c15, .slice c16 c16n c16c, .slice c17 c17n c17c], 43)]) 10 (by kernel_rfl) fun H hH => ?_
        rw [← hw_w35]
        have hS7 : CellsAt w35 (a3.add (Int.toNat i3 * 6)) 0 [.int .i64 t13, .int .i64 t14, .int .i64 t15, .int .i64 t16, .int .u32 t17, .slice t18 t18n t18c] ∧ Boxes w35 [(b4, [.int .i64 c13, .int .i64 c14, .int .i64 c15, .slice c16 c16n c16c, .slice c17 c17n c17c], 43)] := ⟨hc3, (hB.sel [1] (by decide) rfl)⟩
        refine HW.pure (i := 0) hH rfl (by kernel_rfl) (Wants.free rfl) rfl (fun _ => hS7) (Rd.move (v := .pointer r5) rfl) ?_
        refine HW.take (i := 1) hH rfl (by kernel_rfl) (by kernel_rfl) (Wants.free rfl) rfl (fun _ => hS7) (Rd.ldN (cs := [.int .i64 c13, .int .i64 c14, .int .i64 c15, .slice c16 c16n c16c, .slice c17 c17n c17c]) rfl (by kernel_rfl) (by kernel_rfl) (fun w h => cellsAt_get (box_cells (Boxes.at (i := 0) h.2 rfl) rfl))) ?_
        refine HW.pure (i := 2) hH rfl (by kernel_rfl) (Wants.free rfl) rfl (fun _ => hS7) (Rd.move (v := .slice behind1 behind1n behind1c) rfl) ?_
        refine HW.pure (i := 3) hH rfl (by kernel_rfl) (Wants.free rfl) rfl (fun _ => hS7) (Rd.move (v := .int .i64 i3) rfl) ?_
        refine HW.pure (i := 4) hH rfl (by kernel_rfl) (Wants.free rfl) rfl (fun _ => hS7) (Rd.iaS (q := a3) (sz := 6) (by rw [← he3]; rfl) rfl Tryz.underlying69 (by kernel_rfl) hi5 hi6) ?_
        refine HW.take (i := 5) hH rfl (by kernel_rfl) (by kernel_rfl) (Wants.free rfl) rfl (fun _ => hS7) (Rd.ldN (cs := [.int .i64 t13, .int .i64 t14, .int .i64 t15, .int .i64 t16, .int .u32 t17, .slice t18 t18n t18c]) rfl (by kernel_rfl) (by kernel_rfl) (fun w h => cellsAt_get h.1)) ?_
        refine HW.call (i := 6) hH (by kernel_rfl) rfl (Wants.free rfl) rfl (Cl.fn (f := 30) rfl Tryz.func30 (by kernel_rfl) rfl) h (fun e w36 h_ => ?_)
        clear h
        obtain ⟨r29, r30, r31, r32, r32n, r32c, r33, r33n, r33c, r34, rfl, hS8, h⟩ := h_
        obtain ⟨hsm13, h⟩ := h
        replace hB := Boxes.sameS hB hsm13 (by simp)
        replace hK := XR.Marks.same hK hsm13 (by simp)
        have hS9 := (⟨hS8, (hB.sel [1] (by decide) rfl)⟩ : CellsAt w36 (a3.add (Int.toNat i3 * 6)) 0 [.int .i64 t13, .int .i64 t14, .int .i64 t15, .int .i64 t16, .int .u32 t17, .slice t18 t18n t18c] ∧ Boxes w36 [(b4, [.int .i64 c13, .int .i64 c14, .int .i64 c15, .slice c16 c16n c16c, .slice c17 c17n c17c], 43)])
        refine ⟨_, rfl, (fun _ => hS9), ?_⟩
        refine HW.pure (i := 7) hH rfl (by kernel_rfl) (Wants.free rfl) rfl (fun _ => hS9) (Rd.move (v := .tuple #[.agg #[.int .i64 r29, .int .i64 r30, .int .i64 r31, .slice r32 r32n r32c, .slice r33 r33n r33c], .bool r34]) rfl) ?_
        refine HW.pure (i := 8) hH rfl (by kernel_rfl) (Wants.free rfl) rfl (fun _ => hS9) (Rd.extract (v := .agg #[.int .i64 r29, .int .i64 r30, .int .i64 r31, .slice r32 r32n r32c, .slice r33 r33n r33c]) rfl rfl) ?_
        refine HW.pure (i := 9) hH rfl (by kernel_rfl) (Wants.free rfl) rfl (fun _ => hS9) (Rd.extract (v := .bool r34) rfl rfl) ?_
        obtain ⟨w37, hw_w37⟩ : ∃ x, x = setCells w36 (⟨b4, 0, none⟩ : Addr) 0 [.int .i64 r29, .int .i64 r30, .int .i64 r31, .slice r32 r32n r32c, .slice r33 r33n r33c] := ⟨_, rfl⟩
        refine HW.eff (i := 10) hH (by kernel_rfl) rfl (Wants.free rfl) rfl (stNE hw_w37 (Ef.stN (cs := [.int .i64 r29, .int .i64 r30, .int .i64 r31, .slice r32 r32n r32c, .slice r33 r33n r33c]) rfl rfl (by kernel_rfl) (List.forall_mem_cons.2 ⟨rfl, (List.forall_mem_cons.2 ⟨rfl, (List.forall_mem_cons.2 ⟨rfl, (List.forall_mem_cons.2 ⟨rfl, (List.forall_mem_cons.2 ⟨rfl, (List.forall_mem_nil _)⟩)⟩)⟩)⟩)⟩) (has_of (hB.at (i := 1) rfl) (by simp)) (free_of' (hB.at (i := 1) rfl)))) (fun hc => by cases hc) ?_
        replace hK := XR.Marks.set hK (hB.at (i := 1) rfl) (sil_cN hw_w37)
        replace hB : Boxes w37 [(b1, [.int .i64 leave1], 3), (b4, [.int .i64 r29, .int .i64 r30, .int .i64 r31, .slice r32 r32n r32c, .slice r33 r33n r33c], 43), (b7, [.int .i64 c11], 3)] := Boxes.store (vs := [.int .i64 r29, .int .i64 r30, .int .i64 r31, .slice r32 r32n r32c, .slice r33 r33n r33c]) (i := 1) (o := 0) hB rfl rfl rfl rfl hw_w37
        have hc_w37 : Chg [b4] w36 w37 := sil_more (Chg.refl [] w36) (sil_cN hw_w37)
        refine HW.done hH (by kernel_rfl) ?_
        refine NW.block ?_
        refine NW.then ?_
        refine CW.region fun L hL => ?_
        refine LW.rd hL rfl (Wants.free rfl) rfl (Rd.move (v := .int .i64 i3) rfl) ?_
        refine LW.rd hL rfl (Wants.free rfl) rfl (Rd.bin (v := .int .i64 (IntKind.wrap .i64 (i3 + 1))) rfl rfl (fun w => by kernel_rfl)) ?_
        refine LW.rd hL rfl (Wants.free rfl) rfl (Rd.assign (v := .int .i64 (IntKind.wrap .i64 (i3 + 1))) rfl) ?_
        refine LW.nil hL rfl ?_
        replace h := h  w37  hc_w37
        exact NW.loop (S := Int × Int × Int × Int × (Option Addr) × Nat × Nat × (Option Addr) × Nat × Nat) (Ek := fun s3 => [(1, .slice behind1 behind1n behind1c), (5, .pointer (some (⟨b1, 0, none⟩ : Addr))), (6, .bool false), (8, .pointer r5), (10, .pointer (some (⟨b4, 0, none⟩ : Addr))), (12, .pointer r18), (15, .pointer (some (⟨b7, 0, none⟩ : Addr))), (16, .int .i64 s3.1)]) (IntKind.wrap .i64 (i3 + 1), r29, r30, r31, r32, r32n, r32c, r33, r33n, r33c) (by exact ⟨rfl, rfl, rfl, rfl, rfl, rfl, rfl, rfl, trivial⟩) ⟨⟨h.1, hK, hB⟩, h.2⟩
       ·replace h := h.2 hb11
        refine CW.exit ?_
        refine XW.then ?_
        refine XW.then ?_
        refine XW.hit ?_
        refine NW.then ?_
        refine CW.seq ?_
        refine CW.region fun L hL => ?_
        refine LW.rd hL rfl (Wants.free rfl) rfl (Rd.move (v := .pointer r5) rfl) ?_
        refine LW.rd hL rfl (Wants.free rfl) rfl (Rd.move (v := .pointer r18) rfl) ?_
        refine LW.call hL rfl (Wants.free rfl) rfl (Cl.fn (f := 23) rfl Tryz.func23 (by kernel_rfl) rfl) h (fun e w38 h_ => ?_)
        clear h
        obtain ⟨r35, rfl, h⟩ := h_
        obtain ⟨hsm14, h⟩ := h
        replace hB := Boxes.sameS (hB.sel [0, 2] (by decide) rfl) hsm14 (by simp)
        replace hK := XR.Marks.same hK hsm14 (by simp)
        refine ⟨_, rfl, ?_⟩
        refine LW.rd hL rfl (Wants.free rfl) rfl (Rd.move (v := .bool r35) rfl) ?_
        obtain ⟨J3, hJ3, h1_J3, h0_J3⟩ := h
        suffices K4 : ∀ (b8 : Bool) (w39 : World), XR.Marks w39 [d1] → J3 b8 w39 → L 9 [(6, .bool false), (122, .bool b8)] w39 by
         rcases Bool.eq_false_or_eq_true r35 with hb12 | hb12
         ·have h := h1_J3 hb12
          refine LW.rd hL rfl (Wants.on rfl rfl rfl rfl rfl hb12) rfl (Rd.ld (v := .int .i64 c11) rfl (by kernel_rfl) (eqs (box_cell (hB.at (i := 1) rfl) rfl))) ?_
          refine LW.rd hL rfl (Wants.on rfl rfl rfl rfl rfl hb12) rfl (Rd.ld (v := .int .i64 leave1) rfl (by kernel_rfl) (eqs (box_cell (hB.at (i := 0) rfl) rfl))) ?_
          refine LW.rd hL rfl (Wants.on rfl rfl rfl rfl rfl hb12) rfl (Rd.builtin (v := .int .i64 (if leave1 < 1 then 1 else leave1)) rfl (fun _ _ => valB (maxI _ _ _ _ _ _))) ?_
          refine LW.rd hL rfl (Wants.on rfl rfl rfl rfl rfl hb12) rfl (Rd.bin (v := .bool (decide (c11 ≤ (if leave1 < 1 then 1 else leave1)))) rfl rfl (fun w => by kernel_rfl)) ?_
          refine LW.rd hL rfl (Wants.free rfl) rfl (Rd.pickT rfl hb12 rfl) ?_
          exact LW.sub hL (by exact ⟨rfl, rfl, trivial⟩) (K4 (decide (c11 ≤ (if leave1 < 1 then 1 else leave1))) w38 hK h)
         ·have h := h0_J3 hb12
          refine LW.skip hL rfl (Skips.on rfl rfl rfl rfl rfl hb12) rfl ?_
          refine LW.skip hL rfl (Skips.on rfl rfl rfl rfl rfl hb12) rfl ?_
          refine LW.skip hL rfl (Skips.on rfl rfl rfl rfl rfl hb12) rfl ?_
          refine LW.skip hL rfl (Skips.on rfl rfl rfl rfl rfl hb12) rfl ?_
          refine LW.rd hL rfl (Wants.free rfl) rfl (Rd.pickF rfl hb12 rfl) ?_
          exact LW.sub hL (by exact ⟨rfl, rfl, trivial⟩) (K4 false w38 hK h)
        intro b8 w39 hK h_
        have h := hJ3 b8 w39 h_; clear h_
        refine LW.rd hL rfl (Wants.free rfl) rfl (Rd.move (v := .bool b8) rfl) ?_
        obtain ⟨J4, hJ4, h1_J4, h0_J4⟩ := h
        suffices K5 : ∀ (b9 : Bool) (w40 : World), XR.Marks w40 [d1] → J4 b9 w40 → L 12 [(6, .bool false), (125, .bool b9)] w40 by
         rcases Bool.eq_false_or_eq_true b8 with hb13 | hb13
         ·have h := h1_J4 hb13
          refine LW.call hL rfl (Wants.on rfl rfl rfl rfl rfl hb13) rfl (Cl.fn (f := 25) rfl Tryz.func25 (by kernel_rfl) rfl) h (fun e w41 h_ => ?_)
          clear h
          obtain ⟨r36, rfl, h⟩ := h_
          obtain ⟨hsm15, h⟩ := h
          replace hK := XR.Marks.same hK hsm15 (by simp)
          refine ⟨_, rfl, ?_⟩
          refine LW.rd hL rfl (Wants.free rfl) rfl (Rd.pickT rfl hb13 rfl) ?_
          exact LW.sub hL (by exact ⟨rfl, rfl, trivial⟩) (K5 r36 w41 hK h)
         ·have h := h0_J4 hb13
          refine LW.skip hL rfl (Skips.on rfl rfl rfl rfl rfl hb13) rfl ?_
          refine LW.rd hL rfl (Wants.free rfl) rfl (Rd.pickF rfl hb13 rfl) ?_
          exact LW.sub hL (by exact ⟨rfl, rfl, trivial⟩) (K5 false w39 hK h)
        intro b9 w40 hK h_
        have h := hJ4 b9 w40 h_; clear h_
        refine LW.rd hL rfl (Wants.free rfl) rfl (Rd.assign (v := .bool b9) rfl) ?_
        refine LW.nil hL rfl ?_
        refine NW.then ?_
        refine CW.ret ?_
        exact XR.resM (ms := [d1]) (vs := [.bool b9]) hK rfl (fun w_ hc_ => ⟨(ResOK.t rfl ResOK.nil), b9, rfl, h w_ hc_⟩)
      ·intro d2 c_ O3 xs2 w43 hO_ hd_ hdh_ hS_ hi_
       rcases hi_ with ⟨rfl, c11, hi_, hB⟩
       ·have h := hso_X1 d2 O3 xs2 c11 w43 hO_ hd_ hS_ hi_
        have hK := XR.Marks.cons (XR.Marks.nil _) hdh_ (by simp)
        refine CW.exit ?_
        refine XW.hit ?_
        refine NW.then ?_
        refine CW.seq ?_
        refine CW.seq ?_
        refine CW.region fun L hL => ?_
        refine LW.rd hL rfl (Wants.free rfl) rfl (Rd.assign (v := .int .i64 0) rfl) ?_
        refine LW.nil hL rfl ?_
        refine NW.then ?_
        refine CW.block ?_
        obtain ⟨I5, m4, hI5, h⟩ := h
        refine CW.loop (S := Int × Int × Int × Int × (Option Addr) × Nat × Nat × (Option Addr) × Nat × Nat) (fun s4 => [(1, .slice behind1 behind1n behind1c), (5, .pointer (some (⟨b1, 0, none⟩ : Addr))), (6, .bool false), (8, .pointer r5), (10, .pointer (some (⟨b4, 0, none⟩ : Addr))), (12, .pointer r18), (15, .pointer (some (⟨b7, 0, none⟩ : Addr))), (16, .int .i64 s4.1)]) (fun s4 w44 => I5 s4.1 s4.2.1 s4.2.2.1 s4.2.2.2.1 s4.2.2.2.2.1 s4.2.2.2.2.2.1 s4.2.2.2.2.2.2.1 s4.2.2.2.2.2.2.2.1 s4.2.2.2.2.2.2.2.2.1 s4.2.2.2.2.2.2.2.2.2 w44 ∧ XR.Marks w44 [d2] ∧ Boxes w44 [(b1, [.int .i64 leave1], 3), (b4, [.int .i64 s4.2.1, .int .i64 s4.2.2.1, .int .i64 s4.2.2.2.1, .slice s4.2.2.2.2.1 s4.2.2.2.2.2.1 s4.2.2.2.2.2.2.1, .slice s4.2.2.2.2.2.2.2.1 s4.2.2.2.2.2.2.2.2.1 s4.2.2.2.2.2.2.2.2.2], 43), (b7, [.int .i64 c11], 3)]) (fun s4 w44 => m4 s4.1 s4.2.1 s4.2.2.1 s4.2.2.2.1 s4.2.2.2.2.1 s4.2.2.2.2.2.1 s4.2.2.2.2.2.2.1 s4.2.2.2.2.2.2.2.1 s4.2.2.2.2.2.2.2.2.1 s4.2.2.2.2.2.2.2.2.2 w44) (0, c1, c2, c3, c4, c4n, c4c, c5, c5n, c5c) (by exact ⟨rfl, rfl, rfl, rfl, rfl, rfl, rfl, rfl, trivial⟩) ⟨hI5, hK, hB⟩ (fun s4 w44 hI5 => ?_)
        obtain ⟨hI5, hK, hB⟩ := hI5
        obtain ⟨i4, c18, c19, c20, c21, c21n, c21c, c22, c22n, c22c⟩ := s4; replace h := h i4 c18 c19 c20 c21 c21n c21c c22 c22n c22c w44 hI5
        refine CW.seq ?_
        refine CW.seq ?_
        refine CW.region fun L hL => ?_
        refine LW.rd hL rfl (Wants.free rfl) rfl (Rd.move (v := .int .i64 i4) rfl) ?_
        refine LW.rd hL rfl (Wants.free rfl) rfl (Rd.move (v := .slice behind1 behind1n behind1c) rfl) ?_
        refine LW.rd hL rfl (Wants.free rfl) rfl (Rd.builtin (v := .int .i64 (behind1n : Int)) rfl (fun _ _ => by kernel_rfl)) ?_
        refine LW.rd hL rfl (Wants.free rfl) rfl (Rd.bin (v := .bool (decide (i4 < (behind1n : Int)))) rfl rfl (fun w => by kernel_rfl)) ?_
        refine LW.nil hL rfl ?_
        refine NW.then ?_
        refine CW.cond rfl (fun hb14 => ?_) (fun hb14 => ?_)
        ·replace h := h.1 hb14
         refine CW.skip ?_
         refine NW.then ?_
         refine CW.seq ?_
         refine CW.block ?_
         obtain ⟨w45, hw_w45⟩ : ∃ x, x = World.drew w44 := ⟨_, rfl⟩
         have hc_w45 := sil_drew (Chg.refl [] w44) hw_w45
         replace hB := hB.drew hw_w45
         replace hK := XR.Marks.drew hK hw_w45
         replace h := h  w45  hc_w45
         obtain ⟨a4, he4, hi7, hi8, h⟩ := h
         obtain ⟨t19, t20, t21, t22, t23, t24, t24n, t24c, hc4, h⟩ := h
         refine CW.drawn (fun w => CellsAt w (a4.add (Int.toNat i4 * 6)) 0 [.int .i64 t19, .int .i64 t20, .int .i64 t21, .int .i64 t22, .int .u32 t23, .slice t24 t24n t24c] ∧ Boxes w [(b4, [.int .i64 c18, .int .i64 c19, .int .i64 c20, .slice c21 c21n c21c, .slice c22 c22n c22c], 43)]) 10 (by kernel_rfl) fun H hH => ?_
         rw [← hw_w45]
         have hS10 : CellsAt w45 (a4.add (Int.toNat i4 * 6)) 0 [.int .i64 t19, .int .i64 t20, .int .i64 t21, .int .i64 t22, .int .u32 t23, .slice t24 t24n t24c] ∧ Boxes w45 [(b4, [.int .i64 c18, .int .i64 c19, .int .i64 c20, .slice c21 c21n c21c, .slice c22 c22n c22c], 43)] := ⟨hc4, (hB.sel [1] (by decide) rfl)⟩
         refine HW.pure (i := 0) hH rfl (by kernel_rfl) (Wants.free rfl) rfl (fun _ => hS10) (Rd.move (v := .pointer r5) rfl) ?_
         refine HW.take (i := 1) hH rfl (by kernel_rfl) (by kernel_rfl) (Wants.free rfl) rfl (fun _ => hS10) (Rd.ldN (cs := [.int .i64 c18, .int .i64 c19, .int .i64 c20, .slice c21 c21n c21c, .slice c22 c22n c22c]) rfl (by kernel_rfl) (by kernel_rfl) (fun w h => cellsAt_get (box_cells (Boxes.at (i := 0) h.2 rfl) rfl))) ?_
         refine HW.pure (i := 2) hH rfl (by kernel_rfl) (Wants.free rfl) rfl (fun _ => hS10) (Rd.move (v := .slice behind1 behind1n behind1c) rfl) ?_
         refine HW.pure (i := 3) hH rfl (by kernel_rfl) (Wants.free rfl) rfl (fun _ => hS10) (Rd.move (v := .int .i64 i4) rfl) ?_
         refine HW.pure (i := 4) hH rfl (by kernel_rfl) (Wants.free rfl) rfl (fun _ => hS10) (Rd.iaS (q := a4) (sz := 6) (by rw [← he4]; rfl) rfl Tryz.underlying69 (by kernel_rfl) hi7 hi8) ?_
         refine HW.take (i := 5) hH rfl (by kernel_rfl) (by kernel_rfl) (Wants.free rfl) rfl (fun _ => hS10) (Rd.ldN (cs := [.int .i64 t19, .int .i64 t20, .int .i64 t21, .int .i64 t22, .int .u32 t23, .slice t24 t24n t24c]) rfl (by kernel_rfl) (by kernel_rfl) (fun w h => cellsAt_get h.1)) ?_
         refine HW.call (i := 6) hH (by kernel_rfl) rfl (Wants.free rfl) rfl (Cl.fn (f := 30) rfl Tryz.func30 (by kernel_rfl) rfl) h (fun e w46 h_ => ?_)
         clear h
         obtain ⟨r37, r38, r39, r40, r40n, r40c, r41, r41n, r41c, r42, rfl, hS11, h⟩ := h_
         obtain ⟨hsm16, h⟩ := h
         replace hB := Boxes.sameS hB hsm16 (by simp)
         replace hK := XR.Marks.same hK hsm16 (by simp)
         have hS12 := (⟨hS11, (hB.sel [1] (by decide) rfl)⟩ : CellsAt w46 (a4.add (Int.toNat i4 * 6)) 0 [.int .i64 t19, .int .i64 t20, .int .i64 t21, .int .i64 t22, .int .u32 t23, .slice t24 t24n t24c] ∧ Boxes w46 [(b4, [.int .i64 c18, .int .i64 c19, .int .i64 c20, .slice c21 c21n c21c, .slice c22 c22n c22c], 43)])
         refine ⟨_, rfl, (fun _ => hS12), ?_⟩
         refine HW.pure (i := 7) hH rfl (by kernel_rfl) (Wants.free rfl) rfl (fun _ => hS12) (Rd.move (v := .tuple #[.agg #[.int .i64 r37, .int .i64 r38, .int .i64 r39, .slice r40 r40n r40c, .slice r41 r41n r41c], .bool r42]) rfl) ?_
         refine HW.pure (i := 8) hH rfl (by kernel_rfl) (Wants.free rfl) rfl (fun _ => hS12) (Rd.extract (v := .agg #[.int .i64 r37, .int .i64 r38, .int .i64 r39, .slice r40 r40n r40c, .slice r41 r41n r41c]) rfl rfl) ?_
         refine HW.pure (i := 9) hH rfl (by kernel_rfl) (Wants.free rfl) rfl (fun _ => hS12) (Rd.extract (v := .bool r42) rfl rfl) ?_
         obtain ⟨w47, hw_w47⟩ : ∃ x, x = setCells w46 (⟨b4, 0, none⟩ : Addr) 0 [.int .i64 r37, .int .i64 r38, .int .i64 r39, .slice r40 r40n r40c, .slice r41 r41n r41c] := ⟨_, rfl⟩
         refine HW.eff (i := 10) hH (by kernel_rfl) rfl (Wants.free rfl) rfl (stNE hw_w47 (Ef.stN (cs := [.int .i64 r37, .int .i64 r38, .int .i64 r39, .slice r40 r40n r40c, .slice r41 r41n r41c]) rfl rfl (by kernel_rfl) (List.forall_mem_cons.2 ⟨rfl, (List.forall_mem_cons.2 ⟨rfl, (List.forall_mem_cons.2 ⟨rfl, (List.forall_mem_cons.2 ⟨rfl, (List.forall_mem_cons.2 ⟨rfl, (List.forall_mem_nil _)⟩)⟩)⟩)⟩)⟩) (has_of (hB.at (i := 1) rfl) (by simp)) (free_of' (hB.at (i := 1) rfl)))) (fun hc => by cases hc) ?_
         replace hK := XR.Marks.set hK (hB.at (i := 1) rfl) (sil_cN hw_w47)
         replace hB : Boxes w47 [(b1, [.int .i64 leave1], 3), (b4, [.int .i64 r37, .int .i64 r38, .int .i64 r39, .slice r40 r40n r40c, .slice r41 r41n r41c], 43), (b7, [.int .i64 c11], 3)] := Boxes.store (vs := [.int .i64 r37, .int .i64 r38, .int .i64 r39, .slice r40 r40n r40c, .slice r41 r41n r41c]) (i := 1) (o := 0) hB rfl rfl rfl rfl hw_w47
         have hc_w47 : Chg [b4] w46 w47 := sil_more (Chg.refl [] w46) (sil_cN hw_w47)
         refine HW.done hH (by kernel_rfl) ?_
         refine NW.block ?_
         refine NW.then ?_
         refine CW.region fun L hL => ?_
         refine LW.rd hL rfl (Wants.free rfl) rfl (Rd.move (v := .int .i64 i4) rfl) ?_
         refine LW.rd hL rfl (Wants.free rfl) rfl (Rd.bin (v := .int .i64 (IntKind.wrap .i64 (i4 + 1))) rfl rfl (fun w => by kernel_rfl)) ?_
         refine LW.rd hL rfl (Wants.free rfl) rfl (Rd.assign (v := .int .i64 (IntKind.wrap .i64 (i4 + 1))) rfl) ?_
         refine LW.nil hL rfl ?_
         replace h := h  w47  hc_w47
         exact NW.loop (S := Int × Int × Int × Int × (Option Addr) × Nat × Nat × (Option Addr) × Nat × Nat) (Ek := fun s4 => [(1, .slice behind1 behind1n behind1c), (5, .pointer (some (⟨b1, 0, none⟩ : Addr))), (6, .bool false), (8, .pointer r5), (10, .pointer (some (⟨b4, 0, none⟩ : Addr))), (12, .pointer r18), (15, .pointer (some (⟨b7, 0, none⟩ : Addr))), (16, .int .i64 s4.1)]) (IntKind.wrap .i64 (i4 + 1), r37, r38, r39, r40, r40n, r40c, r41, r41n, r41c) (by exact ⟨rfl, rfl, rfl, rfl, rfl, rfl, rfl, rfl, trivial⟩) ⟨⟨h.1, hK, hB⟩, h.2⟩
        ·replace h := h.2 hb14
         refine CW.exit ?_
         refine XW.then ?_
         refine XW.then ?_
         refine XW.hit ?_
         refine NW.then ?_
         refine CW.seq ?_
         refine CW.region fun L hL => ?_
         refine LW.rd hL rfl (Wants.free rfl) rfl (Rd.move (v := .pointer r5) rfl) ?_
         refine LW.rd hL rfl (Wants.free rfl) rfl (Rd.move (v := .pointer r18) rfl) ?_
         refine LW.call hL rfl (Wants.free rfl) rfl (Cl.fn (f := 23) rfl Tryz.func23 (by kernel_rfl) rfl) h (fun e w48 h_ => ?_)
         clear h
         obtain ⟨r43, rfl, h⟩ := h_
         obtain ⟨hsm17, h⟩ := h
         replace hB := Boxes.sameS (hB.sel [0, 2] (by decide) rfl) hsm17 (by simp)
         replace hK := XR.Marks.same hK hsm17 (by simp)
         refine ⟨_, rfl, ?_⟩
         refine LW.rd hL rfl (Wants.free rfl) rfl (Rd.move (v := .bool r43) rfl) ?_
         obtain ⟨J5, hJ5, h1_J5, h0_J5⟩ := h
         suffices K6 : ∀ (b10 : Bool) (w49 : World), XR.Marks w49 [d2] → J5 b10 w49 → L 9 [(6, .bool false), (122, .bool b10)] w49 by
          rcases Bool.eq_false_or_eq_true r43 with hb15 | hb15
          ·have h := h1_J5 hb15
           refine LW.rd hL rfl (Wants.on rfl rfl rfl rfl rfl hb15) rfl (Rd.ld (v := .int .i64 c11) rfl (by kernel_rfl) (eqs (box_cell (hB.at (i := 1) rfl) rfl))) ?_
           refine LW.rd hL rfl (Wants.on rfl rfl rfl rfl rfl hb15) rfl (Rd.ld (v := .int .i64 leave1) rfl (by kernel_rfl) (eqs (box_cell (hB.at (i := 0) rfl) rfl))) ?_
           refine LW.rd hL rfl (Wants.on rfl rfl rfl rfl rfl hb15) rfl (Rd.builtin (v := .int .i64 (if leave1 < 1 then 1 else leave1)) rfl (fun _ _ => valB (maxI _ _ _ _ _ _))) ?_
           refine LW.rd hL rfl (Wants.on rfl rfl rfl rfl rfl hb15) rfl (Rd.bin (v := .bool (decide (c11 ≤ (if leave1 < 1 then 1 else leave1)))) rfl rfl (fun w => by kernel_rfl)) ?_
           refine LW.rd hL rfl (Wants.free rfl) rfl (Rd.pickT rfl hb15 rfl) ?_
           exact LW.sub hL (by exact ⟨rfl, rfl, trivial⟩) (K6 (decide (c11 ≤ (if leave1 < 1 then 1 else leave1))) w48 hK h)
          ·have h := h0_J5 hb15
           refine LW.skip hL rfl (Skips.on rfl rfl rfl rfl rfl hb15) rfl ?_
           refine LW.skip hL rfl (Skips.on rfl rfl rfl rfl rfl hb15) rfl ?_
           refine LW.skip hL rfl (Skips.on rfl rfl rfl rfl rfl hb15) rfl ?_
           refine LW.skip hL rfl (Skips.on rfl rfl rfl rfl rfl hb15) rfl ?_
           refine LW.rd hL rfl (Wants.free rfl) rfl (Rd.pickF rfl hb15 rfl) ?_
           exact LW.sub hL (by exact ⟨rfl, rfl, trivial⟩) (K6 false w48 hK h)
         intro b10 w49 hK h_
         have h := hJ5 b10 w49 h_; clear h_
         refine LW.rd hL rfl (Wants.free rfl) rfl (Rd.move (v := .bool b10) rfl) ?_
         obtain ⟨J6, hJ6, h1_J6, h0_J6⟩ := h
         suffices K7 : ∀ (b11 : Bool) (w50 : World), XR.Marks w50 [d2] → J6 b11 w50 → L 12 [(6, .bool false), (125, .bool b11)] w50 by
          rcases Bool.eq_false_or_eq_true b10 with hb16 | hb16
          ·have h := h1_J6 hb16
           refine LW.call hL rfl (Wants.on rfl rfl rfl rfl rfl hb16) rfl (Cl.fn (f := 25) rfl Tryz.func25 (by kernel_rfl) rfl) h (fun e w51 h_ => ?_)
           clear h
           obtain ⟨r44, rfl, h⟩ := h_
           obtain ⟨hsm18, h⟩ := h
           replace hK := XR.Marks.same hK hsm18 (by simp)
           refine ⟨_, rfl, ?_⟩
           refine LW.rd hL rfl (Wants.free rfl) rfl (Rd.pickT rfl hb16 rfl) ?_
           exact LW.sub hL (by exact ⟨rfl, rfl, trivial⟩) (K7 r44 w51 hK h)
          ·have h := h0_J6 hb16
           refine LW.skip hL rfl (Skips.on rfl rfl rfl rfl rfl hb16) rfl ?_
           refine LW.rd hL rfl (Wants.free rfl) rfl (Rd.pickF rfl hb16 rfl) ?_
           exact LW.sub hL (by exact ⟨rfl, rfl, trivial⟩) (K7 false w49 hK h)
         intro b11 w50 hK h_
         have h := hJ6 b11 w50 h_; clear h_
         refine LW.rd hL rfl (Wants.free rfl) rfl (Rd.assign (v := .bool b11) rfl) ?_
         refine LW.nil hL rfl ?_
         refine NW.then ?_
         refine CW.ret ?_
         exact XR.resM (ms := [d2]) (vs := [.bool b11]) hK rfl (fun w_ hc_ => ⟨(ResOK.t rfl ResOK.nil), b11, rfl, h w_ hc_⟩)
end Go.Proofs.YtfcfkhbkkfpehaaGreat
end
