/- Texts of the claim, merged: XGall XFlowAll XDrawn XGfall XFAll XGz1 XGz3 XFSame XPages XMisc XSame12 XLoop12 XWho14 XHwho XWhoW XOpenWho XStep. -/
import Derived.Test.YtfcfkhbkkfpehaaGreatDoorXV5
import Derived.Test.YtfcfkhbkkfpehaaGreatDoorProg
import Derived.OrdersIn
import Derived.Test.YtfcfkhbkkfpehaaGreatDoorRows
import Derived.ProofKit
import Derived.LaidMore
import Derived.LaidByTextLater
set_option linter.unusedSectionVars false
set_option linter.unusedSimpArgs false
set_option linter.unusedVariables false
set_option maxRecDepth 100000
section
namespace Go.Proofs.YtfcfkhbkkfpehaaGreatDoor
open Go Go.X
/- (*pomander/flow.Flow).all -/
def W_flow_Flow_all (f1 : Option Addr) (w : World) (R : (Option Nat) → World → Prop) : Prop :=
 ∃ a1 : Addr, f1 = some a1 ∧ (∃ (t1 : Option Nat), w.cell? (a1.add 5) = some (.map t1) ∧ (Calls Tryz.prog 49 #[.map t1] w fun e w1 => ∃ (r2 : Option Nat), e = .returned (.map r2) ∧ (∀ (b1 : Nat) (w3 : World), (w1.heap.size ≤ b1 ∧ b1 < w3.heap.size) → Chg [] w1 w3 → (∃ (t2 : Option Addr), w3.cell? (a1.add 3) = some (.pointer t2) ∧ (Calls Tryz.prog 73 #[.pointer t2] w3 fun e w4 => ∃ (r3 : Value), e = .returned (r3) ∧ (Same w3 w4 [b1] ∧ (∃ (S1 Sp1 : List (Int × Int) → Prop) (keep1 : List Nat), XR.IsFn Tryz.prog r3 ∧ XR.Iterates Tryz.prog r3 (fun x : Int × Int => #[.int .i64 x.1, .int .u32 x.2]) S1 Sp1 keep1 w4 ∧ (∀ i_ ∈ keep1, i_ < w4.heap.size) ∧ ∃ (I1 : List Nat → List (Int × Int) → World → Prop), (∀ (pre_ : List (Int × Int)), XR.Stab w4 (fun O_ w_ => I1 O_ pre_ w_)) ∧ (∀ (O1 : List Nat) (w5 : World), Chg [] w4 w5 → XR.InO w4 O1 w5 → I1 O1 ([]) w5) ∧ (∀ (l1 : Nat) (O1 : List Nat) (pre1 : List (Int × Int)) (x1 : Int) (x2 : Int) (w5 : World), XR.InO w4 O1 w5 → l1 ∈ O1 → Sp1 (pre1 ++ [(x1, x2)]) → I1 O1 pre1 w5 → (∀ (w6 : World), Chg [l1] w5 w6 → (∃ w7 : World, (Instr.mapUpdate 99 (.map r2) (.agg #[.int .i64 10, .int .i64 x1]) (.int .u32 x2)).run Tryz.prog w6 = .ok () w7 ∧ (Same w6 w7 [b1] ∧ ((w6.heap.size ≤ w7.heap.size ∧ I1 O1 (pre1 ++ [(x1, x2)]) w7 ∧ Same w6 w7 (keep1 ++ O1))))))) ∧ (∀ (d1 : Nat) (O2 : List Nat) (xs1 : List (Int × Int)) (w8 : World), XR.InO w4 O2 w8 → d1 ∈ O2 → S1 xs1 → I1 O2 xs1 w8 → (∃ (t3 : Option Addr), w8.cell? (a1.add 4) = some (.pointer t3) ∧ (Calls Tryz.prog 73 #[.pointer t3] w8 fun e w9 => ∃ (r4 : Value), e = .returned (r4) ∧ (Same w8 w9 [b1, d1] ∧ (∃ (S2 Sp2 : List (Int × Int) → Prop) (keep2 : List Nat), XR.IsFn Tryz.prog r4 ∧ XR.Iterates Tryz.prog r4 (fun x : Int × Int => #[.int .i64 x.1, .int .u32 x.2]) S2 Sp2 keep2 w9 ∧ (∀ i_ ∈ keep2, i_ < w9.heap.size) ∧ ∃ (I2 : List Nat → List (Int × Int) → World → Prop), (∀ (pre_ : List (Int × Int)), XR.Stab w9 (fun O_ w_ => I2 O_ pre_ w_)) ∧ (∀ (O3 : List Nat) (w10 : World), Chg [] w9 w10 → XR.InO w9 O3 w10 → I2 O3 ([]) w10) ∧ (∀ (l2 : Nat) (O3 : List Nat) (pre2 : List (Int × Int)) (x3 : Int) (x4 : Int) (w10 : World), XR.InO w9 O3 w10 → l2 ∈ O3 → Sp2 (pre2 ++ [(x3, x4)]) → I2 O3 pre2 w10 → (∀ (w11 : World), Chg [l2] w10 w11 → (∃ w12 : World, (Instr.mapUpdate 99 (.map r2) (.agg #[.int .i64 12, .int .i64 x3]) (.int .u32 x4)).run Tryz.prog w11 = .ok () w12 ∧ (Same w11 w12 [b1, d1] ∧ ((w11.heap.size ≤ w12.heap.size ∧ I2 O3 (pre2 ++ [(x3, x4)]) w12 ∧ Same w11 w12 (keep2 ++ O3))))))) ∧ (∀ (d2 : Nat) (O4 : List Nat) (xs2 : List (Int × Int)) (w13 : World), XR.InO w9 O4 w13 → d2 ∈ O4 → S2 xs2 → I2 O4 xs2 w13 → (∀ w14 : World, Chg [d2, d1] w13 w14 → (R r2 w14)))))))))))))))
set_option maxRecDepth 100000 in
theorem go_flow_Flow_all (f1 : Option Addr) (w : World) (R : (Option Nat) → World → Prop) (h : W_flow_Flow_all f1 w R) : Calls Tryz.prog 50 #[.pointer f1] w (fun e w' => ∃ (r1 : Option Nat), e = .returned (.map r1) ∧ R r1 w') := by
 unfold W_flow_Flow_all at h
 refine XR.enterM (N := 36) Tryz.func50 rfl rfl ?_
 refine CW.seq ?_
 refine CW.region fun L hL => ?_
 refine LW.rd hL rfl (Wants.free rfl) rfl (Rd.assign (v := .map none) rfl) ?_
 refine LW.nil hL rfl ?_
 refine NW.then ?_
 refine CW.seq ?_
 refine CW.region fun L hL => ?_
 refine LW.rd hL rfl (Wants.free rfl) rfl (Rd.move (v := .pointer f1) rfl) ?_
 obtain ⟨a1, ha1, h⟩ := h
 refine LW.rd hL rfl (Wants.free rfl) rfl (Rd.nil (q := a1) (by rw [← ha1]; rfl)) ?_
 refine LW.rd hL rfl (Wants.free rfl) rfl (Rd.fa (v := .pointer (some (a1.add 5))) rfl (fun _ => by kernel_rfl)) ?_
 obtain ⟨t1, hc1, h⟩ := h
 refine LW.rd hL rfl (Wants.free rfl) rfl (Rd.ld (v := .map t1) rfl (by kernel_rfl) (eqs hc1)) ?_
 refine LW.call hL rfl (Wants.free rfl) rfl (Cl.fn (f := 49) rfl Tryz.func49 (by kernel_rfl) rfl) h (fun e w1 h_ => ?_)
 clear h
 obtain ⟨r2, rfl, h⟩ := h_
 refine ⟨_, rfl, ?_⟩
 obtain ⟨b1, hb_b1⟩ : ∃ b1, b1 = World.size w1 := ⟨_, rfl⟩
 obtain ⟨w2, hw_w2⟩ : ∃ w2, w2 = World.alloc w1 (.cells #[.map none] 99) := ⟨_, rfl⟩
 refine LW.val hL rfl (Wants.free rfl) rfl (boxE hb_b1 hw_w2 (Vl.alloc (z := .map none) (by kernel_rfl))) ?_
 have hB := Boxes.alloc (cs := [.map none]) (T := 99) (Boxes.nil w1) hb_b1 hw_w2
 have hlo_b1 := sil_lo (Chg.refl [] w1) hb_b1
 have hc_w2 := sil_alloc (Chg.refl [] w1) hw_w2
 obtain ⟨w3, hw_w3⟩ : ∃ x, x = World.setCell w2 (⟨b1, 0, none⟩ : Addr) (.map r2) := ⟨_, rfl⟩
 refine LW.eff hL rfl (Wants.free rfl) rfl (stE hw_w3 (Ef.st rfl rfl rfl (by kernel_rfl) (box_cell (v := .map none) (hB.at (i := 0) rfl) rfl) (free_of (hB.at (i := 0) rfl) 0))) ?_
 replace hB : Boxes w3 [(b1, [.map r2], 99)] := Boxes.store1  (i := 0) (o := 0) hB rfl rfl rfl rfl hw_w3
 have hc_w3 := sil_new hc_w2 (sil_c1 hw_w3) hlo_b1
 refine LW.nil hL rfl ?_
 refine NW.then ?_
 refine CW.seq ?_
 refine CW.seq ?_
 refine CW.region fun L hL => ?_
 refine LW.rd hL rfl (Wants.free rfl) rfl (Rd.move (v := .pointer f1) rfl) ?_
 refine LW.rd hL rfl (Wants.free rfl) rfl (Rd.nil (q := a1) (by rw [← ha1]; rfl)) ?_
 refine LW.rd hL rfl (Wants.free rfl) rfl (Rd.fa (v := .pointer (some (a1.add 3))) rfl (fun _ => by kernel_rfl)) ?_
 replace h := h b1 w3 ⟨hlo_b1, lt_of_heap (hB.at (i := 0) rfl)⟩ hc_w3
 obtain ⟨t2, hc2, h⟩ := h
 refine LW.rd hL rfl (Wants.free rfl) rfl (Rd.ld (v := .pointer t2) rfl (by kernel_rfl) (eqs hc2)) ?_
 refine LW.call hL rfl (Wants.free rfl) rfl (Cl.fn (f := 73) rfl Tryz.func73 (by kernel_rfl) rfl) h (fun e w4 h_ => ?_)
 clear h
 obtain ⟨r3, rfl, h⟩ := h_
 obtain ⟨hsm1, h⟩ := h
 replace hB := Boxes.sameS hB hsm1 (by simp)
 refine ⟨_, rfl, ?_⟩
 refine LW.nil hL rfl ?_
 refine NW.then ?_
 refine CW.block ?_
 obtain ⟨S1, Sp1, keep1, hfn_, hit_, hkp_, I1, hst_I1, h0_, hrd_, hdn_⟩ := h
 refine XR.CW.rangeV (α := Int × Int) (enc := (fun x : Int × Int => #[.int .i64 x.1, .int .u32 x.2])) (S := S1) (Sp := Sp1) (keep := keep1) rfl hfn_ (fun _ => rfl) (by decide) hit_ (fun (O_ : List Nat) (pre_ : List (Int × Int)) (w_ : World) => I1 O_ pre_ w_ ∧ Boxes w_ [(b1, [.map r2], 99)]) (fun (c_ : Code) (O_ : List Nat) (pre_ : List (Int × Int)) (w_ : World) => False) ?_ ?_ ?_ hkp_ ?_ ?_ ?_
 ·intro pre_ O_ O2_ A_ B_ hi_ hO_ hc_ hO2_ hg_
  have hB0_ := hB
  obtain ⟨hi_, hB⟩ := hi_
  exact ⟨hst_I1  pre_ O_ O2_ A_ B_ hi_ hO_ hc_ hO2_ hg_, hB.stab hB0_ rfl hO_ hc_⟩
 ·intro c_ pre_ O_ O2_ A_ B_ hi_ hO_ hc_ hO2_ hg_
  exact hi_.elim
 ·intro O_ A_ hc_ hO_
  exact ⟨h0_ O_ A_ hc_ hO_, Boxes.chg hB hc_ (by simp)⟩
 ·intro l1 O1 pre1 x_ w5 hO_ hl_ hSp_ hi_
  obtain ⟨x1, x2⟩ := x_
  obtain ⟨hi_, hB⟩ := hi_
  have h := hrd_ l1 O1 pre1 x1 x2 w5 hO_ hl_ hSp_ hi_
  refine XR.CW.seq ?_
  refine XR.CW.region fun L hL => ?_
  refine XR.LW.rd hL rfl (Wants.free rfl) rfl (Rd.assign (v := .int .i64 x1) rfl) ?_
  refine XR.LW.nil hL rfl ?_
  refine XR.NW.then ?_
  refine XR.CW.region fun L hL => ?_
  refine XR.LW.rd hL rfl (Wants.free rfl) rfl (Rd.assign (v := .int .u32 x2) rfl) ?_
  refine XR.LW.nil hL rfl ?_
  refine XR.NW.begin (Chg.refl [] w5) (fun w6 hcb_w6 hlp_ hib_ => ?_)
  have hc_w6 : Chg [l1] w5 w6 := sil_more (Chg.refl [] w5) hcb_w6
  replace hB := hB.notloop hlp_ hcb_w6
  replace h := h  w6  hc_w6
  refine XR.CW.block ?_
  refine XR.CW.region fun L hL => ?_
  refine XR.LW.rd hL rfl (Wants.free rfl) rfl (Rd.ld (v := .map r2) rfl (by kernel_rfl) (eqs (box_cell (hB.at (i := 0) rfl) rfl))) ?_
  refine XR.LW.rd hL rfl (Wants.free rfl) rfl (Rd.move (v := .int .i64 x1) rfl) ?_
  refine XR.LW.rd hL rfl (Wants.free rfl) rfl (Rd.build (v := .agg #[.int .i64 10, .int .i64 x1]) rfl (fun _ => by kernel_rfl)) ?_
  refine XR.LW.rd hL rfl (Wants.free rfl) rfl (Rd.move (v := .int .u32 x2) rfl) ?_
  obtain ⟨w7, hm1, h⟩ := h
  refine XR.LW.eff hL rfl (Wants.free rfl) rfl (Ef.mapUpdate rfl rfl rfl hm1) ?_
  obtain ⟨hsm2, h⟩ := h
  replace hB := Boxes.sameS hB hsm2 (by simp)
  refine XR.LW.nil hL rfl ?_
  refine NW.block ?_
  exact fun a_ ha_ => ⟨h.1, ⟨h.2.1, hB⟩, h.2.2⟩
 ·intro d1 O2 xs1 w8 hO_ hd_ hdh_ hS_ hi_
  obtain ⟨hi_, hB⟩ := hi_
  have h := hdn_ d1 O2 xs1 w8 hO_ hd_ hS_ hi_
  have hK := XR.Marks.cons (XR.Marks.nil _) hdh_ (by simp)
  refine NW.block ?_
  refine NW.then ?_
  refine CW.seq ?_
  refine CW.seq ?_
  refine CW.region fun L hL => ?_
  refine LW.rd hL rfl (Wants.free rfl) rfl (Rd.move (v := .pointer f1) rfl) ?_
  refine LW.rd hL rfl (Wants.free rfl) rfl (Rd.nil (q := a1) (by rw [← ha1]; rfl)) ?_
  refine LW.rd hL rfl (Wants.free rfl) rfl (Rd.fa (v := .pointer (some (a1.add 4))) rfl (fun _ => by kernel_rfl)) ?_
  obtain ⟨t3, hc3, h⟩ := h
  refine LW.rd hL rfl (Wants.free rfl) rfl (Rd.ld (v := .pointer t3) rfl (by kernel_rfl) (eqs hc3)) ?_
  refine LW.call hL rfl (Wants.free rfl) rfl (Cl.fn (f := 73) rfl Tryz.func73 (by kernel_rfl) rfl) h (fun e w9 h_ => ?_)
  clear h
  obtain ⟨r4, rfl, h⟩ := h_
  obtain ⟨hsm3, h⟩ := h
  replace hB := Boxes.sameS hB hsm3 (by simp)
  replace hK := XR.Marks.same hK hsm3 (by simp)
  refine ⟨_, rfl, ?_⟩
  refine LW.nil hL rfl ?_
  refine NW.then ?_
  refine CW.block ?_
  obtain ⟨S2, Sp2, keep2, hfn_, hit_, hkp_, I2, hst_I2, h0_, hrd_, hdn_⟩ := h
  refine XR.CW.rangeV (α := Int × Int) (enc := (fun x : Int × Int => #[.int .i64 x.1, .int .u32 x.2])) (S := S2) (Sp := Sp2) (keep := keep2) rfl hfn_ (fun _ => rfl) (by decide) hit_ (fun (O_ : List Nat) (pre_ : List (Int × Int)) (w_ : World) => I2 O_ pre_ w_ ∧ XR.Marks w_ [d1] ∧ Boxes w_ [(b1, [.map r2], 99)]) (fun (c_ : Code) (O_ : List Nat) (pre_ : List (Int × Int)) (w_ : World) => False) ?_ ?_ ?_ hkp_ ?_ ?_ ?_
  ·intro pre_ O_ O2_ A_ B_ hi_ hO_ hc_ hO2_ hg_
   have hB0_ := hB
   have hK0_ := hK
   obtain ⟨hi_, hK, hB⟩ := hi_
   exact ⟨hst_I2  pre_ O_ O2_ A_ B_ hi_ hO_ hc_ hO2_ hg_, hK.stab hK0_ hO_ hc_, hB.stab hB0_ rfl hO_ hc_⟩
  ·intro c_ pre_ O_ O2_ A_ B_ hi_ hO_ hc_ hO2_ hg_
   exact hi_.elim
  ·intro O_ A_ hc_ hO_
   exact ⟨h0_ O_ A_ hc_ hO_, hK.chg hc_ (by simp), Boxes.chg hB hc_ (by simp)⟩
  ·intro l2 O3 pre2 x_ w10 hO_ hl_ hSp_ hi_
   obtain ⟨x3, x4⟩ := x_
   obtain ⟨hi_, hK, hB⟩ := hi_
   have h := hrd_ l2 O3 pre2 x3 x4 w10 hO_ hl_ hSp_ hi_
   refine XR.CW.seq ?_
   refine XR.CW.region fun L hL => ?_
   refine XR.LW.rd hL rfl (Wants.free rfl) rfl (Rd.assign (v := .int .i64 x3) rfl) ?_
   refine XR.LW.nil hL rfl ?_
   refine XR.NW.then ?_
   refine XR.CW.region fun L hL => ?_
   refine XR.LW.rd hL rfl (Wants.free rfl) rfl (Rd.assign (v := .int .u32 x4) rfl) ?_
   refine XR.LW.nil hL rfl ?_
   refine XR.NW.begin (Chg.refl [] w10) (fun w11 hcb_w11 hlp_ hib_ => ?_)
   have hc_w11 : Chg [l2] w10 w11 := sil_more (Chg.refl [] w10) hcb_w11
   replace hB := hB.notloop hlp_ hcb_w11
   replace hK := hK.notloop hlp_ hcb_w11
   replace h := h  w11  hc_w11
   refine XR.CW.block ?_
   refine XR.CW.region fun L hL => ?_
   refine XR.LW.rd hL rfl (Wants.free rfl) rfl (Rd.ld (v := .map r2) rfl (by kernel_rfl) (eqs (box_cell (hB.at (i := 0) rfl) rfl))) ?_
   refine XR.LW.rd hL rfl (Wants.free rfl) rfl (Rd.move (v := .int .i64 x3) rfl) ?_
   refine XR.LW.rd hL rfl (Wants.free rfl) rfl (Rd.build (v := .agg #[.int .i64 12, .int .i64 x3]) rfl (fun _ => by kernel_rfl)) ?_
   refine XR.LW.rd hL rfl (Wants.free rfl) rfl (Rd.move (v := .int .u32 x4) rfl) ?_
   obtain ⟨w12, hm2, h⟩ := h
   refine XR.LW.eff hL rfl (Wants.free rfl) rfl (Ef.mapUpdate rfl rfl rfl hm2) ?_
   obtain ⟨hsm4, h⟩ := h
   replace hB := Boxes.sameS hB hsm4 (by simp)
   replace hK := XR.Marks.same hK hsm4 (by simp)
   refine XR.LW.nil hL rfl ?_
   refine NW.block ?_
   exact fun a_ ha_ => ⟨h.1, ⟨h.2.1, hK, hB⟩, h.2.2⟩
  ·intro d2 O4 xs2 w13 hO_ hd_ hdh_ hS_ hi_
   have hK0_ := hK
   obtain ⟨hi_, hK, hB⟩ := hi_
   have h := hdn_ d2 O4 xs2 w13 hO_ hd_ hS_ hi_
   have hK := XR.Marks.cons2 hK hK0_ (hO_ _ hd_).1 hdh_
   refine NW.block ?_
   refine NW.then ?_
   refine CW.seq ?_
   refine CW.region fun L hL => ?_
   refine LW.rd hL rfl (Wants.free rfl) rfl (Rd.ld (v := .map r2) rfl (by kernel_rfl) (eqs (box_cell (hB.at (i := 0) rfl) rfl))) ?_
   refine LW.rd hL rfl (Wants.free rfl) rfl (Rd.assign (v := .map r2) rfl) ?_
   refine LW.nil hL rfl ?_
   refine NW.then ?_
   refine CW.ret ?_
   exact XR.resM (ms := [d2, d1]) (vs := [.map r2]) hK rfl (fun w_ hc_ => ⟨(ResOK.t rfl ResOK.nil), r2, rfl, h w_ hc_⟩)
  ·intro d3 c_ O5 xs3 w15 hO_ hd_ hdh_ hS_ hi_
   exact hi_.elim
 ·intro d4 c_ O6 xs4 w16 hO_ hd_ hdh_ hS_ hi_
  exact hi_.elim
end Go.Proofs.YtfcfkhbkkfpehaaGreatDoor
end
section
/- Flows: the map of all places that have sets. -/
namespace Go.Proofs.YtfcfkhbkkfpehaaGreatDoor
open Go Go.RowKit Go.X Go.XR
def addAll (c : Int) (xs : List (Int × Int)) (l : List ((Int × Int) × Int)) : List ((Int × Int) × Int) := xs.foldl (fun l x => upd (c, x.1) x.2 l) l
theorem addAll_append (c : Int) (xs ys : List (Int × Int)) (l : List ((Int × Int) × Int)) : addAll c (xs ++ ys) l = addAll c ys (addAll c xs l) := by simp [addAll]
theorem addAll_look (c : Int) (g : Int → Int) (l : List ((Int × Int) × Int)) (p : Int × Int) : ∀ k : Nat, lookK p (addAll c (someL g k) l) = if p.1 = c ∧ 0 ≤ p.2 ∧ p.2 < k ∧ g p.2 ≠ 0 then some (g p.2) else lookK p l
 | 0 => by
  rw [if_neg (by omega)]; rfl
 | k + 1 => by
  have ih := addAll_look c g l p k
  rw [someL_succ, addAll_append]
  by_cases hz : g k = 0
  ·rw [if_pos hz]
   show lookK p (addAll c (someL g k) l) = _
   rw [ih]
   by_cases h : p.1 = c ∧ 0 ≤ p.2 ∧ p.2 < k ∧ g p.2 ≠ 0
   ·rw [if_pos h, if_pos ⟨h.1, h.2.1, by omega, h.2.2.2⟩]
   ·rw [if_neg h, if_neg]
    rintro ⟨h1, h2, h3, h4⟩
    refine h ⟨h1, h2, ?_, h4⟩
    rcases Decidable.em (p.2 = k) with e | e
    ·rw [e] at h4; exact absurd hz h4
    ·omega
  ·rw [if_neg hz]
   show lookK p (upd (c, (k : Int)) (g k) (addAll c (someL g k) l)) = _
   rw [lookK_upd, ih]
   by_cases e : p = (c, (k : Int))
   ·subst e
    rw [if_pos rfl, if_pos ⟨rfl, by simp only []; omega, by simp only []; omega, hz⟩]
   ·rw [if_neg e]
    have e' : p.1 = c → p.2 ≠ k := fun h1 h2 => e (Prod.ext h1 h2)
    by_cases h : p.1 = c ∧ 0 ≤ p.2 ∧ p.2 < k ∧ g p.2 ≠ 0
    ·rw [if_pos h, if_pos ⟨h.1, h.2.1, by omega, h.2.2.2⟩]
    ·rw [if_neg h, if_neg]
     rintro ⟨h1, h2, h3, h4⟩
     exact h ⟨h1, h2, by have := e' h1; omega, h4⟩
structure AllIs (w : World) (m : Nat) (F : Fl) (L : List ((Int × Int) × Int)) : Prop where
 map : MapIs w m encP (fun n : Int => .int .u32 n) L
 look : ∀ p, lookK p L = if F.g p = 0 then none else some (F.g p)
 may : ∀ x ∈ L, mayP F.fr F.se x.1
theorem flow_all_map {w : World} {b : Nat} {F : Fl} {fp : List Nat} (h : FlowAt w b F fp) :
  Calls Tryz.prog 50 #[.pointer (some ⟨b, 0, none⟩)] w fun e w' => ∃ r2 : Option Nat, e = .returned (.map r2) ∧ ∃ m L, r2 = some m ∧ AllIs w' m F L ∧ Chg [] w w' ∧ w.heap.size ≤ m := by
 obtain ⟨T, m, d, r, l, fpT, fpm, fpd, gm, gd, h1, h2, h3, h4, h5, h6, h7, h8, h9, rfl⟩ := h.there
 have hlb := lt_of_heap h1
 refine go_flow_Flow_all _ _ _ ?_
 unfold W_flow_Flow_all
 obtain ⟨es, clk, m1, m2⟩ := h5
 refine ⟨_, rfl, some r, by rw [add_at, cell_of h1]; rfl, ?_⟩
 refine (clone80 m1).mono ?_
 rintro _ w1 ⟨_, rfl, rfl, hw⟩
 have c1 : Chg [] w w1 := by subst hw; exact Chg.alloc _ _
 have hm1 : MapIs w1 w.heap.size encP (fun n : Int => .int .u32 n) l := ⟨es, clk, by subst hw; exact heap_new w _, m2⟩
 have s1 := c1.size
 have lm1 := hm1.lt
 refine ⟨_, rfl, ?_⟩
 rintro b1 w3 ⟨i1, j1⟩ c3
 have s3 := c3.size
 have c03 := c1.trans0 c3
 refine ⟨_, by rw [add_at, cell_of (c03.obj (by simp) h1)]; rfl, ?_⟩
 refine (shadow_all (h3.chg c03 (by simp))).mono ?_
 rintro _ w4 ⟨_, rfl, cb, b', fp', rfl, hcb, hA, c4, hnew⟩
 have s4 := c4.size
 have hlA := hA.lt
 have hlcb := lt_of_heap hcb
 have c04 := c03.trans0 c4
 refine ⟨_, rfl, Same.chg c4 (by simp; omega), _, _, _, isFn93 cb, iterates_shadow hcb hA, by simp; exact ⟨hlcb, hlA⟩, ?_⟩
 refine ⟨fun O pre w' => ∃ k : Nat, k ≤ 64 * F.fr.toNat ∧ pre = someL gm k ∧ MapIs w' w.heap.size encP (fun n : Int => .int .u32 n) (addAll 10 (someL gm k) l) ∧ Chg [] w w' ∧ w4.heap.size ≤ w'.heap.size, ?_, ?_, ?_, ?_⟩
 ·rintro pre O O' A B ⟨k, k1, k2, k3, k4, k5⟩ hO hc hO' hg
  have := hc.size
  exact ⟨k, k1, k2, k3.chg hc (fun hm => by have := (hO _ hm).1; omega), k4.trans hc (fun i hi hlt => by have := (hO i hi).1; omega), by omega⟩
 ·intro O w5 c5 hO
  exact ⟨0, Nat.zero_le _, rfl, ((hm1.chg c3 (by simp)).chg c4 (by simp)).chg c5 (by simp), c04.trans0 c5, c5.size⟩
 ·rintro l1 O pre x1 x2 w5 hO hl1 ⟨suf, hsuf⟩ ⟨k, k1, rfl, k3, k4, k5⟩ w6 c6
  have hl1' := hO l1 hl1
  have s6 := c6.size
  rw [List.append_assoc] at hsuf
  obtain ⟨j, rfl, hkj, hjn, rfl, hj0, hz, hnext⟩ := someL_next (64 * F.fr.toNat - k) k (by omega) hsuf
  have hm6 := k3.chg c6 (fun hm => by simp at hm; omega)
  obtain ⟨w7, hrun, c7, s7, hm7⟩ := hm6.update (P := Tryz.prog) (T := 99) u143 keyPlace (10, (j : Int)) (gm j)
  refine ⟨w7, hrun, Same.of c7 (fun i hi => by simp at hi; exact ⟨by omega, by simp; omega⟩), by omega, ⟨j + 1, by omega, hnext.symm, ?_, (k4.trans c6 (fun i hi hlt => by simp at hi; omega)).trans c7 (fun i hi hlt => by simp at hi; omega), by omega⟩, Same.of c7 (fun i hi => ?_)⟩
  ·rw [hnext, addAll_append]; exact hm7
  ·rcases List.mem_append.1 hi with h | h
   ·have h1 := hnew i h
    have h2 : i < w4.heap.size := by
     rcases List.mem_cons.1 h with e | e
     ·omega
     ·exact hlA i e
    exact ⟨by omega, by simp; omega⟩
   ·have := hO i h
    exact ⟨by omega, by simp; omega⟩
 ·rintro d1 O xs w8 hO hd1 hxs ⟨k, k1, hxs', k3, k4, k5⟩
  have hd1' := hO d1 hd1
  rw [hxs'.symm.trans hxs] at k3
  refine ⟨_, by rw [add_at, cell_of (k4.obj (by simp) h1)]; rfl, ?_⟩
  refine (shadow_all (h4.chg k4 (by simp))).mono ?_
  rintro _ w9 ⟨_, rfl, cb2, b2', fp2', rfl, hcb2, hA2, c9, hnew2⟩
  have s9 := c9.size
  have hlA2 := hA2.lt
  have hlcb2 := lt_of_heap hcb2
  have c09 := k4.trans0 c9
  refine ⟨_, rfl, Same.chg c9 (by simp; omega), _, _, _, isFn93 cb2, iterates_shadow hcb2 hA2, by simp; exact ⟨hlcb2, hlA2⟩, ?_⟩
  refine ⟨fun O pre w' => ∃ k : Nat, k ≤ 64 * F.se.toNat ∧ pre = someL gd k ∧ MapIs w' w.heap.size encP (fun n : Int => .int .u32 n) (addAll 12 (someL gd k) (addAll 10 (someL gm (64 * F.fr.toNat)) l)) ∧ Chg [] w w' ∧ w9.heap.size ≤ w'.heap.size, ?_, ?_, ?_, ?_⟩
  ·rintro pre O O' A B ⟨k, k1, k2, k3, k4, k5⟩ hO hc hO' hg
   have := hc.size
   exact ⟨k, k1, k2, k3.chg hc (fun hm => by have := (hO _ hm).1; omega), k4.trans hc (fun i hi hlt => by have := (hO i hi).1; omega), by omega⟩
  ·intro O w10 c10 hO
   exact ⟨0, Nat.zero_le _, rfl, (k3.chg c9 (by simp)).chg c10 (by simp), c09.trans0 c10, c10.size⟩
  ·rintro l2 O pre x3 x4 w10 hO hl2 ⟨suf, hsuf⟩ ⟨k, k1, rfl, k3, k4, k5⟩ w11 c11
   have hl2' := hO l2 hl2
   have s11 := c11.size
   rw [List.append_assoc] at hsuf
   obtain ⟨j, rfl, hkj, hjn, rfl, hj0, hz, hnext⟩ := someL_next (64 * F.se.toNat - k) k (by omega) hsuf
   have hm11 := k3.chg c11 (fun hm => by simp at hm; omega)
   obtain ⟨w12, hrun, c12, s12, hm12⟩ := hm11.update (P := Tryz.prog) (T := 99) u143 keyPlace (12, (j : Int)) (gd j)
   refine ⟨w12, hrun, Same.of c12 (fun i hi => by simp at hi; exact ⟨by omega, by simp; omega⟩), by omega, ⟨j + 1, by omega, hnext.symm, ?_, (k4.trans c11 (fun i hi hlt => by simp at hi; omega)).trans c12 (fun i hi hlt => by simp at hi; omega), by omega⟩, Same.of c12 (fun i hi => ?_)⟩
   ·rw [hnext, addAll_append]; exact hm12
   ·rcases List.mem_append.1 hi with h | h
    ·have h1 := hnew2 i h
     have h2 : i < w9.heap.size := by
      rcases List.mem_cons.1 h with e | e
      ·omega
      ·exact hlA2 i e
     exact ⟨by omega, by simp; omega⟩
    ·have := hO i h
     exact ⟨by omega, by simp; omega⟩
  ·rintro d2 O2 xs2 w13 hO2 hd2 hxs2 ⟨k, k1, hxs2', k3', k4', k5'⟩ w14 c14
   have hd2' := hO2 d2 hd2
   rw [hxs2'.symm.trans hxs2] at k3'
   have hlook : ∀ p, lookK p (addAll 12 (someL gd (64 * F.se.toNat)) (addAll 10 (someL gm (64 * F.fr.toNat)) l)) = if F.g p = 0 then none else some (F.g p) := fun p => by
    have hl0 : ∀ q : Int × Int, q.1 = 10 ∨ q.1 = 12 → lookK q l = none := fun q hq => lookK_none.2 fun x hx e => by
     have := h9 x hx
     rw [e] at this
     omega
    have hp3 := h3.pages1
    have hp4 := h4.pages1
    rw [addAll_look, addAll_look]
    obtain ⟨c, n⟩ := p
    by_cases e1 : c = 12
    ·subst e1
     rw [h7]
     simp only []
     by_cases e2 : gd n = 0
     ·rw [if_neg (by simp [e2]), if_neg (by omega), hl0 _ (.inr rfl), if_pos e2]
     ·have : 0 ≤ n ∧ n < 64 * F.se := by
       rcases Decidable.em (0 ≤ n ∧ n < 64 * F.se) with h | h
       ·exact h
       ·exact absurd (h4.out (by omega)) e2
      rw [if_pos ⟨trivial, by omega, by omega, e2⟩, if_neg e2]
    ·by_cases e3 : c = 10
     ·subst e3
      rw [h6]
      simp only []
      rw [if_neg (by omega)]
      by_cases e2 : gm n = 0
      ·rw [if_neg (by simp [e2]), hl0 _ (.inl rfl), if_pos e2]
      ·have : 0 ≤ n ∧ n < 64 * F.fr := by
        rcases Decidable.em (0 ≤ n ∧ n < 64 * F.fr) with h | h
        ·exact h
        ·exact absurd (h3.out (by omega)) e2
       rw [if_pos ⟨trivial, by omega, by omega, e2⟩, if_neg e2]
     ·rw [if_neg (by simp only []; omega), if_neg (by simp only []; omega), h8 (c, n) e3 e1]
      cases hl : lookK (c, n) l with
      | none => simp
      | some v =>
       have := h9 _ (lookK_mem hl)
       simp only [Option.getD_some]
       rw [if_neg (by simp only [] at this; omega)]
   have c014 : Chg [] w w14 := k4'.trans c14 (fun i hi hlt => by simp at hi; omega)
   have hmap := k3'.chg c14 (fun hm => by simp at hm; omega)
   refine ⟨_, _, rfl, ⟨hmap, hlook, fun x hx => ?_⟩, c014, Nat.le_refl _⟩
   obtain ⟨_, _, _, _, hnd, _⟩ := hmap
   have hl := (lookK_iff hnd).2 (show (x.1, x.2) ∈ _ from hx)
   rw [addAll_look, addAll_look] at hl
   have hw := h.wide
   obtain ⟨⟨c, n⟩, v⟩ := x
   simp only [] at hl ⊢
   by_cases e1 : c = 12 ∧ 0 ≤ n ∧ n < ((64 * F.se.toNat : Nat) : Int) ∧ gd n ≠ 0
   ·obtain ⟨rfl, e2, e3, e4⟩ := e1
    have hb : boundP F.fr F.se 12 = 64 * F.se := rfl
    exact ⟨by simp, by simp, e2, by simp only []; rw [hb]; omega⟩
   ·rw [if_neg e1] at hl
    by_cases e5 : c = 10 ∧ 0 ≤ n ∧ n < ((64 * F.fr.toNat : Nat) : Int) ∧ gm n ≠ 0
    ·obtain ⟨rfl, e2, e3, e4⟩ := e5
     have hb : boundP F.fr F.se 10 = 64 * F.fr := rfl
     exact ⟨by simp, by simp, e2, by simp only []; rw [hb]; omega⟩
    ·rw [if_neg e5] at hl
     exact (h9 _ (lookK_mem hl)).2.2.1
end Go.Proofs.YtfcfkhbkkfpehaaGreatDoor
end
section
/- Regions that draw their order, in codes that call rounds. -/
namespace Go.XR
open Go Go.X Go.RowKit
section
variable {P : Program} {ops : Array Oper} {Q : Exit → Act → World → Prop} {S : World → Prop} {z : Nat} {ro : Option Nat}
def noDefer (ops : Array Oper) : Bool := ops.toList.all fun o => !isDefer o
theorem noDefer_at {j : Nat} {o : Oper} (h : noDefer ops = true) (hj : ops[j]? = some o) : isDefer o = false := by
 have := List.all_eq_true.1 h o (by rw [Array.getElem?_eq_some_iff] at hj; obtain ⟨hi, rfl⟩ := hj; simp)
 simpa using this
theorem YieldsIf.wpOpIn {i : Nat} {o : Oper} {v : Value} {a : Act} (hi : ops[i]? = some o) (hdf : isDefer o = false) (hy : YieldsIf P ops S o v a)
  {K : Act → World → Prop} {w : World} (hS : S w) (h : K (a.put o.dst v) w) : wpOpIn (FR ro) 0 P ops Q i K a w := by
 unfold Go.wpOpIn
 simp only [hi]
 rcases hy with ⟨hw, hv⟩ | ⟨hw, rfl⟩
 ·simp only [hw, if_true, Oper.wpIn]; rw [semAt_of hdf, hv w hS]; exact ⟨fun _ _ => trivial, h⟩
 ·simp only [hw, Bool.false_eq_true, if_false]; exact ⟨fun _ _ => trivial, h⟩
theorem wpOpIn_putIf {j : Nat} {oi oj : Oper} {v : Value} (hj : ops[j]? = some oj) (hdf : isDefer oj = false) (hap : oi.apart ops oj = true)
  (hsi : ∀ cs b, oi.op ≠ .select cs b) (hsj : ∀ cs b, oj.op ≠ .select cs b)
  (hQ : ∀ c a w, Q (.panic c) (a.put oi.dst v) w → Q (.panic c) a w) {K : Act → World → Prop} {a : Act} {w : World}
  (hy : YieldsIf P ops S oi v a) (h : wpOpIn (FR ro) 0 P ops Q j K (a.put oi.dst v) w) :
  wpOpIn (FR ro) 0 P ops Q j (fun a' w' => YieldsIf P ops S oi v a' ∧ K (a'.put oi.dst v) w') a w := by
 obtain ⟨h1, h2, h3⟩ := Oper.apart_spec hap
 have keep : ∀ (a : Act), YieldsIf P ops S oi v a → ∀ u, YieldsIf P ops S oi v (a.put oj.dst u) := fun a hy u =>
  hy.of_same (execOp_put oi hsi a oj.dst u h3) (wanted_put oi a oj.dst u h3)
 have keepD : ∀ d, YieldsIf P ops S oi v { a with defers := d :: a.defers } := fun d => hy.of_same rfl rfl
 unfold wpOpIn at *
 simp only [hj] at *
 rw [wanted_put oj a oi.dst v h1] at h
 split
 ·rename_i hw
  simp only [hw, if_true] at h
  unfold Oper.wpIn at *
  refine ⟨fun _ _ => trivial, ?_⟩
  have h := h.2
  rw [semAt_of hdf, execOp_put oj hsj a oi.dst v h1] at h
  rw [semAt_of hdf]
  generalize (execOp a.eval oj).run P w = r at *
  cases r with
  | ok x w' =>
   cases x <;> simp only [Oper.uponIn] at h ⊢
   case value u => exact ⟨keep a hy u, by rw [← Act.put_comm a v u h2]; exact h⟩
   case skip => exact ⟨keep a hy _, by rw [← Act.put_comm a v undef h2]; exact h⟩
   case defer d =>
    refine ⟨keep _ (keepD d) _, ?_⟩
    rw [← Act.put_comm _ v undef h2, ← Act.put_defers]
    exact h
   case enter f args =>
    refine ⟨h.1, CallsIn.mono h.2 fun e w'' he => ?_⟩
    cases e with
    | returned u => exact ⟨keep a hy u, by rw [← Act.put_comm a v u h2]; exact he⟩
    | panicked c => exact hQ _ _ _ he
    | outgrown => exact he
   case row row args => exact ⟨h.1, RowsIn.mono h.2 fun u w'' he => ⟨keep a hy u, by rw [← Act.put_comm a v u h2]; exact he⟩⟩
   case round l f tmps assign body =>
    refine ⟨h.1, RoundIn.mono h.2 fun e w'' he => ?_⟩
    cases e with
    | returned u => exact ⟨keep a hy u, by rw [← Act.put_comm a v u h2]; exact he⟩
    | panicked c => exact hQ _ _ _ he
    | outgrown => exact he
  | halt x w' =>
   cases x <;> simp only [Oper.uponIn] at h ⊢
   case panic u => exact hQ _ _ _ h
 ·rename_i hw
  simp only [hw] at h
  exact ⟨fun _ _ => trivial, keep a hy _, by rw [← Act.put_comm a v undef h2]; exact h.2⟩
def AH (ro : Option Nat) (P : Program) (ops : Array Oper) (Q : Exit → Act → World → Prop) (S : World → Prop) (z : Nat) : Nat → Array Bool → Act → World → Prop
 | 0, l, a, w => Region.ready .any ops l = [] ∧ Q .normal a w
 | n + 1, l, a, w => (Region.ready .any ops l = [] → Q .normal a w) ∧
  ∀ i ∈ Region.ready .any ops l, wpOpIn (FR ro) 0 P ops Q i (fun a' w' => ((l.setIfInBounds i true).getD z false = false → S w') ∧ AH ro P ops Q S z n (l.setIfInBounds i true) a' w') a w
theorem AH.any : ∀ (n : Nat) (l : Array Bool) (a : Act) (w : World), AH ro P ops Q S z n l a w → wpAnyIn (FR ro) 0 P .any ops Q n l a w
 | 0, _, _, _, h => h
 | n + 1, _, _, _, h => ⟨h.1, fun i hi => wpOpIn_mono (fun a' w' h' => AH.any n _ a' w' h'.2) (h.2 i hi)⟩
theorem AH.first {S₀ : World → Prop} {i : Nat} {oi : Oper} {v : Value} (hnd : noDefer ops = true) (hi : ops[i]? = some oi) (hsel : ∀ (j : Nat) (o : Oper) cs b, ops[j]? = some o → o.op ≠ .select cs b)
  (hQ : ∀ c a w, Q (.panic c) (a.put oi.dst v) w → Q (.panic c) a w) (hz : i ≠ z)
  (hS₀ : ∀ l w, Shut ops l → l.getD i true = false → (l.getD z false = false → S w) → S₀ w) :
  ∀ (n : Nat) (l : Array Bool) (a : Act) (w : World),
   (∀ j oj, ops[j]? = some oj → j ≠ i → l.getD j true = false → (∀ e ∈ oj.after, Region.binds .any e = true → e.on ≠ i) → oi.apart ops oj = true) →
   Shut ops l → i ∈ Region.ready .any ops l → YieldsIf P ops S₀ oi v a → (l.getD z false = false → S w) → AH ro P ops Q S z n (l.setIfInBounds i true) (a.put oi.dst v) w → AH ro P ops Q S z (n + 1) l a w := by
 intro n
 induction n with
 | zero =>
  intro l a w _ hsh hr hy hS H
  have hpend : l.getD i true = false := (mem_ready.1 hr).1
  refine ⟨fun h => (by rw [h] at hr; cases hr), fun j hj => ?_⟩
  by_cases hji : j = i
  ·subst hji; exact YieldsIf.wpOpIn hi (noDefer_at hnd hi) hy (hS₀ l w hsh hpend hS) ⟨fun h => hS (by rwa [getD_set_ne false hz] at h), H⟩
  ·have hm := ready_mono hj hji
   rw [H.1] at hm; cases hm
 | succ n ih =>
  intro l a w hfree hsh hr hy hS H
  have hpend : l.getD i true = false := (mem_ready.1 hr).1
  refine ⟨fun h => (by rw [h] at hr; cases hr), fun j hj => ?_⟩
  by_cases hji : j = i
  ·subst hji; exact YieldsIf.wpOpIn hi (noDefer_at hnd hi) hy (hS₀ l w hsh hpend hS) ⟨fun h => hS (by rwa [getD_set_ne false hz] at h), H⟩
  ·have h1 := H.2 j (ready_mono hj hji)
   obtain ⟨hjun, oj, hoj, hall⟩ := mem_ready.1 hj
   have hnot : ∀ e ∈ oj.after, Region.binds .any e = true → e.on ≠ i := fun e he hb heq => by
    have h2 := hall e he hb
    rw [heq, getD_both hpend] at h2; cases h2
   have h2 := wpOpIn_putIf hoj (noDefer_at hnd hoj) (hfree j oj hoj hji hjun hnot) (fun cs b => hsel i oi cs b hi) (fun cs b => hsel j oj cs b hoj) hQ hy h1
   refine wpOpIn_mono (fun a' w' h3 => ?_) h2
   obtain ⟨hy', hS', hA'⟩ := h3
   have hS'' : (l.setIfInBounds j true).getD z false = false → S w' := fun h => hS' (by rw [Array.setIfInBounds_comm _ _ (Ne.symm hji), getD_set_ne false hz]; exact h)
   refine ⟨hS'', ih (l.setIfInBounds j true) a' w' (fun k ok hk hki hun hno => hfree k ok hk hki ?_ hno) (hsh.set hj) (ready_mono hr (Ne.symm hji)) hy' hS'' ?_⟩
   ·by_cases hjk : j = k
    ·subst hjk; exact hjun
    ·rw [getD_set_ne true hjk] at hun; exact hun
   ·rw [Array.setIfInBounds_comm _ _ hji]; exact hA'
variable {N : Nat} {D : List Deferred} {E : Env} {w w' : World} {H : Nat → Array Bool → Env → World → Prop} {n : Nat} {l : Array Bool} {i : Nat} {o : Oper} {v : Value}
def HW (ro : Option Nat) (P : Program) (N : Nat) (D : List Deferred) (ops : Array Oper) (Q : Exit → Act → World → Prop) (S : World → Prop) (z : Nat) (n : Nat) (l : Array Bool) (E : Env) (w : World) : Prop :=
 ∀ a, Sat N D E a → Shut ops l → AH ro P ops (NP Q) S z n l a w
theorem CW.drawn {id : Nat} (S : World → Prop) (z : Nat) (hm : P.follows .mixedOrders = true) (h : ∀ H, H = HW ro P N D ops Q S z → H ops.size (Array.replicate ops.size false) E w.drew) :
  CW ro P N D (.region id ops true) Q E w := fun a ha =>
 wpIn_mono (wpIn_region_any hm (AH.any _ _ _ _ (h _ rfl a ha Shut.none))) fun e a w hq => by
  cases e with
  | normal => exact hq
  | _ => exact hq.elim
theorem HW.first {S₀ : World → Prop} (hH : H = HW ro P N D ops Q S z) (ho : ops[i]? = some o) (hc : chk ops z l i = true) (hd : okd N o.dst = true) (hS : l.getD z false = false → S w)
  (hS₀ : ∀ l w, Shut ops l → l.getD i true = false → (l.getD z false = false → S w) → S₀ w)
  (hy : ∀ a, Sat N D E a → YieldsIf P ops S₀ o v a) (k : H n (l.setIfInBounds i true) (putE o.dst v E) w) (hnd : noDefer ops = true := by kernel_rfl) : H (n + 1) l E w := by
 subst hH
 intro a ha hsh
 simp only [chk, Bool.and_eq_true] at hc
 have hr : i ∈ Region.ready .any ops l := by simpa using hc.2.2.1
 have hz : i ≠ z := fun e => by have := hc.2.2.2; subst e; simp at this
 exact AH.first hnd ho (Region.noSelect_spec hc.1) (fun _ _ _ h => h) hz hS₀ n l a w (Region.free_spec ho hc.2.1) hsh hr (hy a ha) hS (k _ (ha.put hd) (hsh.set hr))
theorem HW.take (hH : H = HW ro P N D ops Q S z) (ho : ops[i]? = some o) (hc : chk ops z l i = true) (hcr : chkR ops z i = true) (hw : Wants N ops E o) (hd : okd N o.dst = true) (hS : l.getD z false = false → S w)
  (hv : ∀ a, Sat N D E a → ∀ w, S w → (execOp a.eval o).run P w = .ok (.value v) w) (k : H n (l.setIfInBounds i true) (putE o.dst v E) w) (hnd : noDefer ops = true := by kernel_rfl) : H (n + 1) l E w :=
 HW.first hH ho hc hd hS (chkR_spec hcr) (fun a ha => .inl ⟨hw _ _ ha, hv a ha⟩) k hnd
theorem HW.pure (hH : H = HW ro P N D ops Q S z) (ho : ops[i]? = some o) (hc : chk ops z l i = true) (hw : Wants N ops E o) (hd : okd N o.dst = true) (hS : l.getD z false = false → S w)
  (hv : ∀ a, Sat N D E a → ∀ w, True → (execOp a.eval o).run P w = .ok (.value v) w) (k : H n (l.setIfInBounds i true) (putE o.dst v E) w) (hnd : noDefer ops = true := by kernel_rfl) : H (n + 1) l E w :=
 HW.first (S₀ := fun _ => True) hH ho hc hd hS (fun _ _ _ _ _ => trivial) (fun a ha => .inl ⟨hw _ _ ha, hv a ha⟩) k hnd
theorem HW.skip (hH : H = HW ro P N D ops Q S z) (ho : ops[i]? = some o) (hc : chk ops z l i = true) (hs : Skips N ops E o) (hd : okd N o.dst = true) (hS : l.getD z false = false → S w)
  (k : H n (l.setIfInBounds i true) (putE o.dst undef E) w) (hnd : noDefer ops = true := by kernel_rfl) : H (n + 1) l E w :=
 HW.first (S₀ := fun _ => True) hH ho hc hd hS (fun _ _ _ _ _ => trivial) (fun a ha => .inr ⟨hs _ _ ha, rfl⟩) k hnd
theorem HW.one (hH : H = HW ro P N D ops Q S z) (hr : Region.ready .any ops l = [i]) (ho : ops[i]? = some o) (hw : Wants N ops E o)
  (h : ∀ a, Sat N D E a → Shut ops l → o.wpIn (FR ro) 0 P a w (fun a' w' => ((l.setIfInBounds i true).getD z false = false → S w') ∧ AH ro P ops (NP Q) S z n (l.setIfInBounds i true) a' w') (NP Q)) : H (n + 1) l E w := by
 subst hH
 intro a ha hsh
 refine ⟨fun h0 => (by rw [hr] at h0; cases h0), fun j hj => ?_⟩
 rw [hr] at hj
 have hji : j = i := by simpa using hj
 subst hji
 unfold wpOpIn
 simp only [ho, hw _ _ ha, if_true]
 exact h a ha hsh
theorem HW.val (hH : H = HW ro P N D ops Q S z) (hr : Region.ready .any ops l = [i]) (ho : ops[i]? = some o) (hw : Wants N ops E o) (hd : okd N o.dst = true)
  (hv : ∀ a, Sat N D E a → (execOp a.eval o).run P w = .ok (.value v) w') (hS : (l.setIfInBounds i true).getD z false = false → S w') (k : H n (l.setIfInBounds i true) (putE o.dst v E) w') (hn : isDefer o = false := by rfl) : H (n + 1) l E w :=
 HW.one hH hr ho hw fun a ha hsh => by
  refine ⟨fun _ _ => trivial, ?_⟩
  rw [semAt_of hn, hv a ha, Oper.uponIn_value]
  rw [hH] at k; exact ⟨hS, k _ (ha.put hd) (hsh.set (by rw [hr]; simp))⟩
theorem HW.eff (hH : H = HW ro P N D ops Q S z) (hr : Region.ready .any ops l = [i]) (ho : ops[i]? = some o) (hw : Wants N ops E o) (hd : okd N o.dst = true)
  (hv : ∀ a, Sat N D E a → (execOp a.eval o).run P w = .ok .skip w') (hS : (l.setIfInBounds i true).getD z false = false → S w') (k : H n (l.setIfInBounds i true) (putE o.dst undef E) w') (hn : isDefer o = false := by rfl) : H (n + 1) l E w :=
 HW.one hH hr ho hw fun a ha hsh => by
  refine ⟨fun _ _ => trivial, ?_⟩
  rw [semAt_of hn, hv a ha, Oper.uponIn_skip]
  rw [hH] at k; exact ⟨hS, k _ (ha.put hd) (hsh.set (by rw [hr]; simp))⟩
theorem HW.call {f : Nat} {args : Array Value} {R : Ending → World → Prop} (hH : H = HW ro P N D ops Q S z) (hr : Region.ready .any ops l = [i]) (ho : ops[i]? = some o) (hw : Wants N ops E o) (hd : okd N o.dst = true)
  (hv : ∀ a, Sat N D E a → (execOp a.eval o).run P w = .ok (.enter f args) w') (hc : Calls P f args w' R)
  (k : ∀ e w'', R e w'' → ∃ v, e = .returned v ∧ ((l.setIfInBounds i true).getD z false = false → S w'') ∧ H n (l.setIfInBounds i true) (putE o.dst v E) w'') (hn : isDefer o = false := by rfl) : H (n + 1) l E w :=
 HW.one hH hr ho hw fun a ha hsh => by
  refine ⟨fun _ _ => trivial, ?_⟩
  rw [semAt_of hn, hv a ha, Oper.uponIn_enter]
  refine ⟨fun h => (by cases h), FR.callsIn (hc.mono fun e w'' hR => ?_)⟩
  obtain ⟨v, rfl, hS, hk⟩ := k e w'' hR
  rw [hH] at hk; exact ⟨hS, hk _ (ha.put hd) (hsh.set (by rw [hr]; simp))⟩
theorem HW.skip1 (hH : H = HW ro P N D ops Q S z) (hr : Region.ready .any ops l = [i]) (ho : ops[i]? = some o) (hs : Skips N ops E o) (hd : okd N o.dst = true) (hS : (l.setIfInBounds i true).getD z false = false → S w)
  (k : H n (l.setIfInBounds i true) (putE o.dst undef E) w) : H (n + 1) l E w := by
 subst hH
 intro a ha hsh
 refine ⟨fun h0 => (by rw [hr] at h0; cases h0), fun j hj => ?_⟩
 have hj' := hj
 rw [hr] at hj
 have hji : j = i := by simpa using hj
 subst hji
 unfold wpOpIn
 simp only [ho, hs _ _ ha, Bool.false_eq_true, if_false]
 exact ⟨fun _ _ => trivial, hS, k _ (ha.put hd) (hsh.set hj')⟩
theorem HW.callY {x : Operand} {args : Array Operand} {ts : Array TypeId} {d : Option Nat} {T : TypeId} {p : String} {af : Array Edge} {gd : Option (Nat × Bool)} {fv : Value} {vs : List Value} {R : Ending → World → Prop}
  (hH : H = HW ro P N D ops Q S z) (hr : Region.ready .any ops l = [i]) (ho : ops[i]? = some ⟨d, .call ⟨.value x, args, ts⟩, T, p, af, gd⟩) (hw : Wants N ops E ⟨d, .call ⟨.value x, args, ts⟩, T, p, af, gd⟩) (hd : okd N d = true)
  (hx : opd E x = some fv) (ha' : opdL E args.toList = some vs) (hc : CallsY P fv vs.toArray w R)
  (k : ∀ e w'', R e w'' → ∃ v, e = .returned v ∧ ((l.setIfInBounds i true).getD z false = false → S w'') ∧ H n (l.setIfInBounds i true) (putE d v E) w'') : H (n + 1) l E w := by
 rcases hc with ⟨f, cap, fn, rfl, h2, h3, h4, h5⟩ | ⟨lb, rfl, fn, tmps, as', bd, h2, h3⟩
 ·refine HW.one hH hr ho hw fun a ha hsh => ⟨fun _ _ => trivial, ?_⟩
  rw [semAt_of rfl, Cl.fv hx ha' h2 h3 h4 a ha, Oper.uponIn_enter]
  refine ⟨fun h => (by cases h), FR.callsIn (h5.mono fun e w'' hR => ?_)⟩
  obtain ⟨v, rfl, hS, hk⟩ := k e w'' hR
  rw [hH] at hk; exact ⟨hS, hk _ (ha.put hd) (hsh.set (by rw [hr]; simp))⟩
 ·refine HW.one hH hr ho hw fun a ha hsh => ⟨fun _ _ => trivial, ?_⟩
  have e1 : (execOp a.eval ⟨d, .call ⟨.value x, args, ts⟩, T, p, af, gd⟩).run P w = .ok (.round lb fn tmps as' bd) w := by
   have e2 : args.map a.eval = vs.toArray := opdL_map ha ha'
   simp [execOp, resolve, ha.eval hx, Deferred.ofValue, invoke, e2, h2]
  rw [semAt_of rfl, e1, Oper.uponIn_round]
  refine ⟨fun h => (by cases h), h3.mono fun e w'' hR => ?_⟩
  obtain ⟨v, rfl, hS, hk⟩ := k e w'' hR
  rw [hH] at hk; exact ⟨hS, hk _ (ha.put hd) (hsh.set (by rw [hr]; simp))⟩
def H1 (ro : Option Nat) (P : Program) (N : Nat) (D : List Deferred) (ops : Array Oper) (Q : Exit → Act → World → Prop) (S : World → Prop) (z : Nat) (n : Nat) (l : Array Bool) (i : Nat) (E : Env) (w : World) : Prop :=
 i ∈ Region.ready .any ops l → ∀ a, Sat N D E a → Shut ops l → wpOpIn (FR ro) 0 P ops (NP Q) i (fun a' w' => ((l.setIfInBounds i true).getD z false = false → S w') ∧ AH ro P ops (NP Q) S z n (l.setIfInBounds i true) a' w') a w
theorem HW.two {j : Nat} (hH : H = HW ro P N D ops Q S z) (hr : Region.ready .any ops l = [i, j]) (h1 : H1 ro P N D ops Q S z n l i E w) (h2 : H1 ro P N D ops Q S z n l j E w) : H (n + 1) l E w := by
 subst hH
 intro a ha hsh
 refine ⟨fun h0 => (by rw [hr] at h0; cases h0), fun k hk => ?_⟩
 have hk' := hk
 rw [hr] at hk
 rcases List.mem_cons.1 hk with rfl | hk
 ·exact h1 hk' a ha hsh
 ·have : k = j := by simpa using hk
  subst this
  exact h2 hk' a ha hsh
theorem H1.val (hH : H = HW ro P N D ops Q S z) (ho : ops[i]? = some o) (hw : Wants N ops E o) (hd : okd N o.dst = true)
  (hv : ∀ a, Sat N D E a → (execOp a.eval o).run P w = .ok (.value v) w') (hS : (l.setIfInBounds i true).getD z false = false → S w') (k : H n (l.setIfInBounds i true) (putE o.dst v E) w') (hn : isDefer o = false := by rfl) : H1 ro P N D ops Q S z n l i E w := by
 intro hr a ha hsh
 unfold wpOpIn
 simp only [ho, hw _ _ ha, if_true, Oper.wpIn]
 rw [semAt_of hn, hv a ha, Oper.uponIn_value]
 rw [hH] at k; exact ⟨fun _ _ => trivial, hS, k _ (ha.put hd) (hsh.set hr)⟩
theorem H1.call {f : Nat} {args : Array Value} {R : Ending → World → Prop} (hH : H = HW ro P N D ops Q S z) (ho : ops[i]? = some o) (hw : Wants N ops E o) (hd : okd N o.dst = true)
  (hv : ∀ a, Sat N D E a → (execOp a.eval o).run P w = .ok (.enter f args) w') (hc : Calls P f args w' R)
  (k : ∀ e w'', R e w'' → ∃ v, e = .returned v ∧ ((l.setIfInBounds i true).getD z false = false → S w'') ∧ H n (l.setIfInBounds i true) (putE o.dst v E) w'') (hn : isDefer o = false := by rfl) : H1 ro P N D ops Q S z n l i E w := by
 intro hr a ha hsh
 unfold wpOpIn
 simp only [ho, hw _ _ ha, if_true, Oper.wpIn]
 rw [semAt_of hn, hv a ha, Oper.uponIn_enter]
 refine ⟨fun _ _ => trivial, fun h => (by cases h), FR.callsIn (hc.mono fun e w'' hR => ?_)⟩
 obtain ⟨v, rfl, hS, hk⟩ := k e w'' hR
 rw [hH] at hk; exact ⟨hS, hk _ (ha.put hd) (hsh.set hr)⟩
theorem HW.done (hH : H = HW ro P N D ops Q S z) (hr : Region.ready .any ops l = []) (k : NW N D Q E w) : H n l E w := by
 subst hH
 intro a ha _
 cases n with
 | zero => exact ⟨hr, k a ha⟩
 | succ n => exact ⟨fun _ => k a ha, by rw [hr]; simp⟩
theorem HW.sub (hH : H = HW ro P N D ops Q S z) {F : Env} (s : Sub E F) (k : H n l E w) : H n l F w := by
 subst hH; exact fun a ha => k a (ha.sub s)
end
end Go.XR
end
section
namespace Go.Proofs.YtfcfkhbkkfpehaaGreatDoor
open Go Go.X
/- (*pomander/flow.Flow).All$1 -/
def W_flow_Flow_All_1 (yield1 : Value) (cap1 : Addr) (w : World) (R : World → Prop) : Prop :=
 ∃ (t1 : Option Nat), w.cell? cap1 = some (.map t1) ∧ (Calls Tryz.prog 52 #[.map t1] w fun e w1 => ∃ (r1 : Value), e = .returned (r1) ∧ (Calls Tryz.prog 30 #[r1, .func (.func 53) #[] #[]] w1 fun e w2 => ∃ (r2 : Option Addr) (r2n : Nat) (r2c : Nat), e = .returned (.slice r2 r2n r2c) ∧ (∃ (I1 : Int → World → Prop) (m1 : Int → World → Nat), I1 0 w2 ∧ ∀ (x1 : Int) (w3 : World), I1 x1 w3 → ((decide (x1 < (r2n : Int))) = true → ∃ a1 : Addr, r2 = some a1 ∧ (0 : Int) ≤ x1 ∧ x1 < (r2n : Int) ∧ (∃ (t2 : Int) (t3 : Int), CellsAt w3 (a1.add (Int.toNat x1 * 2)) 0 [.int .i64 t2, .int .i64 t3] ∧ (∀ (b1 : Nat) (w6 : World), (w3.heap.size ≤ b1 ∧ b1 < w6.heap.size) → Chg [] w3 w6 → (∃ (t4 : Option Nat), w6.cell? cap1 = some (.map t4) ∧ (∃ (v1 : Int), (Instr.lookup 99 (.map t4) (.agg #[.int .i64 t2, .int .i64 t3]) false).run Tryz.prog w6 = .ok (.int .u32 v1) w6 ∧ (XR.CallsY Tryz.prog yield1 #[.agg #[.int .i64 t2, .int .i64 t3], .int .u32 v1] w6 fun e w7 => ∃ (r3 : Bool), e = .returned (.bool r3) ∧ (((!r3) = true → R w7) ∧ ((!r3) = false → (I1 (IntKind.wrap .i64 (x1 + 1)) w7 ∧ m1 (IntKind.wrap .i64 (x1 + 1)) w7 < m1 x1 w3))))))))) ∧ ((decide (x1 < (r2n : Int))) = false → R w3))))
set_option maxRecDepth 100000 in
theorem go_flow_Flow_All_1 (yield1 : Value) (cap1 : Addr) (w : World) (R : World → Prop) (h : W_flow_Flow_All_1 yield1 cap1 w R) : Calls Tryz.prog 51 #[yield1, .pointer (some cap1)] w (fun e w' => e = .returned (.tuple #[]) ∧ R w') := by
 unfold W_flow_Flow_All_1 at h
 refine enter (N := 21) Tryz.func51 rfl rfl ?_
 refine CW.seq ?_
 refine CW.region fun L hL => ?_
 obtain ⟨t1, hc1, h⟩ := h
 refine LW.rd hL rfl (Wants.free rfl) rfl (Rd.ld (v := .map t1) rfl (by kernel_rfl) (eqs hc1)) ?_
 refine LW.call hL rfl (Wants.free rfl) rfl (Cl.fn (f := 52) rfl Tryz.func52 (by kernel_rfl) rfl) h (fun e w1 h_ => ?_)
 clear h
 obtain ⟨r1, rfl, h⟩ := h_
 refine ⟨_, rfl, ?_⟩
 refine LW.call hL rfl (Wants.free rfl) rfl (Cl.fn (f := 30) rfl Tryz.func30 (by kernel_rfl) rfl) h (fun e w2 h_ => ?_)
 clear h
 obtain ⟨r2, r2n, r2c, rfl, h⟩ := h_
 refine ⟨_, rfl, ?_⟩
 refine LW.rd hL rfl (Wants.free rfl) rfl (Rd.builtin (v := .int .i64 (r2n : Int)) rfl (fun _ _ => by kernel_rfl)) ?_
 refine LW.rd hL rfl (Wants.free rfl) rfl (Rd.move (v := .int .i64 0) rfl) ?_
 refine LW.nil hL rfl ?_
 refine NW.then ?_
 refine CW.block ?_
 obtain ⟨I1, m1, hI1, h⟩ := h
 refine CW.loop (S := Int) (fun x1 => [(0, yield1), (1, .pointer (some cap1)), (7, .slice r2 r2n r2c), (8, .int .i64 (r2n : Int)), (9, .int .i64 x1)]) (fun x1 w3 => I1 x1 w3) (fun x1 w3 => m1 x1 w3) 0 (by exact ⟨rfl, rfl, rfl, rfl, rfl, trivial⟩) hI1 (fun x1 w3 hI1 => ?_)
 replace h := h x1 w3 hI1
 refine CW.seq ?_
 refine CW.region fun L hL => ?_
 refine LW.rd hL rfl (Wants.free rfl) rfl (Rd.bin (v := .bool (decide (x1 < (r2n : Int)))) rfl rfl (fun w => by kernel_rfl)) ?_
 refine LW.nil hL rfl ?_
 refine NW.then ?_
 refine CW.seq ?_
 refine CW.cond rfl (fun hb1 => ?_) (fun hb1 => ?_)
 ·replace h := h.1 hb1
  refine CW.skip ?_
  refine NW.then ?_
  refine CW.seq ?_
  refine CW.block ?_
  refine CW.seq ?_
  refine CW.region fun L hL => ?_
  obtain ⟨a1, he1, hi1, hi2, h⟩ := h
  refine LW.rd hL rfl (Wants.free rfl) rfl (Rd.iaS (q := a1) (sz := 2) (by rw [← he1]; rfl) rfl Tryz.underlying34 (by kernel_rfl) hi1 hi2) ?_
  obtain ⟨t2, t3, hc2, h⟩ := h
  refine LW.rd hL rfl (Wants.free rfl) rfl (Rd.ldN (cs := [.int .i64 t2, .int .i64 t3]) rfl (by kernel_rfl) (by kernel_rfl) (cellsS hc2)) ?_
  obtain ⟨b1, hb_b1⟩ : ∃ b1, b1 = World.size w3 := ⟨_, rfl⟩
  obtain ⟨w4, hw_w4⟩ : ∃ w4, w4 = World.alloc w3 (.cells #[.int .i64 0, .int .i64 0] 25) := ⟨_, rfl⟩
  refine LW.val hL rfl (Wants.free rfl) rfl (boxE hb_b1 hw_w4 (Vl.alloc (z := .agg #[.int .i64 0, .int .i64 0]) (by kernel_rfl))) ?_
  have hB := Boxes.alloc (cs := [.int .i64 0, .int .i64 0]) (T := 25) (Boxes.nil w3) hb_b1 hw_w4
  have hlo_b1 := sil_lo (Chg.refl [] w3) hb_b1
  have hc_w4 := sil_alloc (Chg.refl [] w3) hw_w4
  obtain ⟨w5, hw_w5⟩ : ∃ x, x = setCells w4 (⟨b1, 0, none⟩ : Addr) 0 [.int .i64 t2, .int .i64 t3] := ⟨_, rfl⟩
  refine LW.eff hL rfl (Wants.free rfl) rfl (stNE hw_w5 (Ef.stN (cs := [.int .i64 t2, .int .i64 t3]) rfl rfl (by kernel_rfl) (List.forall_mem_cons.2 ⟨rfl, (List.forall_mem_cons.2 ⟨rfl, (List.forall_mem_nil _)⟩)⟩) (has_of (hB.at (i := 0) rfl) (by simp)) (free_of' (hB.at (i := 0) rfl)))) ?_
  replace hB : Boxes w5 [(b1, [.int .i64 t2, .int .i64 t3], 25)] := Boxes.store (vs := [.int .i64 t2, .int .i64 t3]) (i := 0) (o := 0) hB rfl rfl rfl rfl hw_w5
  have hc_w5 := sil_new hc_w4 (sil_cN hw_w5) hlo_b1
  refine LW.nil hL rfl ?_
  refine NW.then ?_
  refine CW.seq ?_
  refine XR.CW.un ?_
  obtain ⟨w6, hw_w6⟩ : ∃ x, x = World.drew w5 := ⟨_, rfl⟩
  have hc_w6 := sil_drew hc_w5 hw_w6
  replace hB := hB.drew hw_w6
  refine XR.CW.drawn (fun w => w = w6) 5 (by kernel_rfl) fun H hH => ?_
  rw [← hw_w6]
  refine XR.HW.pure (i := 0) hH rfl (by kernel_rfl) (Wants.free rfl) rfl (fun _ => rfl) (Rd.move (v := yield1) rfl) ?_
  refine XR.HW.take (i := 1) hH rfl (by kernel_rfl) (by kernel_rfl) (Wants.free rfl) rfl (fun _ => rfl) (Rd.ldN (cs := [.int .i64 t2, .int .i64 t3]) rfl (by kernel_rfl) (by kernel_rfl) (cellsS (box_cells (hB.at (i := 0) rfl) rfl))) ?_
  replace h := h b1 w6 ⟨hlo_b1, lt_of_heap (hB.at (i := 0) rfl)⟩ hc_w6
  obtain ⟨t4, hc3, h⟩ := h
  refine XR.HW.take (i := 2) hH rfl (by kernel_rfl) (by kernel_rfl) (Wants.free rfl) rfl (fun _ => rfl) (Rd.ld (v := .map t4) rfl (by kernel_rfl) (eqs hc3)) ?_
  refine XR.HW.take (i := 3) hH rfl (by kernel_rfl) (by kernel_rfl) (Wants.free rfl) rfl (fun _ => rfl) (Rd.ldN (cs := [.int .i64 t2, .int .i64 t3]) rfl (by kernel_rfl) (by kernel_rfl) (cellsS (box_cells (hB.at (i := 0) rfl) rfl))) ?_
  obtain ⟨v1, hl1, h⟩ := h
  refine XR.HW.take (i := 4) hH rfl (by kernel_rfl) (by kernel_rfl) (Wants.free rfl) rfl (fun _ => rfl) (Rd.lookup (v := .int .u32 v1) rfl rfl (fun _ e => e ▸ hl1)) ?_
  refine XR.HW.callY (i := 5) hH (by kernel_rfl) rfl (Wants.free rfl) rfl rfl rfl h (fun e w7 h_ => ?_)
  clear h
  obtain ⟨r3, rfl, h⟩ := h_
  refine ⟨_, rfl, (fun hc => by cases hc), ?_⟩
  refine XR.HW.pure (i := 6) hH rfl (by kernel_rfl) (Wants.free rfl) rfl (fun hc => by cases hc) (Rd.un (v := .bool (!r3)) rfl (fun _ => by kernel_rfl)) ?_
  refine XR.HW.done hH (by kernel_rfl) ?_
  refine NW.then ?_
  refine CW.cond rfl (fun hb2 => ?_) (fun hb2 => ?_)
  ·replace h := h.1 hb2
   refine CW.ret ?_
   refine RW.block ?_
   refine RW.then ?_
   refine RW.then ?_
   refine RW.block ?_
   exact res0 rfl ⟨rfl, h⟩
  ·replace h := h.2 hb2
   refine CW.skip ?_
   refine NW.block ?_
   refine NW.then ?_
   refine CW.region fun L hL => ?_
   refine LW.rd hL rfl (Wants.free rfl) rfl (Rd.bin (v := .int .i64 (IntKind.wrap .i64 (x1 + 1))) rfl rfl (fun w => by kernel_rfl)) ?_
   refine LW.rd hL rfl (Wants.free rfl) rfl (Rd.move (v := .int .i64 (IntKind.wrap .i64 (x1 + 1))) rfl) ?_
   refine LW.nil hL rfl ?_
   exact NW.loop (S := Int) (Ek := fun x1 => [(0, yield1), (1, .pointer (some cap1)), (7, .slice r2 r2n r2c), (8, .int .i64 (r2n : Int)), (9, .int .i64 x1)]) (IntKind.wrap .i64 (x1 + 1)) (by exact ⟨rfl, rfl, rfl, rfl, rfl, trivial⟩) h
 ·replace h := h.2 hb1
  refine CW.exit ?_
  refine XW.then ?_
  refine XW.then ?_
  refine XW.hit ?_
  exact res0n rfl (by exact ⟨rfl, h⟩)
end Go.Proofs.YtfcfkhbkkfpehaaGreatDoor
end
section
/- Flows: All. -/
namespace Go.Proofs.YtfcfkhbkkfpehaaGreatDoor
open Go Go.RowKit Go.X Go.XR
theorem places_len (N : Nat) : ∀ K : Nat, ((List.range K).flatMap fun k : Nat => (List.range N).map fun n : Nat => ((k : Int), (n : Int))).length = K * N
 | 0 => by simp
 | K + 1 => by
  rw [List.range_succ, List.flatMap_append, List.length_append, places_len N K]
  simp [Nat.add_mul]
theorem keys_len {F : Fl} (hf : F.fr ≤ 32) (hs : F.se ≤ 32) {l : List (Int × Int)} (hn : l.Nodup) (h : ∀ p ∈ l, mayP F.fr F.se p) : l.length ≤ 1000000000000 := by
 have := nodup_sub_length hn (b := (List.range 18).flatMap fun k : Nat => (List.range 2147483648).map fun n : Nat => ((k : Int), (n : Int))) fun p hp => by
  obtain ⟨a, b, c, d⟩ := h p hp
  have hb : boundP F.fr F.se p.1 ≤ 2147483648 := by
   unfold boundP
   repeat' split
   all_goals omega
  exact List.mem_flatMap.2 ⟨p.1.toNat, List.mem_range.2 (by omega), List.mem_map.2 ⟨p.2.toNat, List.mem_range.2 (by omega), Prod.ext (by simp only []; omega) (by simp only []; omega)⟩⟩
 rw [places_len] at this
 omega
def tell (F : Fl) (p : Int × Int) : Int × Int × Int := (p.1, p.2, F.g p)
def fullF (F : Fl) (ys : List (Int × Int)) : Prop := ys.Pairwise ltPl ∧ ∀ p, p ∈ ys ↔ F.g p ≠ 0 ∧ mayP F.fr F.se p
def allF (F : Fl) (xs : List (Int × Int × Int)) : Prop := ∃ ys, fullF F ys ∧ xs = ys.map (tell F)
def allFp (F : Fl) (pre : List (Int × Int × Int)) : Prop := ∃ ys suf, fullF F ys ∧ pre ++ suf = ys.map (tell F)
theorem isFn100 (cb : Nat) : IsFn Tryz.prog (.func (.func 51) #[] #[.pointer (some ⟨cb, 0, none⟩)]) := ⟨51, Tryz.f51, _, rfl, Tryz.func51, by kernel_rfl, by kernel_rfl⟩
theorem iterates_flow {w : World} {cb m : Nat} {F : Fl} {L : List ((Int × Int) × Int)} (hcb : w.heap[cb]? = some (.cells #[.map (some m)] 99 (0, 0))) (h : AllIs w m F L) (hf : F.fr ≤ 32) (hs : F.se ≤ 32) :
  Iterates Tryz.prog (.func (.func 51) #[] #[.pointer (some ⟨cb, 0, none⟩)]) (fun x : Int × Int × Int => #[.agg #[.int .i64 x.1, .int .i64 x.2.1], .int .u32 x.2.2]) (allF F) (allFp F) [cb, m] w := by
 intro W yv I Ix hW hI hIx h0 hround
 refine ⟨51, #[.pointer (some ⟨cb, 0, none⟩)], Tryz.f51, rfl, Tryz.func51, by kernel_rfl, by kernel_rfl, ?_⟩
 have hcW := hW.obj (by simp) hcb
 have hmW := h.map.chg hW (by simp)
 have hlm := hmW.lt
 have hlcb := lt_of_heap hcW
 refine (go_flow_Flow_All_1 yv ⟨cb, 0, none⟩ W (fun w' => ∃ Own, InO W Own w' ∧ ((∃ xs, allF F xs ∧ I Own xs w') ∨ ∃ pre, allFp F pre ∧ Ix Own pre w')) ?_).mono (fun e w' h => ⟨⟨_, h.1⟩, h.2⟩)
 unfold W_flow_Flow_All_1
 refine ⟨_, by rw [cell_of hcW]; rfl, ?_⟩
 refine (maps_pkeys W (some m)).mono ?_
 rintro _ w2 ⟨_, rfl, kb, rfl, ekb, hkb, c2⟩
 have s2 := c2.size
 have hkl := lt_of_heap hkb
 refine ⟨_, rfl, ?_⟩
 have hnd : (L.map Prod.fst).Nodup := by obtain ⟨_, _, _, _, hnd, _⟩ := h.map; exact hnd
 refine (sorted_places (isFn121 kb) (iterates_pkeys hkb (hmW.chg c2 (by simp))) (by simp; omega) (fun pre hp => ?_) (fun xs ⟨d, e, n, a, _⟩ => ⟨d, e, n, a⟩)).mono ?_
 ·obtain ⟨d, rfl, n, a⟩ := hp
  exact keys_len hf hs n fun p hp => by obtain ⟨x, hx, rfl⟩ := List.mem_map.1 hp; exact h.may x (a x hx)
 rintro _ w3 ⟨p, n, c, rfl, xs, ys, hS, hperm, hsort, hn, hr, c3, hp⟩
 have s3 := c3.size
 obtain ⟨done, rfl, d1, d2, d3⟩ := hS
 have hmem : ∀ q, q ∈ ys ↔ F.g q ≠ 0 ∧ mayP F.fr F.se q := fun q => by
  rw [hperm.mem_iff]
  constructor
  ·intro hq
   obtain ⟨x, hx, rfl⟩ := List.mem_map.1 hq
   refine ⟨fun e => ?_, h.may x (d2 x hx)⟩
   have := h.look x.1
   rw [if_pos e] at this
   exact lookK_none.1 this x (d2 x hx) rfl
  ·rintro ⟨hq, _⟩
   have := h.look q
   rw [if_neg hq] at this
   exact List.mem_map.2 ⟨(q, F.g q), d3 _ (lookK_mem this), rfl⟩
 have hyn : ys.Nodup := hperm.nodup_iff.2 d1
 have hfull : fullF F ys := ⟨(hsort.and hyn).imp fun {a b} hab => by
  have h1 := hab.1
  have h2 := hab.2
  unfold ltPl at *
  rcases Decidable.em (a.1 = b.1) with e1 | e1
  ·rcases Decidable.em (a.2 = b.2) with e2 | e2
   ·exact absurd (Prod.ext e1 e2) h2
   ·omega
  ·omega, hmem⟩
 have hyl : ys.length ≤ 1000000000000 := keys_len hf hs hyn fun p hp => ((hmem p).1 hp).2
 refine ⟨p, n, c, rfl, ?_⟩
 have c03 : Chg [] W w3 := c2.trans0 c3
 have hO : ∀ {A : World}, w3.heap.size ≤ A.heap.size → InO W (rowB p) A := fun hA i hi => ⟨by have := hp i hi; omega, by have := hr.lt i hi; omega⟩
 have hI3 := hI [] [] (rowB p) W w3 h0 (by intro i hi; cases hi) c03 (hO (Nat.le_refl _)) (fun i hi => .inr (by have := hp i hi; omega))
 refine ⟨fun x1 w4 => ∃ j : Nat, x1 = j ∧ j ≤ n ∧ I (rowB p) ((ys.take j).map (tell F)) w4 ∧ Same w3 w4 ([cb, m] ++ rowB p) ∧ w3.heap.size ≤ w4.heap.size, fun x1 _ => n - x1.toNat,
  ⟨0, rfl, Nat.zero_le _, hI3, Same.refl _ _, Nat.le_refl _⟩, ?_⟩
 rintro x1 w4 ⟨j, rfl, hj, hI4, hs4, s4⟩
 refine ⟨fun hlt => ?_, fun hge => ?_⟩
 ·have hlt' : j < n := by have := of_decide_eq_true hlt; omega
  have hjl : j < ys.length := by omega
  obtain ⟨k, hk⟩ : ∃ k, ys[j]? = some k := ⟨_, List.getElem?_eq_getElem hjl⟩
  have hkm := (hmem k).1 (List.mem_of_getElem? hk)
  obtain ⟨g0, g1⟩ := flat_get2 ys j k hk
  obtain ⟨a, rfl, hc0⟩ := RowAt.at hr g0
  obtain ⟨a', e, hc1⟩ := RowAt.at hr g1
  cases e
  have ha : ∃ g, a = ⟨g, 0, none⟩ := by
   rcases hr.2 with ⟨hv, _⟩ | ⟨g, _, _, hv, _⟩
   ·cases hv
   ·cases hv; exact ⟨g, rfl⟩
  obtain ⟨ga, rfl⟩ := ha
  have hsb : w4.heap[(⟨ga, 0, none⟩ : Addr).block]? = w3.heap[(⟨ga, 0, none⟩ : Addr).block]? := hs4 _ (by simp [rowB])
  have ej : Int.toNat (j : Int) * 2 = j * 2 := by omega
  rw [ej]
  refine ⟨_, rfl, by omega, by omega, k.1, k.2, ⟨?_, ?_, trivial⟩, ?_⟩
  ·rw [add_at, add_at, Nat.add_zero]
   rw [add_at] at hc0
   exact same_cell hsb hc0
  ·rw [add_at, add_at]
   rw [add_at] at hc1
   exact same_cell hsb (by rw [show 0 + j * 2 + (0 + 1) = 0 + (j * 2 + 1) by omega]; exact hc1)
  rintro b1 w6 ⟨q1, q2⟩ c6
  have s6 := c6.size
  have hlk : ∀ x ∈ [cb, m] ++ rowB (some ⟨ga, 0, none⟩), x < w4.heap.size := fun x hx => by
   rcases List.mem_append.1 hx with hx | hx
   ·have h1 := c2.size; have h2 := c3.size
    simp at hx
    rcases hx with e | e <;> subst e <;> omega
   ·have := hr.lt x hx; omega
  have hs6 : Same w3 w6 ([cb, m] ++ rowB (some ⟨ga, 0, none⟩)) := fun x hx => (c6.block x (hlk x hx) (by simp)).trans (hs4 x hx)
  have hcb6 := (hs6 cb (by simp)).trans (c03.obj (by simp) hcW)
  have hm6 : MapIs w6 m encP (fun n : Int => .int .u32 n) L := by
   obtain ⟨es, clk, m1, m2⟩ := hmW.chg c03 (by simp)
   exact ⟨es, clk, (hs6 m (by simp)).trans m1, m2⟩
  have hlook := hm6.lookup (P := Tryz.prog) (T := 99) u143 keyPlace (z := .int .u32 0) (fun _ => by kernel_rfl) k false
  rw [h.look, if_neg hkm.1] at hlook
  refine ⟨some m, by rw [cell_of hcb6]; rfl, F.g k, by rw [show (.agg #[.int .i64 k.1, .int .i64 k.2] : Value) = encP k from rfl, hlook]; rfl, ?_⟩
  have hI6 := hI ((ys.take j).map (tell F)) (rowB (some ⟨ga, 0, none⟩)) (rowB (some ⟨ga, 0, none⟩)) w4 w6 hI4 (hO s4) c6.nil (hO (by omega)) (fun i hi => .inl hi)
  have htake : ys.take (j + 1) = ys.take j ++ [k] := by rw [List.take_add_one, hk]; rfl
  have hpre : allFp F ((ys.take j).map (tell F) ++ [tell F k]) := ⟨ys, (ys.drop (j + 1)).map (tell F), hfull, by
   rw [show [tell F k] = [k].map (tell F) from rfl, ← List.map_append, ← htake, ← List.map_append, List.take_append_drop]⟩
  refine (hround (rowB (some ⟨ga, 0, none⟩)) _ (tell F k) w6 (hO (by omega)) hpre hI6).mono ?_
  have ew1 : IntKind.wrap .i64 ((j : Int) + 1) = ((j + 1 : Nat) : Int) := by rw [wr (by omega) (by omega)]; omega
  rintro e w7 ⟨s7, ⟨rfl, hI7, hs7⟩ | ⟨rfl, hx7⟩⟩
  ·refine ⟨true, rfl, fun h => by simp at h, fun _ => ⟨⟨j + 1, ew1, by omega, ?_, fun x hx => (hs7 x hx).trans (hs6 x hx), by omega⟩, by rw [ew1]; simp only []; omega⟩⟩
   rw [htake, List.map_append]; exact hI7
  ·exact ⟨false, rfl, fun _ => ⟨rowB (some ⟨ga, 0, none⟩), hO (by omega), .inr ⟨_, hpre, hx7⟩⟩, fun h => by simp at h⟩
 ·have : j = n := by have := of_decide_eq_false hge; omega
  subst this
  rw [List.take_of_length_le (by omega)] at hI4
  exact ⟨rowB p, hO s4, .inl ⟨_, ⟨ys, hfull, rfl⟩, hI4⟩⟩
theorem flow_all {w : World} {b : Nat} {F : Fl} {fp : List Nat} (h : FlowAt w b F fp) :
  Calls Tryz.prog 28 #[.pointer (some ⟨b, 0, none⟩)] w fun e w' => ∃ r : Value, e = .returned r ∧ ∃ cb m L, r = .func (.func 51) #[] #[.pointer (some ⟨cb, 0, none⟩)] ∧ w'.heap[cb]? = some (.cells #[.map (some m)] 99 (0, 0)) ∧ AllIs w' m F L ∧ Chg [] w w' ∧ w.heap.size ≤ cb ∧ w.heap.size ≤ m := by
 refine go_flow_Flow_All _ _ _ ?_
 unfold W_flow_Flow_All
 refine v_alloc fun b1 w1 e1 hb1 c1 => ?_
 refine v_alloc fun b2 w2 e2 hb2 c2 => ?_
 have s1 := c1.size
 have s2 := c2.size
 have l2 := lt_of_heap hb2
 refine v_set0 hb2 (by simp) fun w3 hb3 c3 s3 => ?_
 have c03 : Chg [] w w3 := (c1.trans0 c2).trans c3 (fun i hi hlt => by simp at hi; omega)
 have h3 := h.chg c03 (by simp)
 refine ⟨fun w' => ∃ m L, w'.heap[b2]? = some (.cells #[.map (some m)] 99 (0, 0)) ∧ AllIs w' m F L ∧ Chg [] w w' ∧ w.heap.size ≤ m, ?_, ?_⟩
 ·rintro w4 ⟨m, L, k1, k2, k3, k4⟩
  exact ⟨b2, m, L, rfl, k1, k2, k3, by omega, k4⟩
 refine (flow_none h3).mono ?_
 rintro _ w5 ⟨_, rfl, rfl, hw⟩
 subst w5
 refine ⟨_, rfl, fun _ => ?_, fun h => by simp at h⟩
 refine (flow_all_map h3).mono ?_
 rintro _ w6 ⟨_, rfl, m, L, rfl, hA, c6, hm⟩
 refine ⟨_, rfl, ?_⟩
 refine v_set0 (c6.obj (by simp) hb3) (by simp) fun w7 hb7 c7 s7 => ?_
 have hmne : m ≠ b2 := by have := c03.size; omega
 exact ⟨m, L, hb7, ⟨hA.map.chg c7 (by simp; omega), hA.look, hA.may⟩, (c03.trans0 c6).trans c7 (fun i hi hlt => by simp at hi; omega), by have := c03.size; omega⟩
end Go.Proofs.YtfcfkhbkkfpehaaGreatDoor
end
section
namespace Go.Proofs.YtfcfkhbkkfpehaaGreatDoor
open Go Go.X
end Go.Proofs.YtfcfkhbkkfpehaaGreatDoor
end
section
namespace Go.Proofs.YtfcfkhbkkfpehaaGreatDoor
open Go Go.X
end Go.Proofs.YtfcfkhbkkfpehaaGreatDoor
end
section
/- Flows that are the same: slices.Equal, labels.Same, maps.Equal, flow.Same. -/
namespace Go.Proofs.YtfcfkhbkkfpehaaGreatDoor
open Go Go.RowKit Go.X Go.XR
end Go.Proofs.YtfcfkhbkkfpehaaGreatDoor
end
section
/- Pages of sets, the sets that are kept: the flow's, the document's. -/
namespace Go.Proofs.YtfcfkhbkkfpehaaGreatDoor
open Go Go.RowKit Go.X Go.XR
/-! ### The document's pages -/
end Go.Proofs.YtfcfkhbkkfpehaaGreatDoor
end
section
/- Small lemmas of several laws. -/
namespace Go.Proofs.YtfcfkhbkkfpehaaGreatDoor
open Go Go.RowKit Go.X
end Go.Proofs.YtfcfkhbkkfpehaaGreatDoor
end
section
/- The law's helper same: a flow has just the document's sets. -/
namespace Go.Proofs.YtfcfkhbkkfpehaaGreatDoor
open Go Go.RowKit Go.X Go.XR
theorem good_full {F : Fl} {R : Rf} (hrel : RelF F R) (hg : Good R.fr R.se R.pairs) {ys : List (Int × Int)} (hf : fullF F ys) : R.pairs = ys.map fun p => (p, F.g p) := by
 have hk : R.pairs.map Prod.fst = ys := by
  refine eq_of_rising hg.rise (hf.1.imp fun h => h) fun p => ?_
  rw [hf.2, hg.look, hrel.look]
  refine ⟨fun h => ⟨h, ?_⟩, fun h => h.1⟩
  have hm : p ∈ R.pairs.map Prod.fst := by rw [hg.look, hrel.look]; exact h
  obtain ⟨x, hx, rfl⟩ := List.mem_map.1 hm
  have := (hg.each x hx).2
  rwa [hrel.fr, hrel.se] at this
 have := hg.eq
 rw [hk] at this
 rw [this]
 exact List.map_congr_left fun p _ => by rw [hrel.look]
end Go.Proofs.YtfcfkhbkkfpehaaGreatDoor
end
section
/- A law's loop over acts: a flow and the document's, step by step. -/
namespace Go.Proofs.YtfcfkhbkkfpehaaGreatDoor
open Go Go.RowKit Go.X Go.XR
structure LoopAt (w0 w : World) (B : List Nat) (bf : Nat) (F : Fl) (R : Rf) (p4 : Option Addr) (n4 c4 : Nat) (p5 : Option Addr) (n5 c5 : Nat) (fp : List Nat) : Prop where
 flow : FlowAt w bf F fp
 ref : RefAt w R p4 n4 c4 p5 n5 c5
 rel : RelF F R
 good : Good R.fr R.se R.pairs
 chg : Chg [] w0 w
 fresh : ∀ i ∈ fp, w0.heap.size ≤ i
 freshR : ∀ i ∈ rowB p4 ++ rowB p5, w0.heap.size ≤ i
 rows : ∀ i ∈ rowB p4 ++ rowB p5, i ∉ fp
 own : ∀ b ∈ B, b < w.heap.size ∧ b ∉ fp ∧ b ∉ rowB p4 ++ rowB p5
section
variable {w0 w w' : World} {B : List Nat} {bf : Nat} {F : Fl} {R : Rf} {p4 p5 : Option Addr} {n4 c4 n5 c5 : Nat} {fp : List Nat}
theorem LoopAt.rlt (h : LoopAt w0 w B bf F R p4 n4 c4 p5 n5 c5 fp) : ∀ i ∈ rowB p4 ++ rowB p5, i < w.heap.size := fun i hi => (List.mem_append.1 hi).elim (h.ref.sets.lt i) (h.ref.pairs.lt i)
theorem LoopAt.later (h : LoopAt w0 w B bf F R p4 n4 c4 p5 n5 c5 fp) (hc : Chg [] w w') : LoopAt w0 w' B bf F R p4 n4 c4 p5 n5 c5 fp :=
 ⟨h.flow.chg hc (by simp), h.ref.chg hc (by simp) (by simp), h.rel, h.good, h.chg.trans0 hc, h.fresh, h.freshR, h.rows, fun b hb => let ⟨a, b, c⟩ := h.own b hb; ⟨Nat.lt_of_lt_of_le a hc.size, b, c⟩⟩
theorem LoopAt.put (h : LoopAt w0 w B bf F R p4 n4 c4 p5 n5 c5 fp) {b : Nat} (hb : b ∈ B) (h0 : w0.heap.size ≤ b) (hc : Chg [b] w w') : LoopAt w0 w' B bf F R p4 n4 c4 p5 n5 c5 fp := by
 obtain ⟨_, k2, k3⟩ := h.own b hb
 refine ⟨h.flow.chg hc (fun i hi hm => by simp at hm; exact k2 (hm ▸ hi)), h.ref.chg hc (fun i hi hm => by simp at hm; exact k3 (hm ▸ List.mem_append_left _ hi)) (fun i hi hm => by simp at hm; exact k3 (hm ▸ List.mem_append_right _ hi)), h.rel, h.good, h.chg.trans hc (fun i hi hlt => by simp at hi; omega), h.fresh, h.freshR, h.rows, fun x hx => let ⟨a, b, c⟩ := h.own x hx; ⟨Nat.lt_of_lt_of_le a hc.size, b, c⟩⟩
theorem LoopAt.add (h : LoopAt w0 w B bf F R p4 n4 c4 p5 n5 c5 fp) {b : Nat} (hb : w.heap.size ≤ b) (hlt : b < w'.heap.size) (hc : Chg [] w w') : LoopAt w0 w' (b :: B) bf F R p4 n4 c4 p5 n5 c5 fp := by
 have hl := h.flow.lt
 have hr := h.rlt
 have h' := h.later hc
 refine { h' with own := fun x hx => ?_ }
 rcases List.mem_cons.1 hx with rfl | hx
 ·exact ⟨hlt, fun hm => by have := hl _ hm; omega, fun hm => by have := hr _ hm; omega⟩
 ·exact h'.own x hx
theorem LoopAt.drop {C : List Nat} (h : LoopAt w0 w B bf F R p4 n4 c4 p5 n5 c5 fp) (hs : ∀ b ∈ C, b ∈ B) : LoopAt w0 w C bf F R p4 n4 c4 p5 n5 c5 fp := { h with own := fun b hb => h.own b (hs b hb) }
theorem LoopAt.same (h : LoopAt w0 w B bf F R p4 n4 c4 p5 n5 c5 fp) {l : List Nat} (hl : ∀ b ∈ l, b ∈ B) (hc : Chg fp w w') : Same w w' l := Same.of hc fun b hb => ⟨(h.own b (hl b hb)).1, (h.own b (hl b hb)).2.1⟩
end
end Go.Proofs.YtfcfkhbkkfpehaaGreatDoor
end
section
/- query.Who over a flow. -/
namespace Go.Proofs.YtfcfkhbkkfpehaaGreatDoor
open Go Go.RowKit Go.X Go.XR
def meets (set : Int) (x : Int × Int × Int) : Bool := !((bits .and .u32 x.2.2 set) == 0)
def whoT (set : Int) (xs : List (Int × Int × Int)) : List Pl := (xs.filter (meets set)).map (fun x => (x.1, x.2.1))
theorem whoT_snoc (set : Int) (xs : List (Int × Int × Int)) (x : Int × Int × Int) : whoT set (xs ++ [x]) = whoT set xs ++ if meets set x = true then [(x.1, x.2.1)] else [] := by
 unfold whoT
 rw [List.filter_append, List.map_append]
 cases h : meets set x <;> simp [h]
theorem whoT_len (set : Int) (xs : List (Int × Int × Int)) : (whoT set xs).length ≤ xs.length := by
 unfold whoT
 rw [List.length_map]; exact List.length_filter_le _ _
theorem fullF_len {F : Fl} (hf : F.fr ≤ 32) (hs : F.se ≤ 32) {ys : List Pl} (h : fullF F ys) : ys.length ≤ 1000000000000 := by
 refine keys_len hf hs ?_ (fun p hp => ((h.2 p).1 hp).2)
 exact List.Pairwise.imp (R := ltPl) (S := (· ≠ ·)) (fun {a b} hab e => by subst e; exact lt_irrefl a hab) h.1
theorem who_ok {w : World} {b : Nat} {F : Fl} {fp : List Nat} (h : FlowAt w b F fp) (hf : F.fr ≤ 32) (hs : F.se ≤ 32) (set : Int) :
  Calls Tryz.prog 9 #[.pointer (some ⟨b, 0, none⟩), .int .u32 set] w fun e w' => ∃ (r : Option Addr) (rn rc : Nat) (r2 : Int), e = .returned (.tuple #[.slice r rn rc, .int .i64 r2]) ∧
   (Chg [] w w' ∧ if set ≥ 65536 then rn = 0 ∧ r2 = 2 else r2 = 0 ∧ ∃ ys, fullF F ys ∧ CellsP w' (r, rn, rc) (whoT set (ys.map (tell F))) ∧ ∀ i ∈ rowB r, w.heap.size ≤ i) := by
 refine go_query_Who _ _ _ _ ?_
 unfold W_query_Who
 rintro b1 w1 ⟨l1, u1⟩ c1
 have s1 := c1.size
 refine (flow_copy (h.chg c1 (by simp))).mono ?_
 rintro _ w2 ⟨_, rfl, bc, fpc, rfl, _, c2, _⟩
 have s2 := c2.size
 have c02 := c1.trans0 c2
 refine ⟨_, rfl, Same.chg c2 (by simpa using u1), fun h => by simp at h, fun _ => ⟨fun hbig => ?_, fun hsm => ?_⟩⟩
 ·have hbig' := of_decide_eq_true hbig
  exact ⟨c02, by rw [if_pos hbig']; exact ⟨rfl, rfl⟩⟩
 have hsm' := of_decide_eq_false hsm
 rintro b2 w3 ⟨l2, u2⟩ c3
 have s3 := c3.size
 have c03 := c02.trans0 c3
 refine (flow_all (h.chg c03 (by simp))).mono ?_
 rintro _ w4 ⟨_, rfl, cb, m, L, rfl, hcb, hA, c4, hcb4, hm4⟩
 have s4 := c4.size
 have c04 := c03.trans0 c4
 have hcbl := lt_of_heap hcb
 have hml := hA.map.lt
 refine ⟨_, rfl, Same.chg c4 (by simp; omega), allF F, allFp F, [cb, m], isFn100 cb, iterates_flow hcb hA hf hs, by simp; exact ⟨hcbl, hml⟩,
  fun p n c O pre w' => n = (whoT set pre).length ∧ RowAt w' 25 2 p n c ((whoT set pre).flatMap encPl) ∧ (∀ i ∈ rowB p, i ∉ O ∧ w4.heap.size ≤ i) ∧ Chg [] w w' ∧ w4.heap.size ≤ w'.heap.size, ?_, ?_, ?_, ?_⟩
 ·rintro p n c pre O O' A B ⟨k1, k2, k3, k4, k5⟩ hO hc hO' hg
  have hsz := hc.size
  refine ⟨k1, k2.chg hc (fun b hb => (k3 b hb).1), fun b hb => ⟨fun hm => ?_, (k3 b hb).2⟩, k4.trans hc (fun i hi hlt => by have := (hO i hi).1; omega), by omega⟩
  rcases hg _ hm with h | h
  ·exact (k3 b hb).1 h
  ·have := k2.lt b hb; omega
 ·intro O w5 c5 hO
  exact ⟨rfl, RowAt.nil, by simp [rowB], c04.trans0 c5, c5.size⟩
 ·rintro d O pre x1 x2 x3 p n c w5 hO hd hsp ⟨k1, k2, k3, k4, k5⟩ b3 w8 ⟨q1, q2⟩ c8
  have s8 := c8.size
  have hl := hO d hd
  have hlp : ∀ b ∈ rowB p, b ∉ [d] := fun b hb hm => by simp at hm; subst hm; exact (k3 _ hb).1 hd
  have hr8 := k2.chg c8 hlp
  have c08 : Chg [] w w8 := k4.trans c8 (fun i hi hlt => by simp at hi; omega)
  obtain ⟨ys, suf, hfull, hys⟩ := hsp
  have hpl : pre.length ≤ 1000000000000 := by
   have e := congrArg List.length hys
   have := fullF_len hf hs hfull
   simp at e; omega
  have hwl := whoT_len set pre
  refine ⟨fun hmt => ?_, fun hno => ?_⟩
  ·refine v_alloc fun b4 w9 e4 hb4 c9 => ?_
   have s9 := c9.size
   obtain ⟨p', n', c', w10, happ, hrow, hn', c10, hnew⟩ := push_place (x := ((x1, x2) : Pl)) (hr8.chg c9 (by simp)) k1 (by omega) hb4
   have s10 := c10.size
   refine ⟨p', n', c', w10, happ, Same.of c10 (fun i hi => ?_), fun w11 c11 => ?_⟩
   ·have hi' : i = b1 ∨ i = b2 := by simpa using hi
    exact ⟨by omega, fun hm => by have := (k3 _ hm).2; omega⟩
   have s11 := c11.size
   have hmt' : meets set (x1, x2, x3) = true := hmt
   have hnew' : ∀ i ∈ rowB p', i ∉ O ∧ w4.heap.size ≤ i := fun i hi => by
    rcases hnew i hi with h' | h'
    ·exact k3 i h'
    ·exact ⟨fun hm => by have := (hO _ hm).2; omega, by omega⟩
   have c811 : Chg (b2 :: rowB p) w8 w11 := ((c9.nil (f := b2 :: rowB p)).trans (c10.mono (g := b2 :: rowB p) (fun i hi _ => List.mem_cons_of_mem _ hi)) (fun i hi _ => hi)).trans (c11.mono (g := b2 :: rowB p) (fun i hi _ => by simp at hi; simp [hi])) (fun i hi _ => hi)
   refine ⟨by omega, ⟨by rw [whoT_snoc, if_pos hmt']; exact hn', ?_, hnew', c08.trans c811 (fun i hi hlt => ?_), by omega⟩, Same.of c811 (fun i hi => ?_)⟩
   ·rw [whoT_snoc, if_pos hmt']
    exact hrow.chg c11 (fun i hi hm => by simp at hm; subst hm; have := (hnew' _ hi).2; omega)
   ·rcases List.mem_cons.1 hi with h' | h'
    ·omega
    ·have := (k3 i h').2; omega
   ·have hi2 : (i = cb ∨ i = m) ∨ i ∈ O := or_assoc.2 (by simpa using hi)
    rcases hi2 with hi2 | hi2
    ·refine ⟨by omega, fun hm => ?_⟩
     rcases List.mem_cons.1 hm with h' | h'
     ·omega
     ·have := (k3 i h').2; omega
    ·have := hO i hi2
     refine ⟨by omega, fun hm => ?_⟩
     rcases List.mem_cons.1 hm with h' | h'
     ·omega
     ·exact (k3 i h').1 hi2
  ·have hno' : ¬ meets set (x1, x2, x3) = true := by
    intro e
    have : meets set (x1, x2, x3) = false := hno
    rw [e] at this; cases this
   exact ⟨Nat.le_refl _, ⟨by rw [whoT_snoc, if_neg hno', List.append_nil]; exact k1, by rw [whoT_snoc, if_neg hno', List.append_nil]; exact hr8, k3, c08, by omega⟩, Same.refl _ _⟩
 ·rintro d O xs p n c w12 hO hd ⟨ys, hfull, rfl⟩ ⟨k1, k2, k3, k4, k5⟩ w13 c13
  refine ⟨k4.trans c13 (fun i hi hlt => by simp at hi; subst hi; have := (hO _ hd).1; omega), ?_⟩
  rw [if_neg hsm']
  exact ⟨rfl, ys, hfull, row_cells (k2.chg c13 (fun i hi hm => by simp at hm; subst hm; exact (k3 _ hi).1 hd)) k1, fun i hi => by have := (k3 i hi).2; omega⟩
end Go.Proofs.YtfcfkhbkkfpehaaGreatDoor
end
section
namespace Go.Proofs.YtfcfkhbkkfpehaaGreatDoor
open Go Go.X
/- pomander/pomanderlaw14.QueryWho -/
def W_pomanderlaw14_QueryWho (marks1 : Option Addr) (marks1n : Nat) (marks1c : Nat) (set1 : Int) (places1 : Option Addr) (places1n : Nat) (places1c : Nat) (w : World) (R : Bool → World → Prop) : Prop :=
 ((decide ((marks1n : Int) > 30) || decide ((places1n : Int) > 30)) = true → Calls Tryz.prog 6 #[] w fun e w1 => ∃ (r2 : Bool), e = .returned (.bool r2) ∧ (R r2 w1)) ∧ ((decide ((marks1n : Int) > 30) || decide ((places1n : Int) > 30)) = false → ∀ (b1 : Nat) (w3 : World), (w.heap.size ≤ b1 ∧ b1 < w3.heap.size) → Chg [] w w3 → (Calls Tryz.prog 16 #[.agg #[.int .i64 2, .int .i64 2], .int .i64 65536] w3 fun e w4 => ∃ (r3 : Option Addr) (r4 : Int), e = .returned (.tuple #[.pointer r3, .int .i64 r4]) ∧ (Same w3 w4 [b1] ∧ (Calls Tryz.prog 17 #[.agg #[.int .i64 2, .int .i64 2], .int .i64 65536] w4 fun e w5 => ∃ (r5 : Int) (r6 : Int) (r7 : Int) (r8 : Option Addr) (r8n : Nat) (r8c : Nat) (r9 : Option Addr) (r9n : Nat) (r9c : Nat), e = .returned (.agg #[.int .i64 r5, .int .i64 r6, .int .i64 r7, .slice r8 r8n r8c, .slice r9 r9n r9c]) ∧ (∀ (b2 : Nat) (w7 : World), (w5.heap.size ≤ b2 ∧ b2 < w7.heap.size) → Chg [] w5 w7 → (∃ (I1 : Int → Int → Int → Int → (Option Addr) → Nat → Nat → (Option Addr) → Nat → Nat → World → Prop) (m1 : Int → Int → Int → Int → (Option Addr) → Nat → Nat → (Option Addr) → Nat → Nat → World → Nat), I1 0 r5 r6 r7 r8 r8n r8c r9 r9n r9c w7 ∧ ∀ (i1 : Int) (c1 : Int) (c2 : Int) (c3 : Int) (c4 : Option Addr) (c4n : Nat) (c4c : Nat) (c5 : Option Addr) (c5n : Nat) (c5c : Nat) (w8 : World), I1 i1 c1 c2 c3 c4 c4n c4c c5 c5n c5c w8 → ((decide (i1 < (marks1n : Int))) = true → ∃ a1 : Addr, marks1 = some a1 ∧ (0 : Int) ≤ i1 ∧ i1 < (marks1n : Int) ∧ (∀ (w9 : World), Chg [] w8 w9 → (∃ (t1 : Int) (t2 : Int), CellsAt w9 (a1.add (Int.toNat i1 * 3)) 0 [.int .i64 t1, .int .i64 t2] ∧ (∃ (t3 : Int), w9.cell? ((a1.add (Int.toNat i1 * 3)).add 2) = some (.int .u32 t3) ∧ (Calls Tryz.prog 18 #[.pointer r3, .agg #[.int .i64 t1, .int .i64 t2], .int .i64 1, .int .u32 t3] w9 fun e w10 => ∃ (r10 : Int), e = .returned (.int .i64 r10) ∧ (Same w9 w10 [b2] ∧ (∀ (w11 : World), Chg [] w10 w11 → (∃ (t4 : Int) (t5 : Int), CellsAt w11 (a1.add (Int.toNat i1 * 3)) 0 [.int .i64 t4, .int .i64 t5] ∧ (∃ (t6 : Int), w11.cell? ((a1.add (Int.toNat i1 * 3)).add 2) = some (.int .u32 t6) ∧ (Calls Tryz.prog 19 #[.agg #[.int .i64 c1, .int .i64 c2, .int .i64 c3, .slice c4 c4n c4c, .slice c5 c5n c5c], .agg #[.int .i64 t4, .int .i64 t5], .int .i64 1, .int .u32 t6] w11 fun e w12 => ∃ (r11 : Int) (r12 : Int) (r13 : Int) (r14 : Option Addr) (r14n : Nat) (r14c : Nat) (r15 : Option Addr) (r15n : Nat) (r15c : Nat) (r16 : Int), e = .returned (.tuple #[.agg #[.int .i64 r11, .int .i64 r12, .int .i64 r13, .slice r14 r14n r14c, .slice r15 r15n r15c], .int .i64 r16]) ∧ ((CellsAt w12 (a1.add (Int.toNat i1 * 3)) 0 [.int .i64 t4, .int .i64 t5] ∧ w12.cell? ((a1.add (Int.toNat i1 * 3)).add 2) = some (.int .u32 t6)) ∧ (Same w11 w12 [b2] ∧ (∀ (w13 : World), Chg [b2] w12 w13 → ((I1 (IntKind.wrap .i64 (i1 + 1)) r11 r12 r13 r14 r14n r14c r15 r15n r15c w13 ∧ m1 (IntKind.wrap .i64 (i1 + 1)) r11 r12 r13 r14 r14n r14c r15 r15n r15c w13 < m1 i1 c1 c2 c3 c4 c4n c4c c5 c5n c5c w8))))))))))))))) ∧ ((decide (i1 < (marks1n : Int))) = false → Calls Tryz.prog 9 #[.pointer r3, .int .u32 set1] w8 fun e w14 => ∃ (r17 : Option Addr) (r17n : Nat) (r17c : Nat) (r18 : Int), e = .returned (.tuple #[.slice r17 r17n r17c, .int .i64 r18]) ∧ (Same w8 w14 [b2] ∧ (((decide (set1 ≥ 65536)) = true → ∃ J1 : Bool → World → Prop, (∀ (b3 : Bool) (w15 : World), J1 b3 w15 → R b3 w15) ∧ ((((r17n : Int) == 0 && r18 == 2) = true → Calls Tryz.prog 6 #[] w14 fun e w16 => ∃ (r19 : Bool), e = .returned (.bool r19) ∧ (Same w14 w16 [b2] ∧ (J1 r19 w16))) ∧ (((r17n : Int) == 0 && r18 == 2) = false → J1 false w14))) ∧ ((decide (set1 ≥ 65536)) = false → ∃ (I2 : (Option Addr) → Nat → Nat → Int → World → Prop) (m2 : (Option Addr) → Nat → Nat → Int → World → Nat), I2 none 0 0 0 w14 ∧ ∀ (want1 : Option Addr) (want1n : Nat) (want1c : Nat) (i2 : Int) (w17 : World), I2 want1 want1n want1c i2 w17 → ((decide (i2 < (c5n : Int))) = true → ∃ J2 : (Option Addr) → Nat → Nat → World → Prop, (∀ (want2 : Option Addr) (want2n : Nat) (want2c : Nat) (w18 : World), J2 want2 want2n want2c w18 → (I2 want2 want2n want2c (IntKind.wrap .i64 (i2 + 1)) w18 ∧ m2 want2 want2n want2c (IntKind.wrap .i64 (i2 + 1)) w18 < m2 want1 want1n want1c i2 w17)) ∧ (∃ a2 : Addr, c5 = some a2 ∧ (0 : Int) ≤ i2 ∧ i2 < (c5n : Int) ∧ (∃ (t7 : Int), w17.cell? ((a2.add (Int.toNat i2 * 3)).add 2) = some (.int .u32 t7) ∧ (((!((bits .and .u32 t7 set1) == 0)) = true → ∃ (t8 : Int) (t9 : Int), CellsAt w17 (a2.add (Int.toNat i2 * 3)) 0 [.int .i64 t8, .int .i64 t9] ∧ (∀ b4 : Nat, b4 = World.size w17 → ∀ w19 : World, w19 = World.alloc w17 (.cells #[.int .i64 t8, .int .i64 t9] 25) → (∃ (l1 : Option Addr) (l1n : Nat) (l1c : Nat) (w20 : World), (Builtin.append_ #[34, 34] 34 #[.slice want1 want1n want1c, .slice (some (⟨b4, 0, none⟩ : Addr)) 1 1]).run Tryz.prog w19 = .ok (.slice l1 l1n l1c) w20 ∧ (Same w19 w20 [b2] ∧ (J2 l1 l1n l1c w20))))) ∧ ((!((bits .and .u32 t7 set1) == 0)) = false → J2 want1 want1n want1c w17))))) ∧ ((decide (i2 < (c5n : Int))) = false → ∃ (I3 : Bool → Int → World → Prop) (m3 : Bool → Int → World → Nat), I3 false 0 w17 ∧ ∀ (x1 : Bool) (i3 : Int) (w21 : World), I3 x1 i3 w21 → ((decide (i3 < (places1n : Int))) = true → ∀ (w22 : World), Chg [] w21 w22 → (∃ a3 : Addr, places1 = some a3 ∧ (0 : Int) ≤ i3 ∧ i3 < (places1n : Int) ∧ (∃ (t10 : Int) (t11 : Int), CellsAt w22 (a3.add (Int.toNat i3 * 2)) 0 [.int .i64 t10, .int .i64 t11] ∧ (Calls Tryz.prog 20 #[.agg #[.int .i64 t10, .int .i64 t11]] w22 fun e w23 => ∃ (r20 : ByteArray), e = .returned (.string r20) ∧ ((CellsAt w23 (a3.add (Int.toNat i3 * 2)) 0 [.int .i64 t10, .int .i64 t11]) ∧ (Calls Tryz.prog 21 #[.agg #[.int .i64 t10, .int .i64 t11]] w23 fun e w24 => ∃ (r21 : ByteArray), e = .returned (.string r21) ∧ (∃ (t12 : Bool), (∀ w : World, ((do eqGuard .neq 9 (.tmp 120) (.tmp 125) (.string r20) (.string r21); binOp .neq 9 (.string r20) (.string r21) : Sem Value)).run Tryz.prog w = .ok (.bool t12) w) ∧ ((t12 = true → R false w24) ∧ (t12 = false → (I3 x1 (IntKind.wrap .i64 (i3 + 1)) w24 ∧ m3 x1 (IntKind.wrap .i64 (i3 + 1)) w24 < m3 x1 i3 w21)))))))))) ∧ ((decide (i3 < (places1n : Int))) = false → ∃ J3 : Bool → World → Prop, (∀ (b5 : Bool) (w25 : World), J3 b5 w25 → ∃ J4 : Bool → World → Prop, (∀ (b6 : Bool) (w27 : World), J4 b6 w27 → R b6 w27) ∧ ((b5 = true → Calls Tryz.prog 6 #[] w25 fun e w28 => ∃ (r23 : Bool), e = .returned (.bool r23) ∧ (J4 r23 w28)) ∧ (b5 = false → J4 false w25))) ∧ (((r18 == 0) = true → Calls Tryz.prog 22 #[.slice r17 r17n r17c, .slice want1 want1n want1c] w21 fun e w26 => ∃ (r22 : Bool), e = .returned (.bool r22) ∧ (J3 r22 w26)) ∧ ((r18 == 0) = false → J3 false w21))))))))))))))
set_option maxRecDepth 100000 in
theorem go_pomanderlaw14_QueryWho (marks1 : Option Addr) (marks1n : Nat) (marks1c : Nat) (set1 : Int) (places1 : Option Addr) (places1n : Nat) (places1c : Nat) (w : World) (R : Bool → World → Prop) (h : W_pomanderlaw14_QueryWho marks1 marks1n marks1c set1 places1 places1n places1c w R) : Calls Tryz.prog 4 #[.slice marks1 marks1n marks1c, .int .u32 set1, .slice places1 places1n places1c] w (fun e w' => ∃ (r1 : Bool), e = .returned (.bool r1) ∧ R r1 w') := by
 unfold W_pomanderlaw14_QueryWho at h
 refine enter (N := 137) Tryz.func4 rfl rfl ?_
 refine CW.seq ?_
 refine CW.region fun L hL => ?_
 refine LW.rd hL rfl (Wants.free rfl) rfl (Rd.assign (v := .bool false) rfl) ?_
 refine LW.nil hL rfl ?_
 refine NW.then ?_
 refine CW.seq ?_
 refine CW.seq ?_
 refine CW.region fun L hL => ?_
 refine LW.rd hL rfl (Wants.free rfl) rfl (Rd.move (v := .slice marks1 marks1n marks1c) rfl) ?_
 refine LW.rd hL rfl (Wants.free rfl) rfl (Rd.builtin (v := .int .i64 (marks1n : Int)) rfl (fun _ _ => by kernel_rfl)) ?_
 refine LW.rd hL rfl (Wants.free rfl) rfl (Rd.bin (v := .bool (decide ((marks1n : Int) > 30))) rfl rfl (fun w => by kernel_rfl)) ?_
 refine LW.rd hL rfl (Wants.free rfl) rfl (Rd.move (v := .bool (decide ((marks1n : Int) > 30))) rfl) ?_
 suffices K1 : L 8 [(0, .slice marks1 marks1n marks1c), (1, .int .u32 set1), (2, .slice places1 places1n places1c), (6, .bool false), (24, .bool (decide ((marks1n : Int) > 30) || decide ((places1n : Int) > 30)))] w by
  rcases Bool.eq_false_or_eq_true (decide ((marks1n : Int) > 30)) with hb2 | hb2
  ·skip
   refine LW.skip hL rfl (Skips.on rfl rfl rfl rfl rfl hb2) rfl ?_
   refine LW.skip hL rfl (Skips.on rfl rfl rfl rfl rfl hb2) rfl ?_
   refine LW.skip hL rfl (Skips.on rfl rfl rfl rfl rfl hb2) rfl ?_
   refine LW.rd hL rfl (Wants.free rfl) rfl (Rd.pickT rfl hb2 rfl) ?_
   exact LW.sub hL (by exact ⟨rfl, rfl, rfl, rfl, (by rw [hb2]; rfl), trivial⟩) K1
  ·skip
   refine LW.rd hL rfl (Wants.on rfl rfl rfl rfl rfl hb2) rfl (Rd.move (v := .slice places1 places1n places1c) rfl) ?_
   refine LW.rd hL rfl (Wants.on rfl rfl rfl rfl rfl hb2) rfl (Rd.builtin (v := .int .i64 (places1n : Int)) rfl (fun _ _ => by kernel_rfl)) ?_
   refine LW.rd hL rfl (Wants.on rfl rfl rfl rfl rfl hb2) rfl (Rd.bin (v := .bool (decide ((places1n : Int) > 30))) rfl rfl (fun w => by kernel_rfl)) ?_
   refine LW.rd hL rfl (Wants.free rfl) rfl (Rd.pickF rfl hb2 rfl) ?_
   exact LW.sub hL (by exact ⟨rfl, rfl, rfl, rfl, (by rw [hb2]; rfl), trivial⟩) K1
 refine LW.nil hL rfl ?_
 refine NW.then ?_
 refine CW.cond rfl (fun hb3 => ?_) (fun hb3 => ?_)
 ·replace h := h.1 hb3
  refine CW.seq ?_
  refine CW.region fun L hL => ?_
  refine LW.call hL rfl (Wants.free rfl) rfl (Cl.fn (f := 6) rfl Tryz.func6 (by kernel_rfl) rfl) h (fun e w1 h_ => ?_)
  clear h
  obtain ⟨r2, rfl, h⟩ := h_
  refine ⟨_, rfl, ?_⟩
  refine LW.rd hL rfl (Wants.free rfl) rfl (Rd.assign (v := .bool r2) rfl) ?_
  refine LW.nil hL rfl ?_
  refine NW.then ?_
  refine CW.ret ?_
  refine RW.then ?_
  exact res1 rfl rfl ⟨r2, rfl, h⟩
 ·replace h := h.2 hb3
  refine CW.skip ?_
  refine NW.then ?_
  refine CW.seq ?_
  refine CW.region fun L hL => ?_
  refine LW.rd hL rfl (Wants.free rfl) rfl (Rd.build (v := .agg #[.int .i64 2, .int .i64 2]) rfl (fun _ => by kernel_rfl)) ?_
  obtain ⟨b1, hb_b1⟩ : ∃ b1, b1 = World.size w := ⟨_, rfl⟩
  obtain ⟨w2, hw_w2⟩ : ∃ w2, w2 = World.alloc w (.cells #[.int .i64 0, .int .i64 0] 55) := ⟨_, rfl⟩
  refine LW.val hL rfl (Wants.free rfl) rfl (boxE hb_b1 hw_w2 (Vl.alloc (z := .agg #[.int .i64 0, .int .i64 0]) (by kernel_rfl))) ?_
  have hB := Boxes.alloc (cs := [.int .i64 0, .int .i64 0]) (T := 55) (Boxes.nil w) hb_b1 hw_w2
  have hlo_b1 := sil_lo (Chg.refl [] w) hb_b1
  have hc_w2 := sil_alloc (Chg.refl [] w) hw_w2
  obtain ⟨w3, hw_w3⟩ : ∃ x, x = setCells w2 (⟨b1, 0, none⟩ : Addr) 0 [.int .i64 2, .int .i64 2] := ⟨_, rfl⟩
  refine LW.eff hL rfl (Wants.free rfl) rfl (stNE hw_w3 (Ef.stN (cs := [.int .i64 2, .int .i64 2]) rfl rfl (by kernel_rfl) (List.forall_mem_cons.2 ⟨rfl, (List.forall_mem_cons.2 ⟨rfl, (List.forall_mem_nil _)⟩)⟩) (has_of (hB.at (i := 0) rfl) (by simp)) (free_of' (hB.at (i := 0) rfl)))) ?_
  replace hB : Boxes w3 [(b1, [.int .i64 2, .int .i64 2], 55)] := Boxes.store (vs := [.int .i64 2, .int .i64 2]) (i := 0) (o := 0) hB rfl rfl rfl rfl hw_w3
  have hc_w3 := sil_new hc_w2 (sil_cN hw_w3) hlo_b1
  refine LW.nil hL rfl ?_
  refine NW.then ?_
  refine CW.seq ?_
  refine CW.region fun L hL => ?_
  refine LW.rd hL rfl (Wants.free rfl) rfl (Rd.ldN (cs := [.int .i64 2, .int .i64 2]) rfl (by kernel_rfl) (by kernel_rfl) (cellsS (box_cells (hB.at (i := 0) rfl) rfl))) ?_
  replace h := h b1 w3 ⟨hlo_b1, lt_of_heap (hB.at (i := 0) rfl)⟩ hc_w3
  refine LW.call hL rfl (Wants.free rfl) rfl (Cl.fn (f := 16) rfl Tryz.func16 (by kernel_rfl) rfl) h (fun e w4 h_ => ?_)
  clear h
  obtain ⟨r3, r4, rfl, h⟩ := h_
  obtain ⟨hsm1, h⟩ := h
  replace hB := Boxes.sameS hB hsm1 (by simp)
  refine ⟨_, rfl, ?_⟩
  refine LW.rd hL rfl (Wants.free rfl) rfl (Rd.move (v := .tuple #[.pointer r3, .int .i64 r4]) rfl) ?_
  refine LW.rd hL rfl (Wants.free rfl) rfl (Rd.extract (v := .pointer r3) rfl rfl) ?_
  refine LW.rd hL rfl (Wants.free rfl) rfl (Rd.extract (v := .int .i64 r4) rfl rfl) ?_
  refine LW.rd hL rfl (Wants.free rfl) rfl (Rd.assign (v := .pointer r3) rfl) ?_
  refine LW.rd hL rfl (Wants.free rfl) rfl (Rd.assign (v := .int .i64 r4) rfl) ?_
  refine LW.nil hL rfl ?_
  refine NW.then ?_
  refine CW.seq ?_
  refine CW.region fun L hL => ?_
  refine LW.rd hL rfl (Wants.free rfl) rfl (Rd.ldN (cs := [.int .i64 2, .int .i64 2]) rfl (by kernel_rfl) (by kernel_rfl) (cellsS (box_cells (hB.at (i := 0) rfl) rfl))) ?_
  refine LW.call hL rfl (Wants.free rfl) rfl (Cl.fn (f := 17) rfl Tryz.func17 (by kernel_rfl) rfl) h (fun e w5 h_ => ?_)
  clear h
  obtain ⟨r5, r6, r7, r8, r8n, r8c, r9, r9n, r9c, rfl, h⟩ := h_
  refine ⟨_, rfl, ?_⟩
  obtain ⟨b2, hb_b2⟩ : ∃ b2, b2 = World.size w5 := ⟨_, rfl⟩
  obtain ⟨w6, hw_w6⟩ : ∃ w6, w6 = World.alloc w5 (.cells #[.int .i64 0, .int .i64 0, .int .i64 0, .slice none 0 0, .slice none 0 0] 64) := ⟨_, rfl⟩
  refine LW.val hL rfl (Wants.free rfl) rfl (boxE hb_b2 hw_w6 (Vl.alloc (z := .agg #[.int .i64 0, .int .i64 0, .int .i64 0, .slice none 0 0, .slice none 0 0]) (by kernel_rfl))) ?_
  have hB := Boxes.alloc (cs := [.int .i64 0, .int .i64 0, .int .i64 0, .slice none 0 0, .slice none 0 0]) (T := 64) (Boxes.nil w5) hb_b2 hw_w6
  have hlo_b2 := sil_lo (Chg.refl [] w5) hb_b2
  have hc_w6 := sil_alloc (Chg.refl [] w5) hw_w6
  obtain ⟨w7, hw_w7⟩ : ∃ x, x = setCells w6 (⟨b2, 0, none⟩ : Addr) 0 [.int .i64 r5, .int .i64 r6, .int .i64 r7, .slice r8 r8n r8c, .slice r9 r9n r9c] := ⟨_, rfl⟩
  refine LW.eff hL rfl (Wants.free rfl) rfl (stNE hw_w7 (Ef.stN (cs := [.int .i64 r5, .int .i64 r6, .int .i64 r7, .slice r8 r8n r8c, .slice r9 r9n r9c]) rfl rfl (by kernel_rfl) (List.forall_mem_cons.2 ⟨rfl, (List.forall_mem_cons.2 ⟨rfl, (List.forall_mem_cons.2 ⟨rfl, (List.forall_mem_cons.2 ⟨rfl, (List.forall_mem_cons.2 ⟨rfl, (List.forall_mem_nil _)⟩)⟩)⟩)⟩)⟩) (has_of (hB.at (i := 0) rfl) (by simp)) (free_of' (hB.at (i := 0) rfl)))) ?_
  replace hB : Boxes w7 [(b2, [.int .i64 r5, .int .i64 r6, .int .i64 r7, .slice r8 r8n r8c, .slice r9 r9n r9c], 64)] := Boxes.store (vs := [.int .i64 r5, .int .i64 r6, .int .i64 r7, .slice r8 r8n r8c, .slice r9 r9n r9c]) (i := 0) (o := 0) hB rfl rfl rfl rfl hw_w7
  have hc_w7 := sil_new hc_w6 (sil_cN hw_w7) hlo_b2
  refine LW.nil hL rfl ?_
  refine NW.then ?_
  refine CW.seq ?_
  refine CW.seq ?_
  refine CW.region fun L hL => ?_
  refine LW.rd hL rfl (Wants.free rfl) rfl (Rd.assign (v := .int .i64 0) rfl) ?_
  refine LW.nil hL rfl ?_
  refine NW.then ?_
  refine CW.block ?_
  replace h := h b2 w7 ⟨hlo_b2, lt_of_heap (hB.at (i := 0) rfl)⟩ hc_w7
  obtain ⟨I1, m1, hI1, h⟩ := h
  refine CW.loop (S := Int × Int × Int × Int × (Option Addr) × Nat × Nat × (Option Addr) × Nat × Nat) (fun s1 => [(0, .slice marks1 marks1n marks1c), (1, .int .u32 set1), (2, .slice places1 places1n places1c), (6, .bool false), (8, .pointer r3), (10, .pointer (some (⟨b2, 0, none⟩ : Addr))), (11, .int .i64 s1.1)]) (fun s1 w8 => I1 s1.1 s1.2.1 s1.2.2.1 s1.2.2.2.1 s1.2.2.2.2.1 s1.2.2.2.2.2.1 s1.2.2.2.2.2.2.1 s1.2.2.2.2.2.2.2.1 s1.2.2.2.2.2.2.2.2.1 s1.2.2.2.2.2.2.2.2.2 w8 ∧ Boxes w8 [(b2, [.int .i64 s1.2.1, .int .i64 s1.2.2.1, .int .i64 s1.2.2.2.1, .slice s1.2.2.2.2.1 s1.2.2.2.2.2.1 s1.2.2.2.2.2.2.1, .slice s1.2.2.2.2.2.2.2.1 s1.2.2.2.2.2.2.2.2.1 s1.2.2.2.2.2.2.2.2.2], 64)]) (fun s1 w8 => m1 s1.1 s1.2.1 s1.2.2.1 s1.2.2.2.1 s1.2.2.2.2.1 s1.2.2.2.2.2.1 s1.2.2.2.2.2.2.1 s1.2.2.2.2.2.2.2.1 s1.2.2.2.2.2.2.2.2.1 s1.2.2.2.2.2.2.2.2.2 w8) (0, r5, r6, r7, r8, r8n, r8c, r9, r9n, r9c) (by exact ⟨rfl, rfl, rfl, rfl, rfl, rfl, rfl, trivial⟩) ⟨hI1, hB⟩ (fun s1 w8 hI1 => ?_)
  obtain ⟨hI1, hB⟩ := hI1
  obtain ⟨i1, c1, c2, c3, c4, c4n, c4c, c5, c5n, c5c⟩ := s1; replace h := h i1 c1 c2 c3 c4 c4n c4c c5 c5n c5c w8 hI1
  refine CW.seq ?_
  refine CW.seq ?_
  refine CW.region fun L hL => ?_
  refine LW.rd hL rfl (Wants.free rfl) rfl (Rd.move (v := .int .i64 i1) rfl) ?_
  refine LW.rd hL rfl (Wants.free rfl) rfl (Rd.move (v := .slice marks1 marks1n marks1c) rfl) ?_
  refine LW.rd hL rfl (Wants.free rfl) rfl (Rd.builtin (v := .int .i64 (marks1n : Int)) rfl (fun _ _ => by kernel_rfl)) ?_
  refine LW.rd hL rfl (Wants.free rfl) rfl (Rd.bin (v := .bool (decide (i1 < (marks1n : Int)))) rfl rfl (fun w => by kernel_rfl)) ?_
  refine LW.nil hL rfl ?_
  refine NW.then ?_
  refine CW.cond rfl (fun hb4 => ?_) (fun hb4 => ?_)
  ·replace h := h.1 hb4
   refine CW.skip ?_
   refine NW.then ?_
   refine CW.seq ?_
   refine CW.block ?_
   refine CW.seq ?_
   obtain ⟨w9, hw_w9⟩ : ∃ x, x = World.drew w8 := ⟨_, rfl⟩
   have hc_w9 := sil_drew (Chg.refl [] w8) hw_w9
   replace hB := hB.drew hw_w9
   refine CW.drawn (fun w => w = w9) 11 (by kernel_rfl) fun H hH => ?_
   rw [← hw_w9]
   refine HW.pure (i := 0) hH rfl (by kernel_rfl) (Wants.free rfl) rfl (fun _ => rfl) (Rd.move (v := .pointer r3) rfl) ?_
   refine HW.pure (i := 1) hH rfl (by kernel_rfl) (Wants.free rfl) rfl (fun _ => rfl) (Rd.move (v := .slice marks1 marks1n marks1c) rfl) ?_
   refine HW.pure (i := 2) hH rfl (by kernel_rfl) (Wants.free rfl) rfl (fun _ => rfl) (Rd.move (v := .int .i64 i1) rfl) ?_
   obtain ⟨a1, he1, hi1, hi2, h⟩ := h
   refine HW.pure (i := 3) hH rfl (by kernel_rfl) (Wants.free rfl) rfl (fun _ => rfl) (Rd.iaS (q := a1) (sz := 3) (by rw [← he1]; rfl) rfl Tryz.underlying53 (by kernel_rfl) hi1 hi2) ?_
   refine HW.pure (i := 4) hH rfl (by kernel_rfl) (Wants.free rfl) rfl (fun _ => rfl) (Rd.fa (v := .pointer (some (a1.add (Int.toNat i1 * 3)))) rfl (fun _ => by kernel_rfl)) ?_
   replace h := h  w9  hc_w9
   obtain ⟨t1, t2, hc1, h⟩ := h
   refine HW.take (i := 5) hH rfl (by kernel_rfl) (by kernel_rfl) (Wants.free rfl) rfl (fun _ => rfl) (Rd.ldN (cs := [.int .i64 t1, .int .i64 t2]) rfl (by kernel_rfl) (by kernel_rfl) (cellsS hc1)) ?_
   refine HW.pure (i := 6) hH rfl (by kernel_rfl) (Wants.free rfl) rfl (fun _ => rfl) (Rd.move (v := .slice marks1 marks1n marks1c) rfl) ?_
   refine HW.pure (i := 7) hH rfl (by kernel_rfl) (Wants.free rfl) rfl (fun _ => rfl) (Rd.move (v := .int .i64 i1) rfl) ?_
   refine HW.pure (i := 8) hH rfl (by kernel_rfl) (Wants.free rfl) rfl (fun _ => rfl) (Rd.iaS (q := a1) (sz := 3) (by rw [← he1]; rfl) rfl Tryz.underlying53 (by kernel_rfl) hi1 hi2) ?_
   refine HW.pure (i := 9) hH rfl (by kernel_rfl) (Wants.free rfl) rfl (fun _ => rfl) (Rd.fa (v := .pointer (some ((a1.add (Int.toNat i1 * 3)).add 2))) rfl (fun _ => by kernel_rfl)) ?_
   obtain ⟨t3, hc2, h⟩ := h
   refine HW.take (i := 10) hH rfl (by kernel_rfl) (by kernel_rfl) (Wants.free rfl) rfl (fun _ => rfl) (Rd.ld (v := .int .u32 t3) rfl (by kernel_rfl) (eqs hc2)) ?_
   refine HW.call (i := 11) hH (by kernel_rfl) rfl (Wants.free rfl) rfl (Cl.fn (f := 18) rfl Tryz.func18 (by kernel_rfl) rfl) h (fun e w10 h_ => ?_)
   clear h
   obtain ⟨r10, rfl, h⟩ := h_
   obtain ⟨hsm2, h⟩ := h
   replace hB := Boxes.sameS hB hsm2 (by simp)
   refine ⟨_, rfl, (fun hc => by cases hc), ?_⟩
   refine HW.done hH (by kernel_rfl) ?_
   refine NW.then ?_
   obtain ⟨w11, hw_w11⟩ : ∃ x, x = World.drew w10 := ⟨_, rfl⟩
   have hc_w11 := sil_drew (Chg.refl [] w10) hw_w11
   replace hB := hB.drew hw_w11
   replace h := h  w11  hc_w11
   obtain ⟨t4, t5, hc3, h⟩ := h
   obtain ⟨t6, hc4, h⟩ := h
   refine CW.drawn (fun w => CellsAt w (a1.add (Int.toNat i1 * 3)) 0 [.int .i64 t4, .int .i64 t5] ∧ w.cell? ((a1.add (Int.toNat i1 * 3)).add 2) = some (.int .u32 t6) ∧ Boxes w [(b2, [.int .i64 c1, .int .i64 c2, .int .i64 c3, .slice c4 c4n c4c, .slice c5 c5n c5c], 64)]) 15 (by kernel_rfl) fun H hH => ?_
   rw [← hw_w11]
   have hS1 : CellsAt w11 (a1.add (Int.toNat i1 * 3)) 0 [.int .i64 t4, .int .i64 t5] ∧ w11.cell? ((a1.add (Int.toNat i1 * 3)).add 2) = some (.int .u32 t6) ∧ Boxes w11 [(b2, [.int .i64 c1, .int .i64 c2, .int .i64 c3, .slice c4 c4n c4c, .slice c5 c5n c5c], 64)] := ⟨hc3, hc4, hB⟩
   refine HW.take (i := 0) hH rfl (by kernel_rfl) (by kernel_rfl) (Wants.free rfl) rfl (fun _ => hS1) (Rd.ldN (cs := [.int .i64 c1, .int .i64 c2, .int .i64 c3, .slice c4 c4n c4c, .slice c5 c5n c5c]) rfl (by kernel_rfl) (by kernel_rfl) (fun w h => cellsAt_get (box_cells (Boxes.at (i := 0) h.2.2 rfl) rfl))) ?_
   refine HW.pure (i := 1) hH rfl (by kernel_rfl) (Wants.free rfl) rfl (fun _ => hS1) (Rd.move (v := .slice marks1 marks1n marks1c) rfl) ?_
   refine HW.pure (i := 2) hH rfl (by kernel_rfl) (Wants.free rfl) rfl (fun _ => hS1) (Rd.move (v := .int .i64 i1) rfl) ?_
   refine HW.pure (i := 3) hH rfl (by kernel_rfl) (Wants.free rfl) rfl (fun _ => hS1) (Rd.iaS (q := a1) (sz := 3) (by rw [← he1]; rfl) rfl Tryz.underlying53 (by kernel_rfl) hi1 hi2) ?_
   refine HW.pure (i := 4) hH rfl (by kernel_rfl) (Wants.free rfl) rfl (fun _ => hS1) (Rd.fa (v := .pointer (some (a1.add (Int.toNat i1 * 3)))) rfl (fun _ => by kernel_rfl)) ?_
   refine HW.take (i := 5) hH rfl (by kernel_rfl) (by kernel_rfl) (Wants.free rfl) rfl (fun _ => hS1) (Rd.ldN (cs := [.int .i64 t4, .int .i64 t5]) rfl (by kernel_rfl) (by kernel_rfl) (fun w h => cellsAt_get h.1)) ?_
   refine HW.pure (i := 6) hH rfl (by kernel_rfl) (Wants.free rfl) rfl (fun _ => hS1) (Rd.move (v := .slice marks1 marks1n marks1c) rfl) ?_
   refine HW.pure (i := 7) hH rfl (by kernel_rfl) (Wants.free rfl) rfl (fun _ => hS1) (Rd.move (v := .int .i64 i1) rfl) ?_
   refine HW.pure (i := 8) hH rfl (by kernel_rfl) (Wants.free rfl) rfl (fun _ => hS1) (Rd.iaS (q := a1) (sz := 3) (by rw [← he1]; rfl) rfl Tryz.underlying53 (by kernel_rfl) hi1 hi2) ?_
   refine HW.pure (i := 9) hH rfl (by kernel_rfl) (Wants.free rfl) rfl (fun _ => hS1) (Rd.fa (v := .pointer (some ((a1.add (Int.toNat i1 * 3)).add 2))) rfl (fun _ => by kernel_rfl)) ?_
   refine HW.take (i := 10) hH rfl (by kernel_rfl) (by kernel_rfl) (Wants.free rfl) rfl (fun _ => hS1) (Rd.ld (v := .int .u32 t6) rfl (by kernel_rfl) (fun w h => h.2.1)) ?_
   refine HW.call (i := 11) hH (by kernel_rfl) rfl (Wants.free rfl) rfl (Cl.fn (f := 19) rfl Tryz.func19 (by kernel_rfl) rfl) h (fun e w12 h_ => ?_)
   clear h
   obtain ⟨r11, r12, r13, r14, r14n, r14c, r15, r15n, r15c, r16, rfl, hS2, h⟩ := h_
   obtain ⟨hsm3, h⟩ := h
   replace hB := Boxes.sameS hB hsm3 (by simp)
   have hS3 := (⟨hS2.1, hS2.2, hB⟩ : CellsAt w12 (a1.add (Int.toNat i1 * 3)) 0 [.int .i64 t4, .int .i64 t5] ∧ w12.cell? ((a1.add (Int.toNat i1 * 3)).add 2) = some (.int .u32 t6) ∧ Boxes w12 [(b2, [.int .i64 c1, .int .i64 c2, .int .i64 c3, .slice c4 c4n c4c, .slice c5 c5n c5c], 64)])
   refine ⟨_, rfl, (fun _ => hS3), ?_⟩
   refine HW.pure (i := 12) hH rfl (by kernel_rfl) (Wants.free rfl) rfl (fun _ => hS3) (Rd.move (v := .tuple #[.agg #[.int .i64 r11, .int .i64 r12, .int .i64 r13, .slice r14 r14n r14c, .slice r15 r15n r15c], .int .i64 r16]) rfl) ?_
   refine HW.pure (i := 13) hH rfl (by kernel_rfl) (Wants.free rfl) rfl (fun _ => hS3) (Rd.extract (v := .agg #[.int .i64 r11, .int .i64 r12, .int .i64 r13, .slice r14 r14n r14c, .slice r15 r15n r15c]) rfl rfl) ?_
   refine HW.pure (i := 14) hH rfl (by kernel_rfl) (Wants.free rfl) rfl (fun _ => hS3) (Rd.extract (v := .int .i64 r16) rfl rfl) ?_
   obtain ⟨w13, hw_w13⟩ : ∃ x, x = setCells w12 (⟨b2, 0, none⟩ : Addr) 0 [.int .i64 r11, .int .i64 r12, .int .i64 r13, .slice r14 r14n r14c, .slice r15 r15n r15c] := ⟨_, rfl⟩
   refine HW.eff (i := 15) hH (by kernel_rfl) rfl (Wants.free rfl) rfl (stNE hw_w13 (Ef.stN (cs := [.int .i64 r11, .int .i64 r12, .int .i64 r13, .slice r14 r14n r14c, .slice r15 r15n r15c]) rfl rfl (by kernel_rfl) (List.forall_mem_cons.2 ⟨rfl, (List.forall_mem_cons.2 ⟨rfl, (List.forall_mem_cons.2 ⟨rfl, (List.forall_mem_cons.2 ⟨rfl, (List.forall_mem_cons.2 ⟨rfl, (List.forall_mem_nil _)⟩)⟩)⟩)⟩)⟩) (has_of (hB.at (i := 0) rfl) (by simp)) (free_of' (hB.at (i := 0) rfl)))) (fun hc => by cases hc) ?_
   replace hB : Boxes w13 [(b2, [.int .i64 r11, .int .i64 r12, .int .i64 r13, .slice r14 r14n r14c, .slice r15 r15n r15c], 64)] := Boxes.store (vs := [.int .i64 r11, .int .i64 r12, .int .i64 r13, .slice r14 r14n r14c, .slice r15 r15n r15c]) (i := 0) (o := 0) hB rfl rfl rfl rfl hw_w13
   have hc_w13 : Chg [b2] w12 w13 := sil_more (Chg.refl [] w12) (sil_cN hw_w13)
   refine HW.done hH (by kernel_rfl) ?_
   refine NW.block ?_
   refine NW.then ?_
   refine CW.region fun L hL => ?_
   refine LW.rd hL rfl (Wants.free rfl) rfl (Rd.move (v := .int .i64 i1) rfl) ?_
   refine LW.rd hL rfl (Wants.free rfl) rfl (Rd.bin (v := .int .i64 (IntKind.wrap .i64 (i1 + 1))) rfl rfl (fun w => by kernel_rfl)) ?_
   refine LW.rd hL rfl (Wants.free rfl) rfl (Rd.assign (v := .int .i64 (IntKind.wrap .i64 (i1 + 1))) rfl) ?_
   refine LW.nil hL rfl ?_
   replace h := h  w13  hc_w13
   exact NW.loop (S := Int × Int × Int × Int × (Option Addr) × Nat × Nat × (Option Addr) × Nat × Nat) (Ek := fun s1 => [(0, .slice marks1 marks1n marks1c), (1, .int .u32 set1), (2, .slice places1 places1n places1c), (6, .bool false), (8, .pointer r3), (10, .pointer (some (⟨b2, 0, none⟩ : Addr))), (11, .int .i64 s1.1)]) (IntKind.wrap .i64 (i1 + 1), r11, r12, r13, r14, r14n, r14c, r15, r15n, r15c) (by exact ⟨rfl, rfl, rfl, rfl, rfl, rfl, rfl, trivial⟩) ⟨⟨h.1, hB⟩, h.2⟩
  ·replace h := h.2 hb4
   refine CW.exit ?_
   refine XW.then ?_
   refine XW.then ?_
   refine XW.hit ?_
   refine NW.then ?_
   refine CW.seq ?_
   refine CW.region fun L hL => ?_
   refine LW.rd hL rfl (Wants.free rfl) rfl (Rd.move (v := .pointer r3) rfl) ?_
   refine LW.rd hL rfl (Wants.free rfl) rfl (Rd.move (v := .int .u32 set1) rfl) ?_
   refine LW.call hL rfl (Wants.free rfl) rfl (Cl.fn (f := 9) rfl Tryz.func9 (by kernel_rfl) rfl) h (fun e w14 h_ => ?_)
   clear h
   obtain ⟨r17, r17n, r17c, r18, rfl, h⟩ := h_
   obtain ⟨hsm4, h⟩ := h
   replace hB := Boxes.sameS hB hsm4 (by simp)
   refine ⟨_, rfl, ?_⟩
   refine LW.rd hL rfl (Wants.free rfl) rfl (Rd.move (v := .tuple #[.slice r17 r17n r17c, .int .i64 r18]) rfl) ?_
   refine LW.rd hL rfl (Wants.free rfl) rfl (Rd.extract (v := .slice r17 r17n r17c) rfl rfl) ?_
   refine LW.rd hL rfl (Wants.free rfl) rfl (Rd.extract (v := .int .i64 r18) rfl rfl) ?_
   refine LW.rd hL rfl (Wants.free rfl) rfl (Rd.assign (v := .slice r17 r17n r17c) rfl) ?_
   refine LW.rd hL rfl (Wants.free rfl) rfl (Rd.assign (v := .int .i64 r18) rfl) ?_
   refine LW.nil hL rfl ?_
   refine NW.then ?_
   refine CW.seq ?_
   refine CW.seq ?_
   refine CW.region fun L hL => ?_
   refine LW.rd hL rfl (Wants.free rfl) rfl (Rd.move (v := .int .u32 set1) rfl) ?_
   refine LW.rd hL rfl (Wants.free rfl) rfl (Rd.bin (v := .bool (decide (set1 ≥ 65536))) rfl rfl (fun w => by kernel_rfl)) ?_
   refine LW.nil hL rfl ?_
   refine NW.then ?_
   refine CW.cond rfl (fun hb5 => ?_) (fun hb5 => ?_)
   ·replace h := h.1 hb5
    refine CW.seq ?_
    refine CW.region fun L hL => ?_
    refine LW.rd hL rfl (Wants.free rfl) rfl (Rd.move (v := .slice r17 r17n r17c) rfl) ?_
    refine LW.rd hL rfl (Wants.free rfl) rfl (Rd.builtin (v := .int .i64 (r17n : Int)) rfl (fun _ _ => by kernel_rfl)) ?_
    refine LW.rd hL rfl (Wants.free rfl) rfl (Rd.bin (v := .bool ((r17n : Int) == 0)) rfl rfl (fun w => by kernel_rfl)) ?_
    refine LW.rd hL rfl (Wants.free rfl) rfl (Rd.move (v := .bool ((r17n : Int) == 0)) rfl) ?_
    suffices K2 : L 7 [(1, .int .u32 set1), (2, .slice places1 places1n places1c), (6, .bool false), (10, .pointer (some (⟨b2, 0, none⟩ : Addr))), (12, .slice r17 r17n r17c), (13, .int .i64 r18), (81, .bool ((r17n : Int) == 0 && r18 == 2))] w14 by
     rcases Bool.eq_false_or_eq_true ((r17n : Int) == 0) with hb7 | hb7
     ·skip
      refine LW.rd hL rfl (Wants.on rfl rfl rfl rfl rfl hb7) rfl (Rd.move (v := .int .i64 r18) rfl) ?_
      refine LW.rd hL rfl (Wants.on rfl rfl rfl rfl rfl hb7) rfl (Rd.bin (v := .bool (r18 == 2)) rfl rfl (fun w => by kernel_rfl)) ?_
      refine LW.rd hL rfl (Wants.free rfl) rfl (Rd.pickT rfl hb7 rfl) ?_
      exact LW.sub hL (by exact ⟨rfl, rfl, rfl, rfl, rfl, rfl, (by rw [hb7]; rfl), trivial⟩) K2
     ·skip
      refine LW.skip hL rfl (Skips.on rfl rfl rfl rfl rfl hb7) rfl ?_
      refine LW.skip hL rfl (Skips.on rfl rfl rfl rfl rfl hb7) rfl ?_
      refine LW.rd hL rfl (Wants.free rfl) rfl (Rd.pickF rfl hb7 rfl) ?_
      exact LW.sub hL (by exact ⟨rfl, rfl, rfl, rfl, rfl, rfl, (by rw [hb7]; rfl), trivial⟩) K2
    refine LW.rd hL rfl (Wants.free rfl) rfl (Rd.move (v := .bool ((r17n : Int) == 0 && r18 == 2)) rfl) ?_
    obtain ⟨J1, hJ1, h1_J1, h0_J1⟩ := h
    suffices K3 : ∀ (b3 : Bool) (w15 : World), Boxes w15 [(b2, [.int .i64 c1, .int .i64 c2, .int .i64 c3, .slice c4 c4n c4c, .slice c5 c5n c5c], 64)] → J1 b3 w15 → L 10 [(1, .int .u32 set1), (2, .slice places1 places1n places1c), (6, .bool false), (10, .pointer (some (⟨b2, 0, none⟩ : Addr))), (12, .slice r17 r17n r17c), (13, .int .i64 r18), (84, .bool b3)] w15 by
     rcases Bool.eq_false_or_eq_true ((r17n : Int) == 0 && r18 == 2) with hb8 | hb8
     ·have h := h1_J1 hb8
      refine LW.call hL rfl (Wants.on rfl rfl rfl rfl rfl hb8) rfl (Cl.fn (f := 6) rfl Tryz.func6 (by kernel_rfl) rfl) h (fun e w16 h_ => ?_)
      clear h
      obtain ⟨r19, rfl, h⟩ := h_
      obtain ⟨hsm5, h⟩ := h
      replace hB := Boxes.sameS hB hsm5 (by simp)
      refine ⟨_, rfl, ?_⟩
      refine LW.rd hL rfl (Wants.free rfl) rfl (Rd.pickT rfl hb8 rfl) ?_
      exact LW.sub hL (by exact ⟨rfl, rfl, rfl, rfl, rfl, rfl, rfl, trivial⟩) (K3 r19 w16 (by exact hB) h)
     ·have h := h0_J1 hb8
      refine LW.skip hL rfl (Skips.on rfl rfl rfl rfl rfl hb8) rfl ?_
      refine LW.rd hL rfl (Wants.free rfl) rfl (Rd.pickF rfl hb8 rfl) ?_
      exact LW.sub hL (by exact ⟨rfl, rfl, rfl, rfl, rfl, rfl, rfl, trivial⟩) (K3 false w14 (by exact hB) h)
    intro b3 w15 hB h_
    have h := hJ1 b3 w15 h_; clear h_
    refine LW.rd hL rfl (Wants.free rfl) rfl (Rd.assign (v := .bool b3) rfl) ?_
    refine LW.nil hL rfl ?_
    refine NW.then ?_
    refine CW.ret ?_
    refine RW.then ?_
    exact res1 rfl rfl ⟨b3, rfl, h⟩
   ·replace h := h.2 hb5
    refine CW.skip ?_
    refine NW.then ?_
    refine CW.seq ?_
    refine CW.region fun L hL => ?_
    refine LW.rd hL rfl (Wants.free rfl) rfl (Rd.assign (v := .slice none 0 0) rfl) ?_
    refine LW.nil hL rfl ?_
    refine NW.then ?_
    refine CW.seq ?_
    refine CW.seq ?_
    refine CW.region fun L hL => ?_
    refine LW.rd hL rfl (Wants.free rfl) rfl (Rd.assign (v := .int .i64 0) rfl) ?_
    refine LW.nil hL rfl ?_
    refine NW.then ?_
    refine CW.block ?_
    obtain ⟨I2, m2, hI2, h⟩ := h
    refine CW.loop (S := (Option Addr) × Nat × Nat × Int) (fun s2 => [(1, .int .u32 set1), (2, .slice places1 places1n places1c), (6, .bool false), (10, .pointer (some (⟨b2, 0, none⟩ : Addr))), (12, .slice r17 r17n r17c), (13, .int .i64 r18), (14, .slice s2.1 s2.2.1 s2.2.2.1), (15, .int .i64 s2.2.2.2)]) (fun s2 w17 => I2 s2.1 s2.2.1 s2.2.2.1 s2.2.2.2 w17 ∧ Boxes w17 [(b2, [.int .i64 c1, .int .i64 c2, .int .i64 c3, .slice c4 c4n c4c, .slice c5 c5n c5c], 64)]) (fun s2 w17 => m2 s2.1 s2.2.1 s2.2.2.1 s2.2.2.2 w17) (none, 0, 0, 0) (by exact ⟨rfl, rfl, rfl, rfl, rfl, rfl, rfl, rfl, trivial⟩) ⟨hI2, hB⟩ (fun s2 w17 hI2 => ?_)
    obtain ⟨hI2, hB⟩ := hI2
    obtain ⟨want1, want1n, want1c, i2⟩ := s2; replace h := h want1 want1n want1c i2 w17 hI2
    refine CW.seq ?_
    refine CW.seq ?_
    refine CW.region fun L hL => ?_
    refine LW.rd hL rfl (Wants.free rfl) rfl (Rd.move (v := .int .i64 i2) rfl) ?_
    refine LW.rd hL rfl (Wants.free rfl) rfl (Rd.fa (v := .pointer (some (⟨b2, 4, none⟩ : Addr))) rfl (fun _ => by kernel_rfl)) ?_
    refine LW.rd hL rfl (Wants.free rfl) rfl (Rd.ld (v := .slice c5 c5n c5c) rfl (by kernel_rfl) (eqs (box_cell (hB.at (i := 0) rfl) rfl))) ?_
    refine LW.rd hL rfl (Wants.free rfl) rfl (Rd.builtin (v := .int .i64 (c5n : Int)) rfl (fun _ _ => by kernel_rfl)) ?_
    refine LW.rd hL rfl (Wants.free rfl) rfl (Rd.bin (v := .bool (decide (i2 < (c5n : Int)))) rfl rfl (fun w => by kernel_rfl)) ?_
    refine LW.nil hL rfl ?_
    refine NW.then ?_
    refine CW.cond rfl (fun hb9 => ?_) (fun hb9 => ?_)
    ·replace h := h.1 hb9
     refine CW.skip ?_
     refine NW.then ?_
     obtain ⟨J2, hJ2, h⟩ := h
     refine CW.cut (S := (Option Addr) × Nat × Nat) (fun s3 => [(1, .int .u32 set1), (2, .slice places1 places1n places1c), (6, .bool false), (10, .pointer (some (⟨b2, 0, none⟩ : Addr))), (12, .slice r17 r17n r17c), (13, .int .i64 r18), (15, .int .i64 i2), (14, .slice s3.1 s3.2.1 s3.2.2)]) (fun s3 w18 => J2 s3.1 s3.2.1 s3.2.2 w18 ∧ Boxes w18 [(b2, [.int .i64 c1, .int .i64 c2, .int .i64 c3, .slice c4 c4n c4c, .slice c5 c5n c5c], 64)]) (fun s3 w18 h_ => ?_) ?_
     ·obtain ⟨h_, hB⟩ := h_; obtain ⟨want2, want2n, want2c⟩ := s3; replace h := hJ2 want2 want2n want2c w18 h_; clear h_
      refine CW.region fun L hL => ?_
      refine LW.rd hL rfl (Wants.free rfl) rfl (Rd.move (v := .int .i64 i2) rfl) ?_
      refine LW.rd hL rfl (Wants.free rfl) rfl (Rd.bin (v := .int .i64 (IntKind.wrap .i64 (i2 + 1))) rfl rfl (fun w => by kernel_rfl)) ?_
      refine LW.rd hL rfl (Wants.free rfl) rfl (Rd.assign (v := .int .i64 (IntKind.wrap .i64 (i2 + 1))) rfl) ?_
      refine LW.nil hL rfl ?_
      exact NW.loop (S := (Option Addr) × Nat × Nat × Int) (Ek := fun s2 => [(1, .int .u32 set1), (2, .slice places1 places1n places1c), (6, .bool false), (10, .pointer (some (⟨b2, 0, none⟩ : Addr))), (12, .slice r17 r17n r17c), (13, .int .i64 r18), (14, .slice s2.1 s2.2.1 s2.2.2.1), (15, .int .i64 s2.2.2.2)]) (want2, want2n, want2c, IntKind.wrap .i64 (i2 + 1)) (by exact ⟨rfl, rfl, rfl, rfl, rfl, rfl, rfl, rfl, trivial⟩) ⟨⟨h.1, hB⟩, h.2⟩
     ·skip
      refine CW.block ?_
      refine CW.seq ?_
      refine CW.region fun L hL => ?_
      refine LW.rd hL rfl (Wants.free rfl) rfl (Rd.fa (v := .pointer (some (⟨b2, 4, none⟩ : Addr))) rfl (fun _ => by kernel_rfl)) ?_
      refine LW.rd hL rfl (Wants.free rfl) rfl (Rd.ld (v := .slice c5 c5n c5c) rfl (by kernel_rfl) (eqs (box_cell (hB.at (i := 0) rfl) rfl))) ?_
      refine LW.rd hL rfl (Wants.free rfl) rfl (Rd.move (v := .int .i64 i2) rfl) ?_
      obtain ⟨a2, he2, hi9, hi10, h⟩ := h
      refine LW.rd hL rfl (Wants.free rfl) rfl (Rd.iaS (q := a2) (sz := 3) (by rw [← he2]; rfl) rfl Tryz.underlying62 (by kernel_rfl) hi9 hi10) ?_
      refine LW.rd hL rfl (Wants.free rfl) rfl (Rd.fa (v := .pointer (some ((a2.add (Int.toNat i2 * 3)).add 2))) rfl (fun _ => by kernel_rfl)) ?_
      obtain ⟨t7, hc5, h⟩ := h
      refine LW.rd hL rfl (Wants.free rfl) rfl (Rd.ld (v := .int .u32 t7) rfl (by kernel_rfl) (eqs hc5)) ?_
      refine LW.rd hL rfl (Wants.free rfl) rfl (Rd.move (v := .int .u32 set1) rfl) ?_
      refine LW.rd hL rfl (Wants.free rfl) rfl (Rd.bin (v := .int .u32 (bits .and .u32 t7 set1)) rfl rfl (fun w => by kernel_rfl)) ?_
      refine LW.rd hL rfl (Wants.free rfl) rfl (Rd.bin (v := .bool (!((bits .and .u32 t7 set1) == 0))) rfl rfl (fun w => by kernel_rfl)) ?_
      refine LW.nil hL rfl ?_
      refine NW.then ?_
      refine CW.cond rfl (fun hb10 => ?_) (fun hb10 => ?_)
      ·replace h := h.1 hb10
       refine CW.region fun L hL => ?_
       refine LW.rd hL rfl (Wants.free rfl) rfl (Rd.move (v := .slice want1 want1n want1c) rfl) ?_
       refine LW.rd hL rfl (Wants.free rfl) rfl (Rd.fa (v := .pointer (some (⟨b2, 4, none⟩ : Addr))) rfl (fun _ => by kernel_rfl)) ?_
       refine LW.rd hL rfl (Wants.free rfl) rfl (Rd.ld (v := .slice c5 c5n c5c) rfl (by kernel_rfl) (eqs (box_cell (hB.at (i := 0) rfl) rfl))) ?_
       refine LW.rd hL rfl (Wants.free rfl) rfl (Rd.move (v := .int .i64 i2) rfl) ?_
       refine LW.rd hL rfl (Wants.free rfl) rfl (Rd.iaS (q := a2) (sz := 3) (by rw [← he2]; rfl) rfl Tryz.underlying62 (by kernel_rfl) hi9 hi10) ?_
       refine LW.rd hL rfl (Wants.free rfl) rfl (Rd.fa (v := .pointer (some (a2.add (Int.toNat i2 * 3)))) rfl (fun _ => by kernel_rfl)) ?_
       obtain ⟨t8, t9, hc6, h⟩ := h
       refine LW.rd hL rfl (Wants.free rfl) rfl (Rd.ldN (cs := [.int .i64 t8, .int .i64 t9]) rfl (by kernel_rfl) (by kernel_rfl) (cellsS hc6)) ?_
       obtain ⟨b4, hb_b4⟩ : ∃ b4, b4 = World.size w17 := ⟨_, rfl⟩
       obtain ⟨w19, hw_w19⟩ : ∃ w19, w19 = World.alloc w17 (.cells #[.int .i64 t8, .int .i64 t9] 25) := ⟨_, rfl⟩
       replace h := h b4 hb_b4 w19 hw_w19
       refine LW.val hL rfl (Wants.free rfl) rfl (sliceE (n := 1) hb_b4 hw_w19 (fun w => Vl.buildSlice (vs := [(0, .agg #[.int .i64 t8, .int .i64 t9])]) rfl (by kernel_rfl))) ?_
       replace hB := hB.grow hw_w19
       obtain ⟨l1, l1n, l1c, w20, ha1, h⟩ := h
       refine LW.val hL rfl (Wants.free rfl) rfl (Vl.builtin (v := .slice l1 l1n l1c) rfl (valB ha1)) ?_
       obtain ⟨hsm6, h⟩ := h
       replace hB := Boxes.sameS hB hsm6 (by simp)
       refine LW.rd hL rfl (Wants.free rfl) rfl (Rd.assign (v := .slice l1 l1n l1c) rfl) ?_
       refine LW.nil hL rfl ?_
       refine NW.block ?_
       exact NW.cut (S := (Option Addr) × Nat × Nat) (Ek := fun s3 => [(1, .int .u32 set1), (2, .slice places1 places1n places1c), (6, .bool false), (10, .pointer (some (⟨b2, 0, none⟩ : Addr))), (12, .slice r17 r17n r17c), (13, .int .i64 r18), (15, .int .i64 i2), (14, .slice s3.1 s3.2.1 s3.2.2)]) (l1, l1n, l1c) (by exact ⟨rfl, rfl, rfl, rfl, rfl, rfl, rfl, rfl, trivial⟩) ⟨h, hB⟩
      ·replace h := h.2 hb10
       refine CW.skip ?_
       refine NW.block ?_
       exact NW.cut (S := (Option Addr) × Nat × Nat) (Ek := fun s3 => [(1, .int .u32 set1), (2, .slice places1 places1n places1c), (6, .bool false), (10, .pointer (some (⟨b2, 0, none⟩ : Addr))), (12, .slice r17 r17n r17c), (13, .int .i64 r18), (15, .int .i64 i2), (14, .slice s3.1 s3.2.1 s3.2.2)]) (want1, want1n, want1c) (by exact ⟨rfl, rfl, rfl, rfl, rfl, rfl, rfl, rfl, trivial⟩) ⟨h, hB⟩
    ·replace h := h.2 hb9
     refine CW.exit ?_
     refine XW.then ?_
     refine XW.then ?_
     refine XW.hit ?_
     refine NW.then ?_
     refine CW.seq ?_
     refine CW.seq ?_
     refine CW.region fun L hL => ?_
     refine LW.rd hL rfl (Wants.free rfl) rfl (Rd.assign (v := .int .i64 0) rfl) ?_
     refine LW.nil hL rfl ?_
     refine NW.then ?_
     refine CW.block ?_
     obtain ⟨I3, m3, hI3, h⟩ := h
     refine CW.loop (S := Bool × Int) (fun s4 => [(2, .slice places1 places1n places1c), (12, .slice r17 r17n r17c), (13, .int .i64 r18), (14, .slice want1 want1n want1c), (6, .bool s4.1), (16, .int .i64 s4.2)]) (fun s4 w21 => I3 s4.1 s4.2 w21) (fun s4 w21 => m3 s4.1 s4.2 w21) (false, 0) (by exact ⟨rfl, rfl, rfl, rfl, rfl, rfl, trivial⟩) hI3 (fun s4 w21 hI3 => ?_)
     obtain ⟨x1, i3⟩ := s4; replace h := h x1 i3 w21 hI3
     refine CW.seq ?_
     refine CW.seq ?_
     refine CW.region fun L hL => ?_
     refine LW.rd hL rfl (Wants.free rfl) rfl (Rd.move (v := .int .i64 i3) rfl) ?_
     refine LW.rd hL rfl (Wants.free rfl) rfl (Rd.move (v := .slice places1 places1n places1c) rfl) ?_
     refine LW.rd hL rfl (Wants.free rfl) rfl (Rd.builtin (v := .int .i64 (places1n : Int)) rfl (fun _ _ => by kernel_rfl)) ?_
     refine LW.rd hL rfl (Wants.free rfl) rfl (Rd.bin (v := .bool (decide (i3 < (places1n : Int)))) rfl rfl (fun w => by kernel_rfl)) ?_
     refine LW.nil hL rfl ?_
     refine NW.then ?_
     refine CW.cond rfl (fun hb11 => ?_) (fun hb11 => ?_)
     ·replace h := h.1 hb11
      refine CW.skip ?_
      refine NW.then ?_
      refine CW.seq ?_
      refine CW.block ?_
      refine CW.seq ?_
      obtain ⟨w22, hw_w22⟩ : ∃ x, x = World.drew w21 := ⟨_, rfl⟩
      have hc_w22 := sil_drew (Chg.refl [] w21) hw_w22
      replace h := h  w22  hc_w22
      obtain ⟨a3, he3, hi13, hi14, h⟩ := h
      obtain ⟨t10, t11, hc7, h⟩ := h
      refine CW.drawn (fun w => CellsAt w (a3.add (Int.toNat i3 * 2)) 0 [.int .i64 t10, .int .i64 t11] ∧ True) 9 (by kernel_rfl) fun H hH => ?_
      rw [← hw_w22]
      have hS4 : CellsAt w22 (a3.add (Int.toNat i3 * 2)) 0 [.int .i64 t10, .int .i64 t11] ∧ True := ⟨hc7, trivial⟩
      refine HW.pure (i := 0) hH rfl (by kernel_rfl) (Wants.free rfl) rfl (fun _ => hS4) (Rd.move (v := .slice places1 places1n places1c) rfl) ?_
      refine HW.pure (i := 1) hH rfl (by kernel_rfl) (Wants.free rfl) rfl (fun _ => hS4) (Rd.move (v := .int .i64 i3) rfl) ?_
      refine HW.pure (i := 2) hH rfl (by kernel_rfl) (Wants.free rfl) rfl (fun _ => hS4) (Rd.iaS (q := a3) (sz := 2) (by rw [← he3]; rfl) rfl Tryz.underlying34 (by kernel_rfl) hi13 hi14) ?_
      refine HW.take (i := 3) hH rfl (by kernel_rfl) (by kernel_rfl) (Wants.free rfl) rfl (fun _ => hS4) (Rd.ldN (cs := [.int .i64 t10, .int .i64 t11]) rfl (by kernel_rfl) (by kernel_rfl) (fun w h => cellsAt_get h.1)) ?_
      refine HW.pure (i := 5) hH rfl (by kernel_rfl) (Wants.free rfl) rfl (fun _ => hS4) (Rd.move (v := .slice places1 places1n places1c) rfl) ?_
      refine HW.pure (i := 6) hH rfl (by kernel_rfl) (Wants.free rfl) rfl (fun _ => hS4) (Rd.move (v := .int .i64 i3) rfl) ?_
      refine HW.pure (i := 7) hH rfl (by kernel_rfl) (Wants.free rfl) rfl (fun _ => hS4) (Rd.iaS (q := a3) (sz := 2) (by rw [← he3]; rfl) rfl Tryz.underlying34 (by kernel_rfl) hi13 hi14) ?_
      refine HW.take (i := 8) hH rfl (by kernel_rfl) (by kernel_rfl) (Wants.free rfl) rfl (fun _ => hS4) (Rd.ldN (cs := [.int .i64 t10, .int .i64 t11]) rfl (by kernel_rfl) (by kernel_rfl) (fun w h => cellsAt_get h.1)) ?_
      refine HW.call (i := 4) hH (by kernel_rfl) rfl (Wants.free rfl) rfl (Cl.fn (f := 20) rfl Tryz.func20 (by kernel_rfl) rfl) h (fun e w23 h_ => ?_)
      clear h
      obtain ⟨r20, rfl, hS5, h⟩ := h_
      have hS6 := (⟨hS5, trivial⟩ : CellsAt w23 (a3.add (Int.toNat i3 * 2)) 0 [.int .i64 t10, .int .i64 t11] ∧ True)
      refine ⟨_, rfl, (fun _ => hS6), ?_⟩
      refine HW.call (i := 9) hH (by kernel_rfl) rfl (Wants.free rfl) rfl (Cl.fn (f := 21) rfl Tryz.func21 (by kernel_rfl) rfl) h (fun e w24 h_ => ?_)
      clear h
      obtain ⟨r21, rfl, h⟩ := h_
      refine ⟨_, rfl, (fun hc => by cases hc), ?_⟩
      obtain ⟨t12, hx1, h⟩ := h
      refine HW.pure (i := 10) hH rfl (by kernel_rfl) (Wants.free rfl) rfl (fun hc => by cases hc) (Rd.bin (v := .bool t12) rfl rfl hx1) ?_
      refine HW.done hH (by kernel_rfl) ?_
      refine NW.then ?_
      refine CW.cond rfl (fun hb12 => ?_) (fun hb12 => ?_)
      ·replace h := h.1 hb12
       refine CW.seq ?_
       refine CW.region fun L hL => ?_
       refine LW.rd hL rfl (Wants.free rfl) rfl (Rd.assign (v := .bool false) rfl) ?_
       refine LW.nil hL rfl ?_
       refine NW.then ?_
       refine CW.ret ?_
       refine RW.block ?_
       refine RW.then ?_
       refine RW.then ?_
       refine RW.block ?_
       refine RW.then ?_
       exact res1 rfl rfl ⟨false, rfl, h⟩
      ·replace h := h.2 hb12
       refine CW.skip ?_
       refine NW.block ?_
       refine NW.then ?_
       refine CW.region fun L hL => ?_
       refine LW.rd hL rfl (Wants.free rfl) rfl (Rd.move (v := .int .i64 i3) rfl) ?_
       refine LW.rd hL rfl (Wants.free rfl) rfl (Rd.bin (v := .int .i64 (IntKind.wrap .i64 (i3 + 1))) rfl rfl (fun w => by kernel_rfl)) ?_
       refine LW.rd hL rfl (Wants.free rfl) rfl (Rd.assign (v := .int .i64 (IntKind.wrap .i64 (i3 + 1))) rfl) ?_
       refine LW.nil hL rfl ?_
       exact NW.loop (S := Bool × Int) (Ek := fun s4 => [(2, .slice places1 places1n places1c), (12, .slice r17 r17n r17c), (13, .int .i64 r18), (14, .slice want1 want1n want1c), (6, .bool s4.1), (16, .int .i64 s4.2)]) (x1, IntKind.wrap .i64 (i3 + 1)) (by exact ⟨rfl, rfl, rfl, rfl, rfl, rfl, trivial⟩) h
     ·replace h := h.2 hb11
      refine CW.exit ?_
      refine XW.then ?_
      refine XW.then ?_
      refine XW.hit ?_
      refine NW.then ?_
      refine CW.seq ?_
      refine CW.region fun L hL => ?_
      refine LW.rd hL rfl (Wants.free rfl) rfl (Rd.move (v := .int .i64 r18) rfl) ?_
      refine LW.rd hL rfl (Wants.free rfl) rfl (Rd.bin (v := .bool (r18 == 0)) rfl rfl (fun w => by kernel_rfl)) ?_
      refine LW.rd hL rfl (Wants.free rfl) rfl (Rd.move (v := .bool (r18 == 0)) rfl) ?_
      obtain ⟨J3, hJ3, h1_J3, h0_J3⟩ := h
      suffices K4 : ∀ (b5 : Bool) (w25 : World), J3 b5 w25 → L 7 [(6, .bool x1), (133, .bool b5)] w25 by
       rcases Bool.eq_false_or_eq_true (r18 == 0) with hb13 | hb13
       ·have h := h1_J3 hb13
        refine LW.rd hL rfl (Wants.on rfl rfl rfl rfl rfl hb13) rfl (Rd.move (v := .slice r17 r17n r17c) rfl) ?_
        refine LW.rd hL rfl (Wants.on rfl rfl rfl rfl rfl hb13) rfl (Rd.move (v := .slice want1 want1n want1c) rfl) ?_
        refine LW.call hL rfl (Wants.on rfl rfl rfl rfl rfl hb13) rfl (Cl.fn (f := 22) rfl Tryz.func22 (by kernel_rfl) rfl) h (fun e w26 h_ => ?_)
        clear h
        obtain ⟨r22, rfl, h⟩ := h_
        refine ⟨_, rfl, ?_⟩
        refine LW.rd hL rfl (Wants.free rfl) rfl (Rd.pickT rfl hb13 rfl) ?_
        exact LW.sub hL (by exact ⟨rfl, rfl, trivial⟩) (K4 r22 w26 h)
       ·have h := h0_J3 hb13
        refine LW.skip hL rfl (Skips.on rfl rfl rfl rfl rfl hb13) rfl ?_
        refine LW.skip hL rfl (Skips.on rfl rfl rfl rfl rfl hb13) rfl ?_
        refine LW.skip hL rfl (Skips.on rfl rfl rfl rfl rfl hb13) rfl ?_
        refine LW.rd hL rfl (Wants.free rfl) rfl (Rd.pickF rfl hb13 rfl) ?_
        exact LW.sub hL (by exact ⟨rfl, rfl, trivial⟩) (K4 false w21 h)
      intro b5 w25 h_
      have h := hJ3 b5 w25 h_; clear h_
      refine LW.rd hL rfl (Wants.free rfl) rfl (Rd.move (v := .bool b5) rfl) ?_
      obtain ⟨J4, hJ4, h1_J4, h0_J4⟩ := h
      suffices K5 : ∀ (b6 : Bool) (w27 : World), J4 b6 w27 → L 10 [(6, .bool x1), (136, .bool b6)] w27 by
       rcases Bool.eq_false_or_eq_true b5 with hb14 | hb14
       ·have h := h1_J4 hb14
        refine LW.call hL rfl (Wants.on rfl rfl rfl rfl rfl hb14) rfl (Cl.fn (f := 6) rfl Tryz.func6 (by kernel_rfl) rfl) h (fun e w28 h_ => ?_)
        clear h
        obtain ⟨r23, rfl, h⟩ := h_
        refine ⟨_, rfl, ?_⟩
        refine LW.rd hL rfl (Wants.free rfl) rfl (Rd.pickT rfl hb14 rfl) ?_
        exact LW.sub hL (by exact ⟨rfl, rfl, trivial⟩) (K5 r23 w28 h)
       ·have h := h0_J4 hb14
        refine LW.skip hL rfl (Skips.on rfl rfl rfl rfl rfl hb14) rfl ?_
        refine LW.rd hL rfl (Wants.free rfl) rfl (Rd.pickF rfl hb14 rfl) ?_
        exact LW.sub hL (by exact ⟨rfl, rfl, trivial⟩) (K5 false w25 h)
      intro b6 w27 h_
      have h := hJ4 b6 w27 h_; clear h_
      refine LW.rd hL rfl (Wants.free rfl) rfl (Rd.assign (v := .bool b6) rfl) ?_
      refine LW.nil hL rfl ?_
      refine NW.then ?_
      refine CW.ret ?_
      exact res1 rfl rfl ⟨b6, rfl, h⟩
end Go.Proofs.YtfcfkhbkkfpehaaGreatDoor
end
section
/- QueryWho: the walk. -/
namespace Go.Proofs.YtfcfkhbkkfpehaaGreatDoor
open Go Go.RowKit Go.X Go.XR
theorem Good.mark {R : Rf} (h : Good R.fr R.se R.pairs) (p : Pl) (n set : Int) : Good R.fr R.se (refMark R p n set).pairs := by
 unfold refMark
 split
 ·rename_i he
  refine h.fill _ fun i hi => ?_
  unfold refMarkE at he
  split at he
  ·cases he
  ·rename_i k1
   split at he
   ·cases he
   ·rename_i k2
    have m1 : mayP R.fr R.se p := by
     apply Classical.byContradiction; intro k; exact k1 (.inl k)
    have m2 : mayP R.fr R.se (p.1, p.2 + n - 1) := by
     apply Classical.byContradiction; intro k; exact k2 (.inr (.inr ⟨by omega, k⟩))
    obtain ⟨q1, q2, q3, q4⟩ := m1
    obtain ⟨_, _, _, q5⟩ := m2
    simp only [] at q5
    exact ⟨q1, q2, by simp only []; omega, by simp only []; omega⟩
 ·exact h
theorem madeR_good (ms : List Pr) : Good 2 2 (madeR ms).pairs := by
 have : ∀ (ms : List Pr) (R : Rf), R.fr = 2 → R.se = 2 → Good 2 2 R.pairs → Good 2 2 (ms.foldl (fun R m => refMark R m.1 1 m.2) R).pairs := by
  intro ms
  induction ms with
  | nil => intro R _ _ h; exact h
  | cons m ms ih =>
   intro R h1 h2 h
   obtain ⟨a, b, _⟩ := refMark_shape R m.1 1 m.2
   refine ih _ (by rw [a, h1]) (by rw [b, h2]) ?_
   have := Good.mark (R := R) (by rw [h1, h2]; exact h) m.1 1 m.2
   rw [h1, h2] at this; exact this
 exact this ms _ rfl rfl (Good.nil _ _)
theorem made_rel (ms : List Pr) : RelF (madeF ms) (madeR ms) := by
 have : ∀ (ms : List Pr) (F : Fl) (R : Rf), RelF F R → RelF (ms.foldl (fun F m => markF F m.1 1 m.2) F) (ms.foldl (fun R m => refMark R m.1 1 m.2) R) := by
  intro ms
  induction ms with
  | nil => intro F R h; exact h
  | cons m ms ih => intro F R h; exact ih _ _ (h.mark _ _ _)
 exact this ms _ _ (RelF.new 2 2 65536)
theorem who_walk {w : World} (ht : Tab w) {S : Nat → Prop} {p q : Option Addr} {n c qn qc : Nat} {ms : List Pr} {ps : List Pl} (hm : MarksAt w S p n ms) (hn : n ≤ maxLen) (hp : PlacesAt w S q qn ps) (hS : ∀ i, S i → i < w.heap.size) (set : Int) :
  Calls Tryz.prog 4 #[.slice p n c, .int .u32 set, .slice q qn qc] w fun e w' => ∃ r : Bool, e = .returned (.bool r) ∧ (r = true ∧ Chg [] w w') := by
 have hml := hm.length
 have hpl := hp.length
 refine go_pomanderlaw14_QueryWho _ _ _ _ _ _ _ _ _ ?_
 unfold W_pomanderlaw14_QueryWho
 have known : ∀ {A : World}, Chg [] w A → Calls Tryz.prog 6 #[] A fun e w3 => ∃ (r3 : Bool), e = .returned (.bool r3) ∧ (r3 = true ∧ Chg [] w w3) := fun hA => by
  refine (known_ok _).mono ?_
  rintro _ w3 ⟨_, rfl, rfl, c3⟩
  exact ⟨_, rfl, rfl, hA.trans0 c3⟩
 refine ⟨fun _ => known (Chg.refl _ _), fun hok => ?_⟩
 simp only [Bool.or_eq_false_iff, decide_eq_false_iff_not] at hok
 obtain ⟨hm30, hp30⟩ := hok
 rintro b1 w3 ⟨l1, u1⟩ c3
 have s3 := c3.size
 refine (flow_new w3 2 2 65536).mono ?_
 rintro _ w4 ⟨r3, r4, rfl, c4, hr⟩
 rw [if_pos (by decide)] at hr
 obtain ⟨rfl, bf, fp, rfl, hF, hfp⟩ := hr
 have s4 := c4.size
 refine ⟨_, _, rfl, Same.chg c4 (by simpa using u1), ?_⟩
 refine (ref_new 2 2 65536).mono ?_
 rintro _ w5 ⟨r5, r6, r7, r8, r8n, r8c, r9, r9n, r9c, rfl, rfl, rfl, rfl, hR, c5, hrf⟩
 have s5 := c5.size
 refine ⟨_, _, _, _, _, _, _, _, _, rfl, ?_⟩
 rintro b2 w7 ⟨l2, u2⟩ c7
 have s7 := c7.size
 have c07 := ((c3.trans0 c4).trans0 c5).trans0 c7
 have hFl := hF.lt
 have hRl4 := hR.sets.lt
 have hRl5 := hR.pairs.lt
 refine ⟨fun i k1 k2 k3 q4 m4 k4 q5 m5 k5 w8 => ∃ (j : Nat) (fp' : List Nat), i = (j : Int) ∧ j ≤ ms.length ∧ 2 = k1 ∧ 2 = k2 ∧ 65536 = k3 ∧ FlowAt w8 bf (madeF (ms.take j)) fp' ∧ RefAt w8 (madeR (ms.take j)) q4 m4 k4 q5 m5 k5 ∧ Chg [] w w8 ∧ b2 < w8.heap.size ∧
   (∀ i ∈ fp', w.heap.size ≤ i ∧ i ≠ b2) ∧ (∀ i ∈ rowB q4 ++ rowB q5, w.heap.size ≤ i ∧ i ∉ fp' ∧ i ≠ b2),
  fun i _ _ _ _ _ _ _ _ _ _ => (ms.length - i).toNat, ⟨0, fp, rfl, Nat.zero_le _, rfl, rfl, rfl, hF.chg (c5.trans0 c7) (by simp), hR.chg c7 (by simp) (by simp), c07, u2, fun i hi => ?_, fun i hi => ?_⟩, ?_⟩
 ·have := hfp i hi; have := hFl i hi; exact ⟨by omega, by omega⟩
 ·have h1 := hrf i hi
  have h2 : i < w5.heap.size := by
   rcases List.mem_append.1 hi with h | h
   ·exact hRl4 i h
   ·exact hRl5 i h
  exact ⟨by omega, fun hmem => by have := hFl i hmem; omega, by omega⟩
 rintro _ _ _ _ q4 m4 k4 q5 m5 k5 w8 ⟨j, fp', rfl, hj, rfl, rfl, rfl, hF8, hR8, c8, u8, hfp8, hr8⟩
 have hF8l := hF8.lt
 have hR8l4 := hR8.sets.lt
 have hR8l5 := hR8.pairs.lt
 have hRok := madeR_ok (ms.take j)
 have hlen : (ms.take j).length ≤ 30 := by rw [List.length_take]; omega
 have hm4 := hR8.n4
 have hm5 := hR8.n5
 have s8 := c8.size
 refine ⟨fun hlt => ?_, fun hge => ?_⟩
 ·have hjn : j < ms.length := by have := of_decide_eq_true hlt; omega
  obtain ⟨x, hx⟩ := get_of hjn
  obtain ⟨kx, kx0, kx1, a, ha, hSa, hc⟩ := (hm.chg (f := []) c8 (by simp)).each j x hx
  refine ⟨a, ha, by omega, by omega, fun w9 c9 => ?_⟩
  have hc9 := c9.cells (by simp) hc
  have s9 := c9.size
  refine ⟨x.1.1, x.1.2, ⟨hc9.1, hc9.2.1, trivial⟩, x.2, hc9.2.2.1, ?_⟩
  refine (flow_mark (p1 := x.1.1) (p2 := x.1.2) (n := 1) (set := x.2) (hF8.chg c9 (by simp)) kx kx0).mono ?_
  rintro _ w10 ⟨r10, rfl, _, fp10, hF10, c10, hfp10⟩
  have s10 := c10.size
  have c010 : Chg [] w w10 := (c8.trans0 c9).trans c10 (fun i hi hl => by have := (hfp8 i hi).1; omega)
  refine ⟨_, rfl, Same.of c10 (fun i hi => by simp at hi; subst hi; exact ⟨by omega, fun hmem => (hfp8 _ hmem).2 rfl⟩), fun w11 c11 => ?_⟩
  have s11 := c11.size
  have c811 : Chg fp' w8 w11 := (c9.nil.trans c10 (fun _ h _ => h)).trans c11.nil (fun _ h _ => h)
  have c011 := c010.trans0 c11
  obtain ⟨_, _, _, a', ha', _, hc'⟩ := (hm.chg (f := []) c011 (by simp)).each j x hx
  rw [ha] at ha'
  cases ha'
  refine ⟨x.1.1, x.1.2, ⟨hc'.1, hc'.2.1, trivial⟩, x.2, hc'.2.2.1, ?_⟩
  have hR11 := hR8.chg c811 (fun i hi => (hr8 i (List.mem_append.2 (.inl hi))).2.1) (fun i hi => (hr8 i (List.mem_append.2 (.inr hi))).2.1)
  have hmark := ref_mark (p1 := x.1.1) (p2 := x.1.2) (n := 1) (set := x.2) hR11 (by omega) (by omega) hRok.2.2.2.2.2 (by rw [hRok.1, hRok.2.1]; omega) kx0
  rw [hRok.1, hRok.2.1, hRok.2.2.1] at hmark
  refine hmark.mono ?_
  rintro _ w12 ⟨r11, r12, r13, r14, r14n, r14c, r15, r15n, r15c, r16, rfl, rfl, rfl, rfl, _, hR12, c12, hf12⟩
  have s12 := c12.size
  have hc12 := c12.cells (by simp) hc'
  refine ⟨_, _, _, _, _, _, _, _, _, _, rfl, ⟨⟨hc12.1, hc12.2.1, trivial⟩, hc12.2.2.1⟩, Same.chg c12 (by simp; omega), fun w13 c13 => ?_⟩
  rw [wr (by omega) (by omega)]
  have s13 := c13.size
  have hF10l := hF10.lt
  have hfpn : ∀ i ∈ fp10, w.heap.size ≤ i ∧ i ≠ b2 := fun i hi => by
   rcases hfp10 i hi with h | h
   ·exact hfp8 i h
   ·exact ⟨by omega, by omega⟩
  have hnew : ∀ i ∈ rowB r14 ++ rowB r15, w.heap.size ≤ i ∧ i ∉ fp10 ∧ i ≠ b2 := fun i hi => by
   rcases hf12 i hi with h | h
   ·obtain ⟨g1, g2, g3⟩ := hr8 i h
    refine ⟨g1, fun hmem => ?_, g3⟩
    rcases hfp10 i hmem with h' | h'
    ·exact g2 h'
    ·rcases List.mem_append.1 h with h | h
     ·have := hR8l4 i h; omega
     ·have := hR8l5 i h; omega
   ·exact ⟨by omega, fun hmem => by have := hF10l i hmem; omega, by omega⟩
  have htk : ms.take (j + 1) = ms.take j ++ [x] := take_snoc hx
  refine ⟨⟨j + 1, fp10, by omega, by omega, rfl, rfl, rfl, ?_, ?_, (c011.trans0 c12).trans c13 (fun i hi hl => by simp at hi; omega), by omega, hfpn, hnew⟩, by simp only []; omega⟩
  ·rw [htk, madeF_snoc]
   exact ((hF10.chg c11 (by simp)).chg c12 (by simp)).chg c13 (fun i hi hmem => by simp at hmem; exact (hfpn i hi).2 hmem)
  ·rw [htk, madeR_snoc]
   exact hR12.chg c13 (fun i hi hmem => by simp at hmem; exact (hnew i (List.mem_append.2 (.inl hi))).2.2 hmem) (fun i hi hmem => by simp at hmem; exact (hnew i (List.mem_append.2 (.inr hi))).2.2 hmem)
 have hjn : j = ms.length := by have := of_decide_eq_false hge; omega
 have hfr : (madeF (ms.take j)).fr = 2 ∧ (madeF (ms.take j)).se = 2 := by
  have hr := made_rel (ms.take j)
  exact ⟨by rw [← hRok.1, hr.fr], by rw [← hRok.2.1, hr.se]⟩
 refine (who_ok hF8 (by rw [hfr.1]; decide) (by rw [hfr.2]; decide) set).mono ?_
 rintro _ w14 ⟨r17, r17n, r17c, r18, rfl, c14, hwho⟩
 have s14 := c14.size
 have c014 := c8.trans0 c14
 refine ⟨_, _, _, _, rfl, Same.chg c14 (by simpa using u8), fun hbig => ?_, fun hsm => ?_⟩
 ·have hbig' := of_decide_eq_true hbig
  rw [if_pos hbig'] at hwho
  obtain ⟨rfl, rfl⟩ := hwho
  refine ⟨fun b w15 => b = true ∧ Chg [] w w15, fun b w15 h => h, fun _ => ?_, fun hbad => by simp at hbad⟩
  refine (known_ok w14).mono ?_
  rintro _ w16 ⟨_, rfl, rfl, c16⟩
  exact ⟨_, rfl, Same.chg c16 (by simp; omega), rfl, c014.trans0 c16⟩
 have hsm' := of_decide_eq_false hsm
 rw [if_neg hsm'] at hwho
 obtain ⟨rfl, ys, hfull, hcs, hrf14⟩ := hwho
 have hR14 := hR8.chg c14 (by simp) (by simp)
 have hgood := madeR_good (ms.take j)
 have hpairs : (madeR (ms.take j)).pairs = ys.map fun z => (z, (madeF (ms.take j)).g z) := good_full (made_rel _) (by rw [hRok.1, hRok.2.1]; exact hgood) hfull
 -- the document's list
 have hwant : ∀ k, whoT set ((ys.take k).map (tell (madeF (ms.take j)))) = (((madeR (ms.take j)).pairs.take k).filter (fun x => !((bits .and .u32 x.2 set) == 0))).map Prod.fst := fun k => by
  rw [hpairs, ← List.map_take]
  unfold whoT
  rw [List.filter_map, List.filter_map, List.map_map, List.map_map]
  rfl
 refine ⟨fun want wantn wantc i w17 => ∃ k : Nat, i = (k : Int) ∧ k ≤ m5 ∧ RowAt w17 25 2 want wantn wantc ((whoT set ((ys.take k).map (tell (madeF (ms.take j))))).flatMap encPl) ∧ wantn = (whoT set ((ys.take k).map (tell (madeF (ms.take j))))).length ∧ (∀ i ∈ rowB want, w14.heap.size ≤ i) ∧ Chg [] w14 w17,
  fun _ _ _ i _ => (m5 - i).toNat, ⟨0, rfl, Nat.zero_le _, by simpa [whoT] using RowAt.nil, by simp [whoT], by simp [rowB], Chg.refl _ _⟩, ?_⟩
 rintro want wantn wantc _ w17 ⟨k, rfl, hk, hrow, hwn, hwf, c17⟩
 have s17 := c17.size
 have hyl : ys.length = m5 := by rw [hm5, hpairs, List.length_map]
 refine ⟨fun hlt2 => ?_, fun hge2 => ?_⟩
 ·have hkn : k < m5 := by have := of_decide_eq_true hlt2; omega
  obtain ⟨y, hy⟩ := get_of (l := ys) (j := k) (by omega)
  have hpr : (madeR (ms.take j)).pairs[k]? = some (y, (madeF (ms.take j)).g y) := by rw [hpairs, List.getElem?_map, hy]; rfl
  obtain ⟨a2, ha2, hc2⟩ := RowAt.elem (size := 3) (enc := encPr) (fun _ => rfl) (hR14.chg c17 (by simp) (by simp)).pairs hpr (by omega)
  have hstep : whoT set ((ys.take (k + 1)).map (tell (madeF (ms.take j)))) = whoT set ((ys.take k).map (tell (madeF (ms.take j)))) ++ if meets set (tell (madeF (ms.take j)) y) = true then [y] else [] := by
   rw [take_snoc hy, List.map_append, List.map_singleton, whoT_snoc]
   rfl
  refine ⟨fun want2 want2n want2c w18 => RowAt w18 25 2 want2 want2n want2c ((whoT set ((ys.take (k + 1)).map (tell (madeF (ms.take j))))).flatMap encPl) ∧ want2n = (whoT set ((ys.take (k + 1)).map (tell (madeF (ms.take j))))).length ∧ (∀ i ∈ rowB want2, w14.heap.size ≤ i) ∧ Chg [] w14 w18, ?_, a2, ha2, by omega, by omega, (madeF (ms.take j)).g y, hc2.2.2.1, fun hmt => ?_, fun hno => ?_⟩
  ·rintro want2 want2n want2c w18 kk
   rw [wr (by omega) (by omega)]
   exact ⟨⟨k + 1, by omega, by omega, kk⟩, by simp only []; omega⟩
  ·have hmt' : meets set (tell (madeF (ms.take j)) y) = true := hmt
   rw [hstep, if_pos hmt']
   refine ⟨y.1, y.2, ⟨hc2.1, hc2.2.1, trivial⟩, ?_⟩
   refine v_alloc fun b4 w19 e4 hb4 c19 => ?_
   have s19 := c19.size
   have hwl := whoT_len set ((ys.take k).map (tell (madeF (ms.take j))))
   rw [List.length_map, List.length_take] at hwl
   obtain ⟨p', n', c', w20, happ, hrow', hn', c20, hnew⟩ := push_place (x := y) (hrow.chg c19 (by simp)) hwn (by omega) hb4
   refine ⟨p', n', c', w20, happ, Same.of c20 (fun i hi => by simp at hi; subst hi; exact ⟨by omega, fun hmem => by have := hwf _ hmem; omega⟩), hrow', hn', fun i hi => ?_, (c17.trans0 c19).trans c20 (fun i hi hl => by have := hwf i hi; omega)⟩
   rcases hnew i hi with h' | h'
   ·exact hwf i h'
   ·omega
  ·have hno' : ¬ meets set (tell (madeF (ms.take j)) y) = true := by
    intro e
    have : meets set (tell (madeF (ms.take j)) y) = false := hno
    rw [e] at this; cases this
   rw [hstep, if_neg hno', List.append_nil]
   exact ⟨hrow, hwn, hwf, c17⟩
 have hkn : k = m5 := by have := of_decide_eq_false hge2; omega
 have hyt : ys.take k = ys := List.take_of_length_le (by omega)
 rw [hyt] at hrow hwn
 refine ⟨fun _ i w21 => ∃ m : Nat, i = (m : Int) ∧ m ≤ ps.length ∧ Chg [] w17 w21, fun _ i _ => (ps.length - i).toNat, ⟨0, rfl, Nat.zero_le _, Chg.refl _ _⟩, ?_⟩
 rintro x1 _ w21 ⟨m, rfl, hmm, c21⟩
 have c1421 := c17.trans0 c21
 have c021 := c014.trans0 c1421
 refine ⟨fun hlt3 w22 c22 => ?_, fun hge3 => ?_⟩
 ·have hmn : m < ps.length := by have := of_decide_eq_true hlt3; omega
  obtain ⟨x, hx⟩ := get_of hmn
  have c022 := c021.trans0 c22
  obtain ⟨hx1, hx2, a3, ha3, _, hcx⟩ := (hp.chg (f := []) c022 (by simp)).each m x hx
  refine ⟨a3, ha3, by omega, by omega, x.1, x.2, by simpa using hcx, ?_⟩
  refine (query_text (ht.chg c022) x hx2).mono ?_
  rintro _ w23 ⟨_, rfl, rfl, c23⟩
  refine ⟨_, rfl, by simpa using c23.cells (by simp) hcx, ?_⟩
  refine (ref_text (ht.chg (c022.trans0 c23)) x hx2).mono ?_
  rintro _ w24 ⟨_, rfl, rfl, c24⟩
  refine ⟨_, rfl, false, fun w => ne_str _ _ _ _ w, fun hbad => by simp at hbad, fun _ => ?_⟩
  rw [wr (by omega) (by omega)]
  exact ⟨⟨m + 1, by omega, by omega, (c21.trans0 c22).trans0 (c23.trans0 c24)⟩, by simp only []; omega⟩
 ·refine ⟨fun b w25 => b = true ∧ Chg [] w w25, ?_, fun _ => ?_, fun hbad => by simp at hbad⟩
  ·rintro _ w25 ⟨rfl, c25⟩
   refine ⟨fun b w27 => b = true ∧ Chg [] w w27, fun b w27 h => h, fun _ => ?_, fun hbad => by simp at hbad⟩
   exact known c25
  ·have hwl := whoT_len set (ys.map (tell (madeF (ms.take j))))
   rw [List.length_map] at hwl
   refine (same_places (hcs.chg c1421 (by simp)) (row_cells (hrow.chg c21 (by simp)) hwn) (by omega)).mono ?_
   rintro _ w26 ⟨_, rfl, rfl, c26⟩
   exact ⟨_, rfl, by simp, c021.trans0 c26⟩
end Go.Proofs.YtfcfkhbkkfpehaaGreatDoor
end
section
/- QueryWho: marks that came in; strconv's table out of what is listed. -/
namespace Go.Proofs.YtfcfkhbkkfpehaaGreatDoor
open Go Go.RowKit Go.X Go.ChangeShapes Go.WideShapes Go.ChangeAt
section
variable {H : Type} {enc : TypeId × Value → H} {w : World} {base : Nat} {spare : Nat → Bool} {held : Bool} {fuel : Nat} {cs : List Value} {x : DataW H × List MemPlace}
theorem open_mark14 (h : DataW.trod enc Tryz.prog w base spare held fuel 68 cs = some x) : ∃ m : Pr, cs = [.int .i64 m.1.1, .int .i64 m.1.2, .int .u32 m.2] ∧ i64s m.1.2 ∧ 0 ≤ m.2 ∧ m.2 < 4294967296 := by
 obtain ⟨xs, n, _, _, hl, hlen, hf⟩ := DataW.trod_struct Tryz.underlying68 h
 have h0 : DataW.trod enc Tryz.prog w base spare held n 25 ((cs.drop 0).take (Tryz.prog.cellsOf 25)) = xs[0]? := hf 0 _ rfl
 have h1 : DataW.trod enc Tryz.prog w base spare held n 43 ((cs.drop 2).take (Tryz.prog.cellsOf 43)) = xs[1]? := hf 1 _ rfl
 simp only [cells56, cells22] at h0 h1
 rw [show Tryz.prog.cellsOf 68 = 3 by kernel_rfl] at hl
 rw [List.getElem?_eq_getElem (by rw [hlen]; decide)] at h0 h1
 obtain ⟨p, e0, k1, k2⟩ := open_place h0
 obtain ⟨st, e1, _, w1⟩ := DataW.trod_int un22 h1
 obtain ⟨c0, c1, c2, rfl⟩ := len3 hl
 simp at e0 e1
 obtain ⟨rfl, rfl⟩ := e0
 subst e1
 exact ⟨(p, st), rfl, k2, wf_u32 w1⟩
theorem open_marks14 (h : DataW.trod enc Tryz.prog w base spare held fuel 53 cs = some x) : ∃ p n c ms, cs = [.slice p n c] ∧ n ≤ maxLen ∧ MarksAt w (oldS w) p n ms := by
 obtain ⟨p, n, c, rfl, hn, hel⟩ := open_slice Tryz.underlying53 h
 obtain ⟨l, hl, hq⟩ := list_of (Q := fun j (x : Pr) => i64s x.1.2 ∧ 0 ≤ x.2 ∧ x.2 < 4294967296 ∧ ∃ a, p = some a ∧ oldS w a.block ∧ CellsAt w (a.add (j * 3)) 0 [.int .i64 x.1.1, .int .i64 x.1.2, .int .u32 x.2]) (n := n) (fun i hi => by
  obtain ⟨a, cs', m, y, ha, hc, _, hy⟩ := hel i hi
  obtain ⟨q, rfl, k1, k2, k3⟩ := open_mark14 hy
  rw [show Tryz.prog.cellsOf 68 = 3 by kernel_rfl] at hc
  exact ⟨q, k1, k2, k3, a, ha, by have := cellsAt_lt hc; rwa [add_block] at this, hc⟩)
 exact ⟨p, n, c, l, rfl, hn, ⟨hl, hq⟩⟩
end
theorem tab_later {W : World} (h : Lib.TabIs Tryz.prog W "internal/strconv.uint64pow10" .u64 Lib.pow10Tab) : Tab W := fun W' hc => by
 unfold Lib.TabIs World.var? at *
 cases hg : Tryz.prog.globalNamed "internal/strconv.uint64pow10" with
 | none => rw [hg] at h; cases h
 | some g =>
  rw [hg] at h
  simp only [Option.bind_some] at h ⊢
  cases hb : W.heap[g]? with
  | none => rw [hb] at h; cases h
  | some o => rw [hc.obj (by simp) hb]; rw [hb] at h; exact h
theorem tab_of {W : World} (h : laidMetH Tryz.prog Rows.queryWhoRow.laid W) : Tab W := by
 refine tab_later ?_
 rw [MakeChecks.laidMetH_plain _ _ _ (by kernel_rfl)] at h
 obtain ⟨ps, ⟨g0, t0, cs0, f0, p0, q0, hg0, ht0, hv0, hd0, ⟨g1, t1, cs1, f1, p1, q1, hg1, ht1, hv1, hd1, ⟨g2, t2, cs2, f2, p2, q2, hg2, ht2, hv2, hd2, _, _⟩, _⟩, _⟩, _⟩ := h
 obtain ⟨g, hg, hty⟩ : ∃ g, Tryz.prog.globalNamed "internal/strconv.uint64pow10" = some g ∧ (Tryz.prog.globals[g]?).map (·.type) = some 203 := ⟨0, by kernel_rfl, by kernel_rfl⟩
 obtain rfl := Option.some.inj (hg.symm.trans hg2)
 obtain rfl := Option.some.inj (hty.symm.trans ht2)
 unfold Lib.TabIs
 rw [hv2, ← Lib.cells_of_tab (zs := Lib.pow10Tab) (k := .u64) (n := 20) (show Tryz.prog.underlying 203 = some (.array 20 184) by kernel_rfl) (show Tryz.prog.underlying 184 = some (.int .u64) by kernel_rfl) (by kernel_rfl) (by kernel_rfl) hd2]
end Go.Proofs.YtfcfkhbkkfpehaaGreatDoor
end
section
/- What every row's step needs. -/
namespace Go.Proofs.YtfcfkhbkkfpehaaGreatDoor
open Go Go.RowKit Go.X
theorem ownX : ownKnob Tryz.prog.godebug = none := by kernel_rfl
theorem laidOutX : laidOutB Tryz.prog = true := by kernel_rfl
end Go.Proofs.YtfcfkhbkkfpehaaGreatDoor
end
