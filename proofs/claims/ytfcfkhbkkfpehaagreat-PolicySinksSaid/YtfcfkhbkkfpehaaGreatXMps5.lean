/- Texts of the claim, merged: XG3 XMapIter XG6 XCollect XSort XShCopy XAll XG7 XR03 XShadow3 XG9 XIs XG4 XG5 XClone XGall XFlowAll XDrawn XGz1 XGz3 XFSame. -/
import Derived.Test.YtfcfkhbkkfpehaaGreatXMps4
import Derived.Test.YtfcfkhbkkfpehaaGreatProg
import Derived.Shelf.SortM.Plain
import Derived.Shelf.SortM.SortNone
import Derived.Sort.OwnSortedInts
import Derived.Laws.OwnMore
import Derived.Laws.Externs
import Derived.Laws.Cover3
import Derived.MapKept
import Derived.OrdersIn
set_option linter.unusedSectionVars false
set_option linter.unusedSimpArgs false
set_option linter.unusedVariables false
section
namespace Go.Proofs.YtfcfkhbkkfpehaaGreat
open Go Go.X
def z167_XG3 : List Value := List.replicate 1 (Value.int .i64 0) ++ List.replicate 64 (Value.int .u32 0)
/- (*pomander/shadow.Shadow).Copy -/
def W_shadow_Shadow_Copy (s1 : Option Addr) (w : World) (R : (Option Addr) → World → Prop) : Prop :=
 Calls Tryz.prog 81 #[.pointer s1] w fun e w1 => ∃ (r2 : Bool), e = .returned (.bool r2) ∧ ((r2 = true → R none w1) ∧ (r2 = false → ∃ a1 : Addr, s1 = some a1 ∧ (∃ (t1 : Int), w1.cell? a1 = some (.int .i64 t1) ∧ (∀ b1 : Nat, b1 = World.size w1 → ∀ w2 : World, w2 = World.alloc w1 (.map #[] 0) → (∀ b2 : Nat, b2 = World.size w2 → ∀ w3 : World, w3 = World.alloc w2 (.cells #[.int .i64 t1, .map (some b1)] 158) → (∀ b3 : Nat, b3 = World.size w3 → ∀ w4 : World, w4 = World.alloc w3 (.cells #[.pointer none] 98) → ((∃ o : Value, w4.cell? (⟨b3, 0, none⟩ : Addr) = some o) ∧ w4.frozen? (⟨b3, 0, none⟩ : Addr) = false ∧ ∀ w5 : World, w5 = World.setCell w4 (⟨b3, 0, none⟩ : Addr) (.pointer (some (⟨b2, 0, none⟩ : Addr))) → (∃ (t2 : Option Nat), w5.cell? (a1.add 1) = some (.map t2) ∧ (Calls Tryz.prog 82 #[.map t2] w5 fun e w6 => ∃ (r3 : Value), e = .returned (r3) ∧ (∃ (S1 Sp1 : List (Int × (Option Addr)) → Prop) (keep1 : List Nat), XR.IsFn Tryz.prog r3 ∧ XR.Iterates Tryz.prog r3 (fun x : Int × (Option Addr) => #[.int .i64 x.1, .pointer x.2]) S1 Sp1 keep1 w6 ∧ (∀ i_ ∈ keep1, i_ < w6.heap.size) ∧ ∃ (I1 : List Nat → List (Int × (Option Addr)) → World → Prop), (∀ (pre_ : List (Int × (Option Addr))), XR.Stab w6 (fun O_ w_ => I1 O_ pre_ w_)) ∧ (∀ (O1 : List Nat) (w7 : World), Chg [] w6 w7 → XR.InO w6 O1 w7 → I1 O1 ([]) w7) ∧ (∀ (l1 : Nat) (O1 : List Nat) (pre1 : List (Int × (Option Addr))) (x1 : Int) (x2 : Option Addr) (w7 : World), XR.InO w6 O1 w7 → l1 ∈ O1 → Sp1 (pre1 ++ [(x1, x2)]) → I1 O1 pre1 w7 → (∀ (w8 : World), Chg [l1] w7 w8 → (∃ a2 : Addr, x2 = some a2 ∧ (∃ (t3 : List Value), t3.length = 65 ∧ CellsAt w8 a2 0 t3 ∧ (∀ b4 : Nat, b4 = World.size w8 → ∀ w9 : World, w9 = World.alloc w8 (.cells (z167_XG3).toArray 167) → ((∀ v ∈ t3, Value.oneCell' v = true) ∧ Has w9 (⟨b4, 0, none⟩ : Addr) 65 ∧ Free w9 (⟨b4, 0, none⟩ : Addr) 65 ∧ ∀ w10 : World, w10 = setCells w9 (⟨b4, 0, none⟩ : Addr) 0 t3 → (∃ (t4 : Option Addr), w10.cell? (⟨b3, 0, none⟩ : Addr) = some (.pointer t4) ∧ (∃ a3 : Addr, t4 = some a3 ∧ (∃ (t5 : Option Nat), w10.cell? (a3.add 1) = some (.map t5) ∧ (∃ w11 : World, (Instr.mapUpdate 156 (.map t5) (.int .i64 x1) (.pointer (some (⟨b4, 0, none⟩ : Addr)))).run Tryz.prog w10 = .ok () w11 ∧ ((w8.heap.size ≤ w11.heap.size ∧ I1 O1 (pre1 ++ [(x1, x2)]) w11 ∧ Same w8 w11 (keep1 ++ O1))))))))))))) ∧ (∀ (d1 : Nat) (O2 : List Nat) (xs1 : List (Int × (Option Addr))) (w12 : World), XR.InO w6 O2 w12 → d1 ∈ O2 → S1 xs1 → I1 O2 xs1 w12 → (∃ (t6 : Option Addr), w12.cell? (⟨b3, 0, none⟩ : Addr) = some (.pointer t6) ∧ (∀ w13 : World, Chg [d1] w12 w13 → (R t6 w13))))))))))))))
set_option maxRecDepth 100000 in
theorem go_shadow_Shadow_Copy (s1 : Option Addr) (w : World) (R : (Option Addr) → World → Prop) (h : W_shadow_Shadow_Copy s1 w R) : Calls Tryz.prog 45 #[.pointer s1] w (fun e w' => ∃ (r1 : Option Addr), e = .returned (.pointer r1) ∧ R r1 w') := by
 unfold W_shadow_Shadow_Copy at h
 refine XR.enterM (N := 32) Tryz.func45 rfl rfl ?_
 refine CW.seq ?_
 refine CW.region fun L hL => ?_
 refine LW.rd hL rfl (Wants.free rfl) rfl (Rd.assign (v := .pointer none) rfl) ?_
 refine LW.nil hL rfl ?_
 refine NW.then ?_
 refine CW.seq ?_
 refine CW.seq ?_
 refine CW.region fun L hL => ?_
 refine LW.rd hL rfl (Wants.free rfl) rfl (Rd.move (v := .pointer s1) rfl) ?_
 refine LW.call hL rfl (Wants.free rfl) rfl (Cl.fn (f := 81) rfl Tryz.func81 (by kernel_rfl) rfl) h (fun e w1 h_ => ?_)
 clear h
 obtain ⟨r2, rfl, h⟩ := h_
 refine ⟨_, rfl, ?_⟩
 refine LW.nil hL rfl ?_
 refine NW.then ?_
 refine CW.cond rfl (fun hb1 => ?_) (fun hb1 => ?_)
 ·replace h := h.1 hb1
  refine CW.seq ?_
  refine CW.region fun L hL => ?_
  refine LW.rd hL rfl (Wants.free rfl) rfl (Rd.assign (v := .pointer none) rfl) ?_
  refine LW.nil hL rfl ?_
  refine NW.then ?_
  refine CW.ret ?_
  refine RW.then ?_
  exact XR.res0M (vs := [.pointer none]) (by exact (ResOK.t rfl ResOK.nil)) rfl ⟨none, rfl, h⟩
 ·replace h := h.2 hb1
  refine CW.skip ?_
  refine NW.then ?_
  refine CW.seq ?_
  refine CW.region fun L hL => ?_
  refine LW.rd hL rfl (Wants.free rfl) rfl (Rd.move (v := .pointer s1) rfl) ?_
  obtain ⟨a1, ha1, h⟩ := h
  refine LW.rd hL rfl (Wants.free rfl) rfl (Rd.nil (q := a1) (by rw [← ha1]; rfl)) ?_
  refine LW.rd hL rfl (Wants.free rfl) rfl (Rd.fa (v := .pointer (some a1)) rfl (fun _ => by kernel_rfl)) ?_
  obtain ⟨t1, hc1, h⟩ := h
  refine LW.rd hL rfl (Wants.free rfl) rfl (Rd.ld (v := .int .i64 t1) rfl (by kernel_rfl) (eqs hc1)) ?_
  obtain ⟨b1, hb_b1⟩ : ∃ b1, b1 = World.size w1 := ⟨_, rfl⟩
  obtain ⟨w2, hw_w2⟩ : ∃ w2, w2 = World.alloc w1 (.map #[] 0) := ⟨_, rfl⟩
  replace h := h b1 hb_b1 w2 hw_w2
  refine LW.val hL rfl (Wants.free rfl) rfl (mapE hb_b1 hw_w2 Vl.makeMap) ?_
  refine LW.rd hL rfl (Wants.free rfl) rfl (Rd.build (v := .agg #[.int .i64 t1, .map (some b1)]) rfl (fun _ => by kernel_rfl)) ?_
  obtain ⟨b2, hb_b2⟩ : ∃ b2, b2 = World.size w2 := ⟨_, rfl⟩
  obtain ⟨w3, hw_w3⟩ : ∃ w3, w3 = World.alloc w2 (.cells #[.int .i64 t1, .map (some b1)] 158) := ⟨_, rfl⟩
  replace h := h b2 hb_b2 w3 hw_w3
  refine LW.val hL rfl (Wants.free rfl) rfl (boxE hb_b2 hw_w3 (Vl.box (v := .agg #[.int .i64 t1, .map (some b1)]) rfl)) ?_
  obtain ⟨b3, hb_b3⟩ : ∃ b3, b3 = World.size w3 := ⟨_, rfl⟩
  obtain ⟨w4, hw_w4⟩ : ∃ w4, w4 = World.alloc w3 (.cells #[.pointer none] 98) := ⟨_, rfl⟩
  replace h := h b3 hb_b3 w4 hw_w4
  refine LW.val hL rfl (Wants.free rfl) rfl (boxE hb_b3 hw_w4 (Vl.alloc (z := .pointer none) (by kernel_rfl))) ?_
  obtain ⟨⟨o_w5, ho1⟩, hf1, h⟩ := h
  obtain ⟨w5, hw_w5⟩ : ∃ w5, w5 = World.setCell w4 (⟨b3, 0, none⟩ : Addr) (.pointer (some (⟨b2, 0, none⟩ : Addr))) := ⟨_, rfl⟩
  replace h := h w5 hw_w5
  refine LW.eff hL rfl (Wants.free rfl) rfl (stE hw_w5 (Ef.st rfl rfl rfl (by kernel_rfl) ho1 hf1)) ?_
  refine LW.nil hL rfl ?_
  refine NW.then ?_
  refine CW.seq ?_
  refine CW.seq ?_
  refine CW.region fun L hL => ?_
  refine LW.rd hL rfl (Wants.free rfl) rfl (Rd.move (v := .pointer s1) rfl) ?_
  refine LW.rd hL rfl (Wants.free rfl) rfl (Rd.nil (q := a1) (by rw [← ha1]; rfl)) ?_
  refine LW.rd hL rfl (Wants.free rfl) rfl (Rd.fa (v := .pointer (some (a1.add 1))) rfl (fun _ => by kernel_rfl)) ?_
  obtain ⟨t2, hc2, h⟩ := h
  refine LW.rd hL rfl (Wants.free rfl) rfl (Rd.ld (v := .map t2) rfl (by kernel_rfl) (eqs hc2)) ?_
  refine LW.call hL rfl (Wants.free rfl) rfl (Cl.fn (f := 82) rfl Tryz.func82 (by kernel_rfl) rfl) h (fun e w6 h_ => ?_)
  clear h
  obtain ⟨r3, rfl, h⟩ := h_
  refine ⟨_, rfl, ?_⟩
  refine LW.nil hL rfl ?_
  refine NW.then ?_
  refine CW.block ?_
  obtain ⟨S1, Sp1, keep1, hfn_, hit_, hkp_, I1, hst_I1, h0_, hrd_, hdn_⟩ := h
  refine XR.CW.rangeV (α := Int × (Option Addr)) (enc := (fun x : Int × (Option Addr) => #[.int .i64 x.1, .pointer x.2])) (S := S1) (Sp := Sp1) (keep := keep1) rfl hfn_ (fun _ => rfl) (by decide) hit_ (fun (O_ : List Nat) (pre_ : List (Int × (Option Addr))) (w_ : World) => I1 O_ pre_ w_) (fun (c_ : Code) (O_ : List Nat) (pre_ : List (Int × (Option Addr))) (w_ : World) => False) ?_ ?_ ?_ hkp_ ?_ ?_ ?_
  ·intro pre_ O_ O2_ A_ B_ hi_ hO_ hc_ hO2_ hg_
   exact hst_I1  pre_ O_ O2_ A_ B_ hi_ hO_ hc_ hO2_ hg_
  ·intro c_ pre_ O_ O2_ A_ B_ hi_ hO_ hc_ hO2_ hg_
   exact hi_.elim
  ·intro O_ A_ hc_ hO_
   exact h0_ O_ A_ hc_ hO_
  ·intro l1 O1 pre1 x_ w7 hO_ hl_ hSp_ hi_
   obtain ⟨x1, x2⟩ := x_
   have h := hrd_ l1 O1 pre1 x1 x2 w7 hO_ hl_ hSp_ hi_
   refine XR.CW.seq ?_
   refine XR.CW.region fun L hL => ?_
   refine XR.LW.rd hL rfl (Wants.free rfl) rfl (Rd.assign (v := .int .i64 x1) rfl) ?_
   refine XR.LW.nil hL rfl ?_
   refine XR.NW.then ?_
   refine XR.CW.region fun L hL => ?_
   refine XR.LW.rd hL rfl (Wants.free rfl) rfl (Rd.assign (v := .pointer x2) rfl) ?_
   refine XR.LW.nil hL rfl ?_
   refine XR.NW.begin (Chg.refl [] w7) (fun w8 hcb_w8 hlp_ hib_ => ?_)
   have hc_w8 : Chg [l1] w7 w8 := sil_more (Chg.refl [] w7) hcb_w8
   replace h := h  w8  hc_w8
   refine XR.CW.block ?_
   refine XR.CW.seq ?_
   refine XR.CW.region fun L hL => ?_
   refine XR.LW.rd hL rfl (Wants.free rfl) rfl (Rd.move (v := .pointer x2) rfl) ?_
   obtain ⟨a2, ha2, h⟩ := h
   refine XR.LW.rd hL rfl (Wants.free rfl) rfl (Rd.nil (q := a2) (by rw [← ha2]; rfl)) ?_
   obtain ⟨t3, hl1, hc3, h⟩ := h
   refine XR.LW.rd hL rfl (Wants.free rfl) rfl (Rd.ldN (cs := t3) rfl (by kernel_rfl) (by rw [hl1]; kernel_rfl) (cellsS hc3)) ?_
   obtain ⟨b4, hb_b4⟩ : ∃ b4, b4 = World.size w8 := ⟨_, rfl⟩
   obtain ⟨w9, hw_w9⟩ : ∃ w9, w9 = World.alloc w8 (.cells (z167_XG3).toArray 167) := ⟨_, rfl⟩
   replace h := h b4 hb_b4 w9 hw_w9
   refine XR.LW.val hL rfl (Wants.free rfl) rfl (boxE hb_b4 hw_w9 (Vl.alloc (z := .agg ((z167_XG3)).toArray) (by kernel_rfl))) ?_
   obtain ⟨hv1, ho2, hf2, h⟩ := h
   obtain ⟨w10, hw_w10⟩ : ∃ w10, w10 = setCells w9 (⟨b4, 0, none⟩ : Addr) 0 t3 := ⟨_, rfl⟩
   replace h := h w10 hw_w10
   refine XR.LW.eff hL rfl (Wants.free rfl) rfl (stNE hw_w10 (Ef.stN (cs := t3) rfl rfl (by rw [hl1]; kernel_rfl) hv1 (hl1 ▸ ho2) (hl1 ▸ hf2))) ?_
   refine XR.LW.nil hL rfl ?_
   refine XR.NW.then ?_
   refine XR.CW.region fun L hL => ?_
   obtain ⟨t4, hc4, h⟩ := h
   refine XR.LW.rd hL rfl (Wants.free rfl) rfl (Rd.ld (v := .pointer t4) rfl (by kernel_rfl) (eqs hc4)) ?_
   obtain ⟨a3, ha3, h⟩ := h
   refine XR.LW.rd hL rfl (Wants.free rfl) rfl (Rd.nil (q := a3) (by rw [← ha3]; rfl)) ?_
   refine XR.LW.rd hL rfl (Wants.free rfl) rfl (Rd.fa (v := .pointer (some (a3.add 1))) rfl (fun _ => by kernel_rfl)) ?_
   obtain ⟨t5, hc5, h⟩ := h
   refine XR.LW.rd hL rfl (Wants.free rfl) rfl (Rd.ld (v := .map t5) rfl (by kernel_rfl) (eqs hc5)) ?_
   refine XR.LW.rd hL rfl (Wants.free rfl) rfl (Rd.move (v := .int .i64 x1) rfl) ?_
   obtain ⟨w11, hm1, h⟩ := h
   refine XR.LW.eff hL rfl (Wants.free rfl) rfl (Ef.mapUpdate rfl rfl rfl hm1) ?_
   refine XR.LW.nil hL rfl ?_
   refine NW.block ?_
   exact fun a_ ha_ => ⟨h.1, h.2.1, h.2.2⟩
  ·intro d1 O2 xs1 w12 hO_ hd_ hdh_ hS_ hi_
   have h := hdn_ d1 O2 xs1 w12 hO_ hd_ hS_ hi_
   have hK := XR.Marks.cons (XR.Marks.nil _) hdh_ (by simp)
   refine NW.block ?_
   refine NW.then ?_
   refine CW.seq ?_
   refine CW.region fun L hL => ?_
   obtain ⟨t6, hc6, h⟩ := h
   refine LW.rd hL rfl (Wants.free rfl) rfl (Rd.ld (v := .pointer t6) rfl (by kernel_rfl) (eqs hc6)) ?_
   refine LW.rd hL rfl (Wants.free rfl) rfl (Rd.assign (v := .pointer t6) rfl) ?_
   refine LW.nil hL rfl ?_
   refine NW.then ?_
   refine CW.ret ?_
   exact XR.resM (ms := [d1]) (vs := [.pointer t6]) hK rfl (fun w_ hc_ => ⟨(ResOK.t rfl ResOK.nil), t6, rfl, h w_ hc_⟩)
  ·intro d2 c_ O3 xs2 w14 hO_ hd_ hdh_ hS_ hi_
   exact hi_.elim
/- maps.All[map[int]*pomander/shadow.page,int,*pomander/shadow.page] -/
def W_maps_All_0 (m1 : Option Nat) (w : World) (R : Value → World → Prop) : Prop :=
 ∀ b1 : Nat, b1 = World.size w → ∀ w1 : World, w1 = World.alloc w (.cells #[.map m1] 156) → (R (.func (.func 100) #[] #[.pointer (some (⟨b1, 0, none⟩ : Addr))]) w1)
set_option maxRecDepth 100000 in
theorem go_maps_All_0 (m1 : Option Nat) (w : World) (R : Value → World → Prop) (h : W_maps_All_0 m1 w R) : Calls Tryz.prog 82 #[.map m1] w (fun e w' => ∃ (r1 : Value), e = .returned (r1) ∧ R r1 w') := by
 unfold W_maps_All_0 at h
 refine enter (N := 4) Tryz.func82 rfl rfl ?_
 refine CW.seq ?_
 refine CW.region fun L hL => ?_
 obtain ⟨b1, hb_b1⟩ : ∃ b1, b1 = World.size w := ⟨_, rfl⟩
 obtain ⟨w1, hw_w1⟩ : ∃ w1, w1 = World.alloc w (.cells #[.map m1] 156) := ⟨_, rfl⟩
 replace h := h b1 hb_b1 w1 hw_w1
 refine LW.val hL rfl (Wants.free rfl) rfl (boxE hb_b1 hw_w1 (Vl.box (v := .map m1) rfl)) ?_
 refine LW.rd hL rfl (Wants.free rfl) rfl (Rd.assign (v := .nilFunc) rfl) ?_
 refine LW.nil hL rfl ?_
 refine NW.then ?_
 refine CW.seq ?_
 refine CW.region fun L hL => ?_
 refine LW.rd hL rfl (Wants.free rfl) rfl (Rd.makeFunc rfl) ?_
 refine LW.rd hL rfl (Wants.free rfl) rfl (Rd.assign (v := .func (.func 100) #[] #[.pointer (some (⟨b1, 0, none⟩ : Addr))]) rfl) ?_
 refine LW.nil hL rfl ?_
 refine NW.then ?_
 refine CW.ret ?_
 exact res1 rfl rfl ⟨.func (.func 100) #[] #[.pointer (some (⟨b1, 0, none⟩ : Addr))], rfl, h⟩
/- maps.Keys[map[int]*pomander/shadow.page,int,*pomander/shadow.page]$1 -/
def W_maps_Keys_0_1 (yield1 : Value) (cap1 : Addr) (w : World) (R : World → Prop) : Prop :=
 ∃ (t1 : Option Nat), w.cell? cap1 = some (.map t1) ∧ (∃ (it1 : Option Addr) (w1 : World), (Instr.range 156 (.map t1)).run Tryz.prog w = .ok (.pointer it1) w1 ∧ (∃ (I1 : World → Prop) (m1 : World → Nat), I1 w1 ∧ ∀ (w2 : World), I1 w2 → ∃ (nx1 : Array Value) (ok1 : Bool) (w3 : World), (Instr.next (.pointer it1) false 0).run Tryz.prog w2 = .ok (.tuple nx1) w3 ∧ nx1[0]? = some (.bool ok1) ∧ ((ok1 = true → ∃ (k1 : Int) (v1 : Option Addr), (Instr.entry (.pointer it1)).run Tryz.prog w3 = .ok (.tuple #[.int .i64 k1, .pointer v1]) w3 ∧ (XR.CallsY Tryz.prog yield1 #[.int .i64 k1] w3 fun e w4 => ∃ (r1 : Bool), e = .returned (.bool r1) ∧ (((!r1) = true → R w4) ∧ ((!r1) = false → (I1 w4 ∧ m1 w4 < m1 w2))))) ∧ (ok1 = false → R w3))))
set_option maxRecDepth 100000 in
theorem go_maps_Keys_0_1 (yield1 : Value) (cap1 : Addr) (w : World) (R : World → Prop) (h : W_maps_Keys_0_1 yield1 cap1 w R) : Calls Tryz.prog 120 #[yield1, .pointer (some cap1)] w (fun e w' => e = .returned (.tuple #[]) ∧ R w') := by
 unfold W_maps_Keys_0_1 at h
 refine enter (N := 14) Tryz.func120 rfl rfl ?_
 refine CW.seq ?_
 refine CW.region fun L hL => ?_
 obtain ⟨t1, hc1, h⟩ := h
 refine LW.rd hL rfl (Wants.free rfl) rfl (Rd.ld (v := .map t1) rfl (by kernel_rfl) (eqs hc1)) ?_
 obtain ⟨it1, w1, hm1, h⟩ := h
 refine LW.val hL rfl (Wants.free rfl) rfl (Vl.range (v := .pointer it1) rfl hm1) ?_
 refine LW.nil hL rfl ?_
 refine NW.then ?_
 refine CW.block ?_
 obtain ⟨I1, m1, hI1, h⟩ := h
 refine CW.loop (S := Unit) (fun s1 => [(0, yield1), (5, .pointer it1)]) (fun s1 w2 => I1 w2) (fun s1 w2 => m1 w2) () (by exact ⟨rfl, rfl, trivial⟩) hI1 (fun s1 w2 hI1 => ?_)
 replace h := h w2 hI1
 refine CW.seq ?_
 refine CW.region fun L hL => ?_
 obtain ⟨nx1, ok1, w3, hm2, hk1, h⟩ := h
 refine LW.val hL rfl (Wants.free rfl) rfl (Vl.next (v := .tuple nx1) rfl hm2) ?_
 refine LW.rd hL rfl (Wants.free rfl) rfl (Rd.extract (v := .bool ok1) rfl hk1) ?_
 refine LW.nil hL rfl ?_
 refine NW.then ?_
 refine CW.seq ?_
 refine CW.cond rfl (fun hb1 => ?_) (fun hb1 => ?_)
 ·replace h := h.1 hb1
  refine CW.skip ?_
  refine NW.then ?_
  refine CW.block ?_
  refine CW.seq ?_
  refine CW.region fun L hL => ?_
  obtain ⟨k1, v1, hl1, h⟩ := h
  refine LW.rd hL rfl (Wants.free rfl) rfl (Rd.entry (v := .tuple #[.int .i64 k1, .pointer v1]) rfl (fun _ e => e ▸ hl1)) ?_
  refine LW.rd hL rfl (Wants.free rfl) rfl (Rd.extract (v := .int .i64 k1) rfl rfl) ?_
  refine LW.rd hL rfl (Wants.free rfl) rfl (Rd.assign (v := .int .i64 k1) rfl) ?_
  refine LW.nil hL rfl ?_
  refine NW.then ?_
  refine CW.seq ?_
  refine XR.CW.un ?_
  refine XR.CW.region fun L hL => ?_
  refine XR.LW.rd hL rfl (Wants.free rfl) rfl (Rd.move (v := yield1) rfl) ?_
  refine XR.LW.rd hL rfl (Wants.free rfl) rfl (Rd.move (v := .int .i64 k1) rfl) ?_
  refine XR.LW.callY hL rfl (Wants.free rfl) rfl rfl rfl h (fun e w4 h_ => ?_)
  clear h
  obtain ⟨r1, rfl, h⟩ := h_
  refine ⟨_, rfl, ?_⟩
  refine XR.LW.rd hL rfl (Wants.free rfl) rfl (Rd.un (v := .bool (!r1)) rfl (fun _ => by kernel_rfl)) ?_
  refine XR.LW.nil hL rfl ?_
  refine NW.then ?_
  refine CW.cond rfl (fun hb2 => ?_) (fun hb2 => ?_)
  ·replace h := h.1 hb2
   refine CW.ret ?_
   refine RW.block ?_
   refine RW.then ?_
   refine RW.block ?_
   exact res0 rfl ⟨rfl, h⟩
  ·replace h := h.2 hb2
   refine CW.skip ?_
   refine NW.block ?_
   exact NW.loop (S := Unit) (Ek := fun s1 => [(0, yield1), (5, .pointer it1)]) () (by exact ⟨rfl, rfl, trivial⟩) h
 ·replace h := h.2 hb1
  refine CW.exit ?_
  refine XW.then ?_
  refine XW.then ?_
  refine XW.hit ?_
  exact res0n rfl (by exact ⟨rfl, h⟩)
/- maps.All[map[int]*pomander/shadow.page,int,*pomander/shadow.page]$1 -/
def W_maps_All_0_1 (yield1 : Value) (cap1 : Addr) (w : World) (R : World → Prop) : Prop :=
 ∃ (t1 : Option Nat), w.cell? cap1 = some (.map t1) ∧ (∃ (it1 : Option Addr) (w1 : World), (Instr.range 156 (.map t1)).run Tryz.prog w = .ok (.pointer it1) w1 ∧ (∃ (I1 : World → Prop) (m1 : World → Nat), I1 w1 ∧ ∀ (w2 : World), I1 w2 → ∃ (nx1 : Array Value) (ok1 : Bool) (w3 : World), (Instr.next (.pointer it1) false 0).run Tryz.prog w2 = .ok (.tuple nx1) w3 ∧ nx1[0]? = some (.bool ok1) ∧ ((ok1 = true → ∃ (k1 : Int) (v1 : Option Addr), (Instr.entry (.pointer it1)).run Tryz.prog w3 = .ok (.tuple #[.int .i64 k1, .pointer v1]) w3 ∧ (XR.CallsY Tryz.prog yield1 #[.int .i64 k1, .pointer v1] w3 fun e w4 => ∃ (r1 : Bool), e = .returned (.bool r1) ∧ (((!r1) = true → R w4) ∧ ((!r1) = false → (I1 w4 ∧ m1 w4 < m1 w2))))) ∧ (ok1 = false → R w3))))
set_option maxRecDepth 100000 in
theorem go_maps_All_0_1 (yield1 : Value) (cap1 : Addr) (w : World) (R : World → Prop) (h : W_maps_All_0_1 yield1 cap1 w R) : Calls Tryz.prog 100 #[yield1, .pointer (some cap1)] w (fun e w' => e = .returned (.tuple #[]) ∧ R w') := by
 unfold W_maps_All_0_1 at h
 refine enter (N := 17) Tryz.func100 rfl rfl ?_
 refine CW.seq ?_
 refine CW.region fun L hL => ?_
 obtain ⟨t1, hc1, h⟩ := h
 refine LW.rd hL rfl (Wants.free rfl) rfl (Rd.ld (v := .map t1) rfl (by kernel_rfl) (eqs hc1)) ?_
 obtain ⟨it1, w1, hm1, h⟩ := h
 refine LW.val hL rfl (Wants.free rfl) rfl (Vl.range (v := .pointer it1) rfl hm1) ?_
 refine LW.nil hL rfl ?_
 refine NW.then ?_
 refine CW.block ?_
 obtain ⟨I1, m1, hI1, h⟩ := h
 refine CW.loop (S := Unit) (fun s1 => [(0, yield1), (6, .pointer it1)]) (fun s1 w2 => I1 w2) (fun s1 w2 => m1 w2) () (by exact ⟨rfl, rfl, trivial⟩) hI1 (fun s1 w2 hI1 => ?_)
 replace h := h w2 hI1
 refine CW.seq ?_
 refine CW.region fun L hL => ?_
 obtain ⟨nx1, ok1, w3, hm2, hk1, h⟩ := h
 refine LW.val hL rfl (Wants.free rfl) rfl (Vl.next (v := .tuple nx1) rfl hm2) ?_
 refine LW.rd hL rfl (Wants.free rfl) rfl (Rd.extract (v := .bool ok1) rfl hk1) ?_
 refine LW.nil hL rfl ?_
 refine NW.then ?_
 refine CW.seq ?_
 refine CW.cond rfl (fun hb1 => ?_) (fun hb1 => ?_)
 ·replace h := h.1 hb1
  refine CW.skip ?_
  refine NW.then ?_
  refine CW.block ?_
  refine CW.seq ?_
  refine CW.region fun L hL => ?_
  obtain ⟨k1, v1, hl1, h⟩ := h
  refine LW.rd hL rfl (Wants.free rfl) rfl (Rd.entry (v := .tuple #[.int .i64 k1, .pointer v1]) rfl (fun _ e => e ▸ hl1)) ?_
  refine LW.rd hL rfl (Wants.free rfl) rfl (Rd.extract (v := .int .i64 k1) rfl rfl) ?_
  refine LW.rd hL rfl (Wants.free rfl) rfl (Rd.extract (v := .pointer v1) rfl rfl) ?_
  refine LW.rd hL rfl (Wants.free rfl) rfl (Rd.assign (v := .int .i64 k1) rfl) ?_
  refine LW.rd hL rfl (Wants.free rfl) rfl (Rd.assign (v := .pointer v1) rfl) ?_
  refine LW.nil hL rfl ?_
  refine NW.then ?_
  refine CW.seq ?_
  refine XR.CW.un ?_
  refine XR.CW.region fun L hL => ?_
  refine XR.LW.rd hL rfl (Wants.free rfl) rfl (Rd.move (v := yield1) rfl) ?_
  refine XR.LW.rd hL rfl (Wants.free rfl) rfl (Rd.move (v := .int .i64 k1) rfl) ?_
  refine XR.LW.rd hL rfl (Wants.free rfl) rfl (Rd.move (v := .pointer v1) rfl) ?_
  refine XR.LW.callY hL rfl (Wants.free rfl) rfl rfl rfl h (fun e w4 h_ => ?_)
  clear h
  obtain ⟨r1, rfl, h⟩ := h_
  refine ⟨_, rfl, ?_⟩
  refine XR.LW.rd hL rfl (Wants.free rfl) rfl (Rd.un (v := .bool (!r1)) rfl (fun _ => by kernel_rfl)) ?_
  refine XR.LW.nil hL rfl ?_
  refine NW.then ?_
  refine CW.cond rfl (fun hb2 => ?_) (fun hb2 => ?_)
  ·replace h := h.1 hb2
   refine CW.ret ?_
   refine RW.block ?_
   refine RW.then ?_
   refine RW.block ?_
   exact res0 rfl ⟨rfl, h⟩
  ·replace h := h.2 hb2
   refine CW.skip ?_
   refine NW.block ?_
   exact NW.loop (S := Unit) (Ek := fun s1 => [(0, yield1), (6, .pointer it1)]) () (by exact ⟨rfl, rfl, trivial⟩) h
 ·replace h := h.2 hb1
  refine CW.exit ?_
  refine XW.then ?_
  refine XW.then ?_
  refine XW.hit ?_
  exact res0n rfl (by exact ⟨rfl, h⟩)
end Go.Proofs.YtfcfkhbkkfpehaaGreat
end
section
/- Iterators over maps: maps.All, maps.Keys over the pages of a shadow. -/
namespace Go.Proofs.YtfcfkhbkkfpehaaGreat
open Go Go.RowKit Go.X Go.XR
theorem _root_.Go.X.IterAt.eq {K V : Type} [DecidableEq K] {ke : K → Value} {ve : V → Value} {w w' : World} {it m : Nat} {l done : List (K × V)} (h : IterAt w it m ke ve l done) (h1 : w'.heap[it]? = w.heap[it]?) (h2 : w'.heap[m]? = w.heap[m]?) : IterAt w' it m ke ve l done := by
 obtain ⟨es, clk, since, c0, seen, ds, a, b, b', c, rest⟩ := h
 exact ⟨es, clk, since, c0, seen, ds, h1.trans a, b, b', h2.trans c, rest⟩
theorem _root_.Go.X.IterAt.lt {K V : Type} [DecidableEq K] {ke : K → Value} {ve : V → Value} {w : World} {it m : Nat} {l done : List (K × V)} (h : IterAt w it m ke ve l done) : it < w.heap.size := by
 obtain ⟨es, clk, since, c0, seen, ds, a, _⟩ := h
 exact lt_of_heap a
def allS {K V α : Type} (f : K × V → α) (l : List (K × V)) (xs : List α) : Prop := ∃ done : List (K × V), xs = done.map f ∧ (done.map Prod.fst).Nodup ∧ (∀ x ∈ done, x ∈ l) ∧ ∀ x ∈ l, x ∈ done
def allSp {K V α : Type} (f : K × V → α) (l : List (K × V)) (xs : List α) : Prop := ∃ done : List (K × V), xs = done.map f ∧ (done.map Prod.fst).Nodup ∧ ∀ x ∈ done, x ∈ l
def pgF (x : Int × Nat) : Int × Option Addr := (x.1, some ⟨x.2, 0, none⟩)
theorem isFn118 (cb : Nat) : IsFn Tryz.prog (.func (.func 100) #[] #[.pointer (some ⟨cb, 0, none⟩)]) := ⟨100, Tryz.f100, _, rfl, Tryz.func100, by kernel_rfl, by kernel_rfl⟩
theorem iterates_all {w : World} {cb m : Nat} {l : List (Int × Nat)} (hcb : w.heap[cb]? = some (.cells #[.map (some m)] 156 (0, 0))) (hm : MapIs w m (fun n : Int => .int .i64 n) encPg l) :
  Iterates Tryz.prog (.func (.func 100) #[] #[.pointer (some ⟨cb, 0, none⟩)]) (fun x : Int × Option Addr => #[.int .i64 x.1, .pointer x.2]) (allS pgF l) (allSp pgF l) [cb, m] w := by
 intro W yv I Ix hW hI hIx h0 hround
 refine ⟨100, #[.pointer (some ⟨cb, 0, none⟩)], Tryz.f100, rfl, Tryz.func100, by kernel_rfl, by kernel_rfl, ?_⟩
 have hcW := hW.obj (by simp) hcb
 have hmW := hm.chg hW (by simp)
 have hlm := hmW.lt
 refine (go_maps_All_0_1 yv ⟨cb, 0, none⟩ W (fun w' => ∃ Own, InO W Own w' ∧ ((∃ xs, allS pgF l xs ∧ I Own xs w') ∨ ∃ pre, allSp pgF l pre ∧ Ix Own pre w')) ?_).mono (fun e w' h => ⟨⟨_, h.1⟩, h.2⟩)
 unfold W_maps_All_0_1
 obtain ⟨it, w1, hrg, c1, hit, hI1⟩ := iter_range (P := Tryz.prog) (T := 156) hmW u173
 refine ⟨_, by rw [cell_of hcW]; rfl, _, w1, hrg, ?_⟩
 have hne : it ≠ m := by omega
 have s1 := c1.size
 have hitlt := hI1.lt
 refine ⟨fun w2 => ∃ done, I [it] (done.map pgF) w2 ∧ IterAt w2 it m (fun n : Int => .int .i64 n) encPg l done ∧ w1.heap.size ≤ w2.heap.size, fun w2 => l.length - seenN w2 it, ⟨[], ?_, hI1, Nat.le_refl _⟩, ?_⟩
 ·exact hI [] [] [it] W w1 h0 (by intro i hi; cases hi) c1 (by intro i hi; simp at hi; omega) (by intro i hi; simp at hi; omega)
 rintro w2 ⟨done, hi, hIt, s2⟩
 have hin : ∀ {A : World}, w1.heap.size ≤ A.heap.size → InO W [it] A := fun hA i hi => by simp at hi; omega
 rcases iter_next (P := Tryz.prog) hIt hne keyInt.inj 0 with ⟨hnx, hall⟩ | ⟨k, v, w3, hkl, hnew, hrun, c3, hI3, hent⟩
 ·exact ⟨_, false, w2, hnx, rfl, fun h => by simp at h, fun _ => ⟨[it], hin s2, .inl ⟨_, ⟨done, rfl, hIt.sub.2.1, hIt.sub.1, hall⟩, hi⟩⟩⟩
 ·have s3 := c3.size
  refine ⟨_, true, w3, hrun, rfl, fun _ => ⟨k, some ⟨v, 0, none⟩, hent, ?_⟩, fun h => by simp at h⟩
  have hi3 := hI (done.map pgF) [it] [it] w2 w3 hi (hin s2) c3 (hin (by omega)) (fun i h => .inl h)
  have e1 : done.map pgF ++ [(k, some ⟨v, 0, none⟩)] = (done ++ [(k, v)]).map pgF := by simp [pgF]
  refine (hround [it] (done.map pgF) (k, some ⟨v, 0, none⟩) w3 (hin (by omega)) ⟨done ++ [(k, v)], e1, hI3.sub.2.1, hI3.sub.1⟩ hi3).mono ?_
  rintro e w4 ⟨s4, ⟨rfl, hi4, hs4⟩ | ⟨rfl, hx4⟩⟩
  ·refine ⟨true, rfl, fun h => by simp at h, fun _ => ⟨⟨done ++ [(k, v)], by rw [← e1]; exact hi4, hI3.eq (hs4 it (by simp)) (hs4 m (by simp)), by omega⟩, ?_⟩⟩
   have a1 := hIt.count
   have a2 := hI3.count
   have a3 := hIt.more hkl hnew
   have a4 : seenN w4 it = seenN w3 it := by unfold seenN; rw [hs4 it (by simp)]
   simp at a2
   simp only []
   omega
  ·exact ⟨false, rfl, fun _ => ⟨[it], hin (by omega), .inr ⟨_, ⟨done ++ [(k, v)], e1, hI3.sub.2.1, hI3.sub.1⟩, hx4⟩⟩, fun h => by simp at h⟩
theorem isFn117 (cb : Nat) : IsFn Tryz.prog (.func (.func 120) #[] #[.pointer (some ⟨cb, 0, none⟩)]) := ⟨120, Tryz.f120, _, rfl, Tryz.func120, by kernel_rfl, by kernel_rfl⟩
theorem iterates_keys {w : World} {cb m : Nat} {l : List (Int × Nat)} (hcb : w.heap[cb]? = some (.cells #[.map (some m)] 156 (0, 0))) (hm : MapIs w m (fun n : Int => .int .i64 n) encPg l) :
  Iterates Tryz.prog (.func (.func 120) #[] #[.pointer (some ⟨cb, 0, none⟩)]) (fun x : Int => #[.int .i64 x]) (allS Prod.fst l) (allSp Prod.fst l) [cb, m] w := by
 intro W yv I Ix hW hI hIx h0 hround
 refine ⟨120, #[.pointer (some ⟨cb, 0, none⟩)], Tryz.f120, rfl, Tryz.func120, by kernel_rfl, by kernel_rfl, ?_⟩
 have hcW := hW.obj (by simp) hcb
 have hmW := hm.chg hW (by simp)
 have hlm := hmW.lt
 refine (go_maps_Keys_0_1 yv ⟨cb, 0, none⟩ W (fun w' => ∃ Own, InO W Own w' ∧ ((∃ xs, allS Prod.fst l xs ∧ I Own xs w') ∨ ∃ pre, allSp Prod.fst l pre ∧ Ix Own pre w')) ?_).mono (fun e w' h => ⟨⟨_, h.1⟩, h.2⟩)
 unfold W_maps_Keys_0_1
 obtain ⟨it, w1, hrg, c1, hit, hI1⟩ := iter_range (P := Tryz.prog) (T := 156) hmW u173
 refine ⟨_, by rw [cell_of hcW]; rfl, _, w1, hrg, ?_⟩
 have hne : it ≠ m := by omega
 have s1 := c1.size
 have hitlt := hI1.lt
 refine ⟨fun w2 => ∃ done, I [it] (done.map Prod.fst) w2 ∧ IterAt w2 it m (fun n : Int => .int .i64 n) encPg l done ∧ w1.heap.size ≤ w2.heap.size, fun w2 => l.length - seenN w2 it, ⟨[], ?_, hI1, Nat.le_refl _⟩, ?_⟩
 ·exact hI [] [] [it] W w1 h0 (by intro i hi; cases hi) c1 (by intro i hi; simp at hi; omega) (by intro i hi; simp at hi; omega)
 rintro w2 ⟨done, hi, hIt, s2⟩
 have hin : ∀ {A : World}, w1.heap.size ≤ A.heap.size → InO W [it] A := fun hA i hi => by simp at hi; omega
 rcases iter_next (P := Tryz.prog) hIt hne keyInt.inj 0 with ⟨hnx, hall⟩ | ⟨k, v, w3, hkl, hnew, hrun, c3, hI3, hent⟩
 ·exact ⟨_, false, w2, hnx, rfl, fun h => by simp at h, fun _ => ⟨[it], hin s2, .inl ⟨_, ⟨done, rfl, hIt.sub.2.1, hIt.sub.1, hall⟩, hi⟩⟩⟩
 ·have s3 := c3.size
  refine ⟨_, true, w3, hrun, rfl, fun _ => ⟨k, some ⟨v, 0, none⟩, hent, ?_⟩, fun h => by simp at h⟩
  have hi3 := hI (done.map Prod.fst) [it] [it] w2 w3 hi (hin s2) c3 (hin (by omega)) (fun i h => .inl h)
  have e1 : done.map Prod.fst ++ [k] = (done ++ [(k, v)]).map Prod.fst := by simp
  refine (hround [it] (done.map Prod.fst) k w3 (hin (by omega)) ⟨done ++ [(k, v)], e1, hI3.sub.2.1, hI3.sub.1⟩ hi3).mono ?_
  rintro e w4 ⟨s4, ⟨rfl, hi4, hs4⟩ | ⟨rfl, hx4⟩⟩
  ·refine ⟨true, rfl, fun h => by simp at h, fun _ => ⟨⟨done ++ [(k, v)], by rw [← e1]; exact hi4, hI3.eq (hs4 it (by simp)) (hs4 m (by simp)), by omega⟩, ?_⟩⟩
   have a1 := hIt.count
   have a2 := hI3.count
   have a3 := hIt.more hkl hnew
   have a4 : seenN w4 it = seenN w3 it := by unfold seenN; rw [hs4 it (by simp)]
   simp at a2
   simp only []
   omega
  ·exact ⟨false, rfl, fun _ => ⟨[it], hin (by omega), .inr ⟨_, ⟨done ++ [(k, v)], e1, hI3.sub.2.1, hI3.sub.1⟩, hx4⟩⟩, fun h => by simp at h⟩
end Go.Proofs.YtfcfkhbkkfpehaaGreat
end
section
namespace Go.Proofs.YtfcfkhbkkfpehaaGreat
open Go Go.X
/- slices.Collect[int] -/
def W_slices_Collect_61 (seq1 : Value) (w : World) (R : (Option Addr) → Nat → Nat → World → Prop) : Prop :=
 Calls Tryz.prog 136 #[.slice none 0 0, seq1] w fun e w1 => ∃ (r2 : Option Addr) (r2n : Nat) (r2c : Nat), e = .returned (.slice r2 r2n r2c) ∧ (R r2 r2n r2c w1)
set_option maxRecDepth 100000 in
theorem go_slices_Collect_61 (seq1 : Value) (w : World) (R : (Option Addr) → Nat → Nat → World → Prop) (h : W_slices_Collect_61 seq1 w R) : Calls Tryz.prog 118 #[seq1] w (fun e w' => ∃ (r1 : Option Addr) (r1n : Nat) (r1c : Nat), e = .returned (.slice r1 r1n r1c) ∧ R r1 r1n r1c w') := by
 unfold W_slices_Collect_61 at h
 refine enter (N := 5) Tryz.func118 rfl rfl ?_
 refine CW.seq ?_
 refine CW.region fun L hL => ?_
 refine LW.rd hL rfl (Wants.free rfl) rfl (Rd.assign (v := .slice none 0 0) rfl) ?_
 refine LW.nil hL rfl ?_
 refine NW.then ?_
 refine CW.seq ?_
 refine CW.region fun L hL => ?_
 refine LW.rd hL rfl (Wants.free rfl) rfl (Rd.move (v := seq1) rfl) ?_
 refine LW.call hL rfl (Wants.free rfl) rfl (Cl.fn (f := 136) rfl Tryz.func136 (by kernel_rfl) rfl) h (fun e w1 h_ => ?_)
 clear h
 obtain ⟨r2, r2n, r2c, rfl, h⟩ := h_
 refine ⟨_, rfl, ?_⟩
 refine LW.rd hL rfl (Wants.free rfl) rfl (Rd.assign (v := .slice r2 r2n r2c) rfl) ?_
 refine LW.nil hL rfl ?_
 refine NW.then ?_
 refine CW.ret ?_
 exact res1 rfl rfl ⟨r2, r2n, r2c, rfl, h⟩
/- slices.AppendSeq[[]int,int] -/
def W_slices_AppendSeq_577 (s1 : Option Addr) (s1n : Nat) (s1c : Nat) (seq1 : Value) (w : World) (R : (Option Addr) → Nat → Nat → World → Prop) : Prop :=
 ∀ (b1 : Nat) (w1 : World), (w.heap.size ≤ b1 ∧ b1 < w1.heap.size) → Chg [] w w1 → (∃ (S1 Sp1 : List (Int) → Prop) (keep1 : List Nat), XR.IsFn Tryz.prog seq1 ∧ XR.Iterates Tryz.prog seq1 (fun x : Int => #[.int .i64 x]) S1 Sp1 keep1 w1 ∧ (∀ i_ ∈ keep1, i_ < w1.heap.size) ∧ ∃ (I1 : (Option Addr) → Nat → Nat → List Nat → List (Int) → World → Prop), (∀ (c1 : Option Addr) (c1n : Nat) (c1c : Nat) (pre_ : List (Int)), XR.Stab w1 (fun O_ w_ => I1 c1 c1n c1c O_ pre_ w_)) ∧ (∀ (O1 : List Nat) (w2 : World), Chg [] w1 w2 → XR.InO w1 O1 w2 → I1 s1 s1n s1c O1 ([]) w2) ∧ (∀ (l1 : Nat) (O1 : List Nat) (pre1 : List (Int)) (x1 : Int) (c1 : Option Addr) (c1n : Nat) (c1c : Nat) (w2 : World), XR.InO w1 O1 w2 → l1 ∈ O1 → Sp1 (pre1 ++ [x1]) → I1 c1 c1n c1c O1 pre1 w2 → (∀ (w3 : World), Chg [l1] w2 w3 → (∀ b2 : Nat, b2 = World.size w3 → ∀ w4 : World, w4 = World.alloc w3 (.cells #[.int .i64 x1] 3) → (∃ (l2 : Option Addr) (l2n : Nat) (l2c : Nat) (w5 : World), (Builtin.append_ #[188, 188] 188 #[.slice c1 c1n c1c, .slice (some (⟨b2, 0, none⟩ : Addr)) 1 1]).run Tryz.prog w4 = .ok (.slice l2 l2n l2c) w5 ∧ (Same w4 w5 [b1] ∧ (∀ (w6 : World), Chg [b1] w5 w6 → ((w3.heap.size ≤ w6.heap.size ∧ I1 l2 l2n l2c O1 (pre1 ++ [x1]) w6 ∧ Same w3 w6 (keep1 ++ O1))))))))) ∧ (∀ (d1 : Nat) (O2 : List Nat) (xs1 : List (Int)) (c1 : Option Addr) (c1n : Nat) (c1c : Nat) (w7 : World), XR.InO w1 O2 w7 → d1 ∈ O2 → S1 xs1 → I1 c1 c1n c1c O2 xs1 w7 → (∀ w8 : World, Chg [d1] w7 w8 → (R c1 c1n c1c w8))))
set_option maxRecDepth 100000 in
theorem go_slices_AppendSeq_577 (s1 : Option Addr) (s1n : Nat) (s1c : Nat) (seq1 : Value) (w : World) (R : (Option Addr) → Nat → Nat → World → Prop) (h : W_slices_AppendSeq_577 s1 s1n s1c seq1 w R) : Calls Tryz.prog 136 #[.slice s1 s1n s1c, seq1] w (fun e w' => ∃ (r1 : Option Addr) (r1n : Nat) (r1c : Nat), e = .returned (.slice r1 r1n r1c) ∧ R r1 r1n r1c w') := by
 unfold W_slices_AppendSeq_577 at h
 refine XR.enterM (N := 13) Tryz.func136 rfl rfl ?_
 refine CW.seq ?_
 refine CW.region fun L hL => ?_
 obtain ⟨b1, hb_b1⟩ : ∃ b1, b1 = World.size w := ⟨_, rfl⟩
 obtain ⟨w1, hw_w1⟩ : ∃ w1, w1 = World.alloc w (.cells #[.slice s1 s1n s1c] 188) := ⟨_, rfl⟩
 refine LW.val hL rfl (Wants.free rfl) rfl (boxE hb_b1 hw_w1 (Vl.box (v := .slice s1 s1n s1c) rfl)) ?_
 have hB := Boxes.alloc (cs := [.slice s1 s1n s1c]) (T := 188) (Boxes.nil w) hb_b1 hw_w1
 have hlo_b1 := sil_lo (Chg.refl [] w) hb_b1
 have hc_w1 := sil_alloc (Chg.refl [] w) hw_w1
 refine LW.rd hL rfl (Wants.free rfl) rfl (Rd.assign (v := .slice none 0 0) rfl) ?_
 refine LW.nil hL rfl ?_
 refine NW.then ?_
 refine CW.seq ?_
 refine CW.seq ?_
 refine CW.region fun L hL => ?_
 refine LW.rd hL rfl (Wants.free rfl) rfl (Rd.move (v := seq1) rfl) ?_
 refine LW.nil hL rfl ?_
 refine NW.then ?_
 refine CW.block ?_
 replace h := h b1 w1 ⟨hlo_b1, lt_of_heap (hB.at (i := 0) rfl)⟩ hc_w1
 obtain ⟨S1, Sp1, keep1, hfn_, hit_, hkp_, I1, hst_I1, h0_, hrd_, hdn_⟩ := h
 refine XR.CW.rangeV (α := Int) (enc := (fun x : Int => #[.int .i64 x])) (S := S1) (Sp := Sp1) (keep := keep1) rfl hfn_ (fun _ => rfl) (by decide) hit_ (fun (O_ : List Nat) (pre_ : List (Int)) (w_ : World) => ∃ (c1 : Option Addr) (c1n : Nat) (c1c : Nat), I1 c1 c1n c1c O_ pre_ w_ ∧ Boxes w_ [(b1, [.slice c1 c1n c1c], 188)]) (fun (c_ : Code) (O_ : List Nat) (pre_ : List (Int)) (w_ : World) => False) ?_ ?_ ?_ hkp_ ?_ ?_ ?_
 ·intro pre_ O_ O2_ A_ B_ hi_ hO_ hc_ hO2_ hg_
  have hB0_ := hB
  obtain ⟨c1, c1n, c1c, hi_, hB⟩ := hi_
  exact ⟨c1, c1n, c1c, hst_I1 c1 c1n c1c pre_ O_ O2_ A_ B_ hi_ hO_ hc_ hO2_ hg_, hB.stab hB0_ rfl hO_ hc_⟩
 ·intro c_ pre_ O_ O2_ A_ B_ hi_ hO_ hc_ hO2_ hg_
  exact hi_.elim
 ·intro O_ A_ hc_ hO_
  exact ⟨s1, s1n, s1c, h0_ O_ A_ hc_ hO_, Boxes.chg hB hc_ (by simp)⟩
 ·intro l1 O1 pre1 x_ w2 hO_ hl_ hSp_ hi_
  obtain ⟨x1, rfl⟩ : ∃ y, y = x_ := ⟨_, rfl⟩
  obtain ⟨c1, c1n, c1c, hi_, hB⟩ := hi_
  have h := hrd_ l1 O1 pre1 x1 c1 c1n c1c w2 hO_ hl_ hSp_ hi_
  refine XR.CW.region fun L hL => ?_
  refine XR.LW.rd hL rfl (Wants.free rfl) rfl (Rd.assign (v := .int .i64 x1) rfl) ?_
  refine XR.LW.nil hL rfl ?_
  refine XR.NW.begin (Chg.refl [] w2) (fun w3 hcb_w3 hlp_ hib_ => ?_)
  have hc_w3 : Chg [l1] w2 w3 := sil_more (Chg.refl [] w2) hcb_w3
  replace hB := hB.notloop hlp_ hcb_w3
  replace h := h  w3  hc_w3
  refine XR.CW.block ?_
  refine XR.CW.region fun L hL => ?_
  refine XR.LW.rd hL rfl (Wants.free rfl) rfl (Rd.ld (v := .slice c1 c1n c1c) rfl (by kernel_rfl) (eqs (box_cell (hB.at (i := 0) rfl) rfl))) ?_
  refine XR.LW.rd hL rfl (Wants.free rfl) rfl (Rd.move (v := .int .i64 x1) rfl) ?_
  obtain ⟨b2, hb_b2⟩ : ∃ b2, b2 = World.size w3 := ⟨_, rfl⟩
  obtain ⟨w4, hw_w4⟩ : ∃ w4, w4 = World.alloc w3 (.cells #[.int .i64 x1] 3) := ⟨_, rfl⟩
  replace h := h b2 hb_b2 w4 hw_w4
  refine XR.LW.val hL rfl (Wants.free rfl) rfl (sliceE (n := 1) hb_b2 hw_w4 (fun w => Vl.buildSlice (vs := [(0, .int .i64 x1)]) rfl (by kernel_rfl))) ?_
  replace hB := hB.grow hw_w4
  obtain ⟨l2, l2n, l2c, w5, ha1, h⟩ := h
  refine XR.LW.val hL rfl (Wants.free rfl) rfl (Vl.builtin (v := .slice l2 l2n l2c) rfl (valB ha1)) ?_
  obtain ⟨hsm1, h⟩ := h
  replace hB := Boxes.sameS hB hsm1 (by simp)
  obtain ⟨w6, hw_w6⟩ : ∃ x, x = World.setCell w5 (⟨b1, 0, none⟩ : Addr) (.slice l2 l2n l2c) := ⟨_, rfl⟩
  refine XR.LW.eff hL rfl (Wants.free rfl) rfl (stE hw_w6 (Ef.st rfl rfl rfl (by kernel_rfl) (box_cell (v := .slice c1 c1n c1c) (hB.at (i := 0) rfl) rfl) (free_of (hB.at (i := 0) rfl) 0))) ?_
  replace hB : Boxes w6 [(b1, [.slice l2 l2n l2c], 188)] := Boxes.store1  (i := 0) (o := 0) hB rfl rfl rfl rfl hw_w6
  have hc_w6 : Chg [b1] w5 w6 := sil_more (Chg.refl [] w5) (sil_c1 hw_w6)
  refine XR.LW.nil hL rfl ?_
  refine NW.block ?_
  replace h := h  w6  hc_w6
  exact fun a_ ha_ => ⟨h.1, ⟨l2, l2n, l2c, h.2.1, hB⟩, h.2.2⟩
 ·intro d1 O2 xs1 w7 hO_ hd_ hdh_ hS_ hi_
  obtain ⟨c1, c1n, c1c, hi_, hB⟩ := hi_
  have h := hdn_ d1 O2 xs1 c1 c1n c1c w7 hO_ hd_ hS_ hi_
  have hK := XR.Marks.cons (XR.Marks.nil _) hdh_ (by simp)
  refine NW.block ?_
  refine NW.then ?_
  refine CW.seq ?_
  refine CW.region fun L hL => ?_
  refine LW.rd hL rfl (Wants.free rfl) rfl (Rd.ld (v := .slice c1 c1n c1c) rfl (by kernel_rfl) (eqs (box_cell (hB.at (i := 0) rfl) rfl))) ?_
  refine LW.rd hL rfl (Wants.free rfl) rfl (Rd.assign (v := .slice c1 c1n c1c) rfl) ?_
  refine LW.nil hL rfl ?_
  refine NW.then ?_
  refine CW.ret ?_
  exact XR.resM (ms := [d1]) (vs := [.slice c1 c1n c1c]) hK rfl (fun w_ hc_ => ⟨(ResOK.t rfl ResOK.nil), c1, c1n, c1c, rfl, h w_ hc_⟩)
 ·intro d2 c_ O3 xs2 w9 hO_ hd_ hdh_ hS_ hi_
  exact hi_.elim
/- slices.Sorted[int] -/
def W_slices_Sorted_61 (seq1 : Value) (w : World) (R : (Option Addr) → Nat → Nat → World → Prop) : Prop :=
 Calls Tryz.prog 118 #[seq1] w fun e w1 => ∃ (r2 : Option Addr) (r2n : Nat) (r2c : Nat), e = .returned (.slice r2 r2n r2c) ∧ (Calls Tryz.prog 119 #[.slice r2 r2n r2c] w1 fun e w2 => e = .returned (.tuple #[]) ∧ (R r2 r2n r2c w2))
set_option maxRecDepth 100000 in
theorem go_slices_Sorted_61 (seq1 : Value) (w : World) (R : (Option Addr) → Nat → Nat → World → Prop) (h : W_slices_Sorted_61 seq1 w R) : Calls Tryz.prog 102 #[seq1] w (fun e w' => ∃ (r1 : Option Addr) (r1n : Nat) (r1c : Nat), e = .returned (.slice r1 r1n r1c) ∧ R r1 r1n r1c w') := by
 unfold W_slices_Sorted_61 at h
 refine enter (N := 9) Tryz.func102 rfl rfl ?_
 refine CW.seq ?_
 refine CW.region fun L hL => ?_
 refine LW.rd hL rfl (Wants.free rfl) rfl (Rd.assign (v := .slice none 0 0) rfl) ?_
 refine LW.nil hL rfl ?_
 refine NW.then ?_
 refine CW.seq ?_
 refine CW.region fun L hL => ?_
 refine LW.rd hL rfl (Wants.free rfl) rfl (Rd.move (v := seq1) rfl) ?_
 refine LW.call hL rfl (Wants.free rfl) rfl (Cl.fn (f := 118) rfl Tryz.func118 (by kernel_rfl) rfl) h (fun e w1 h_ => ?_)
 clear h
 obtain ⟨r2, r2n, r2c, rfl, h⟩ := h_
 refine ⟨_, rfl, ?_⟩
 refine LW.rd hL rfl (Wants.free rfl) rfl (Rd.assign (v := .slice r2 r2n r2c) rfl) ?_
 refine LW.nil hL rfl ?_
 refine NW.then ?_
 refine CW.seq ?_
 refine CW.region fun L hL => ?_
 refine LW.rd hL rfl (Wants.free rfl) rfl (Rd.move (v := .slice r2 r2n r2c) rfl) ?_
 refine LW.call hL rfl (Wants.free rfl) rfl (Cl.fn (f := 119) rfl Tryz.func119 (by kernel_rfl) rfl) h (fun e w2 h_ => ?_)
 clear h
 obtain ⟨rfl, h⟩ := h_
 refine ⟨_, rfl, ?_⟩
 refine LW.nil hL rfl ?_
 refine NW.then ?_
 refine CW.seq ?_
 refine CW.region fun L hL => ?_
 refine LW.rd hL rfl (Wants.free rfl) rfl (Rd.move (v := .slice r2 r2n r2c) rfl) ?_
 refine LW.rd hL rfl (Wants.free rfl) rfl (Rd.assign (v := .slice r2 r2n r2c) rfl) ?_
 refine LW.nil hL rfl ?_
 refine NW.then ?_
 refine CW.ret ?_
 exact res1 rfl rfl ⟨r2, r2n, r2c, rfl, h⟩
/- (*pomander/shadow.Shadow).All -/
def W_shadow_Shadow_All (s1 : Option Addr) (w : World) (R : Value → World → Prop) : Prop :=
 ∀ b1 : Nat, b1 = World.size w → ∀ w1 : World, w1 = World.alloc w (.cells #[.pointer s1] 98) → (∃ (t1 : Option Addr), w1.cell? (⟨b1, 0, none⟩ : Addr) = some (.pointer t1) ∧ (Calls Tryz.prog 45 #[.pointer t1] w1 fun e w2 => ∃ (r2 : Option Addr), e = .returned (.pointer r2) ∧ ((∃ o : Value, w2.cell? (⟨b1, 0, none⟩ : Addr) = some o) ∧ w2.frozen? (⟨b1, 0, none⟩ : Addr) = false ∧ ∀ w3 : World, w3 = World.setCell w2 (⟨b1, 0, none⟩ : Addr) (.pointer r2) → (R (.func (.func 101) #[] #[.pointer (some (⟨b1, 0, none⟩ : Addr))]) w3))))
set_option maxRecDepth 100000 in
theorem go_shadow_Shadow_All (s1 : Option Addr) (w : World) (R : Value → World → Prop) (h : W_shadow_Shadow_All s1 w R) : Calls Tryz.prog 88 #[.pointer s1] w (fun e w' => ∃ (r1 : Value), e = .returned (r1) ∧ R r1 w') := by
 unfold W_shadow_Shadow_All at h
 refine enter (N := 6) Tryz.func88 rfl rfl ?_
 refine CW.seq ?_
 refine CW.region fun L hL => ?_
 obtain ⟨b1, hb_b1⟩ : ∃ b1, b1 = World.size w := ⟨_, rfl⟩
 obtain ⟨w1, hw_w1⟩ : ∃ w1, w1 = World.alloc w (.cells #[.pointer s1] 98) := ⟨_, rfl⟩
 replace h := h b1 hb_b1 w1 hw_w1
 refine LW.val hL rfl (Wants.free rfl) rfl (boxE hb_b1 hw_w1 (Vl.box (v := .pointer s1) rfl)) ?_
 refine LW.rd hL rfl (Wants.free rfl) rfl (Rd.assign (v := .nilFunc) rfl) ?_
 refine LW.nil hL rfl ?_
 refine NW.then ?_
 refine CW.seq ?_
 refine CW.region fun L hL => ?_
 obtain ⟨t1, hc1, h⟩ := h
 refine LW.rd hL rfl (Wants.free rfl) rfl (Rd.ld (v := .pointer t1) rfl (by kernel_rfl) (eqs hc1)) ?_
 refine LW.call hL rfl (Wants.free rfl) rfl (Cl.fn (f := 45) rfl Tryz.func45 (by kernel_rfl) rfl) h (fun e w2 h_ => ?_)
 clear h
 obtain ⟨r2, rfl, h⟩ := h_
 refine ⟨_, rfl, ?_⟩
 obtain ⟨⟨o_w3, ho1⟩, hf1, h⟩ := h
 obtain ⟨w3, hw_w3⟩ : ∃ w3, w3 = World.setCell w2 (⟨b1, 0, none⟩ : Addr) (.pointer r2) := ⟨_, rfl⟩
 replace h := h w3 hw_w3
 refine LW.eff hL rfl (Wants.free rfl) rfl (stE hw_w3 (Ef.st rfl rfl rfl (by kernel_rfl) ho1 hf1)) ?_
 refine LW.nil hL rfl ?_
 refine NW.then ?_
 refine CW.seq ?_
 refine CW.region fun L hL => ?_
 refine LW.rd hL rfl (Wants.free rfl) rfl (Rd.makeFunc rfl) ?_
 refine LW.rd hL rfl (Wants.free rfl) rfl (Rd.assign (v := .func (.func 101) #[] #[.pointer (some (⟨b1, 0, none⟩ : Addr))]) rfl) ?_
 refine LW.nil hL rfl ?_
 refine NW.then ?_
 refine CW.ret ?_
 exact res1 rfl rfl ⟨.func (.func 101) #[] #[.pointer (some (⟨b1, 0, none⟩ : Addr))], rfl, h⟩
/- (*pomander/shadow.Shadow).All$1 -/
def W_shadow_Shadow_All_1 (yield1 : Value) (cap1 : Addr) (w : World) (R : World → Prop) : Prop :=
 ∃ (t1 : Option Addr), w.cell? cap1 = some (.pointer t1) ∧ (Calls Tryz.prog 81 #[.pointer t1] w fun e w1 => ∃ (r1 : Bool), e = .returned (.bool r1) ∧ ((r1 = true → R w1) ∧ (r1 = false → ∃ (t2 : Option Addr), w1.cell? cap1 = some (.pointer t2) ∧ (∃ a1 : Addr, t2 = some a1 ∧ (∃ (t3 : Option Nat), w1.cell? (a1.add 1) = some (.map t3) ∧ (Calls Tryz.prog 103 #[.map t3] w1 fun e w2 => ∃ (r2 : Value), e = .returned (r2) ∧ (Calls Tryz.prog 102 #[r2] w2 fun e w3 => ∃ (r3 : Option Addr) (r3n : Nat) (r3c : Nat), e = .returned (.slice r3 r3n r3c) ∧ (∃ (I1 : Int → World → Prop) (m1 : Int → World → Nat), I1 0 w3 ∧ ∀ (x1 : Int) (w4 : World), I1 x1 w4 → ((decide (x1 < (r3n : Int))) = true → ∃ a2 : Addr, r3 = some a2 ∧ (0 : Int) ≤ x1 ∧ x1 < (r3n : Int) ∧ (∃ (t4 : Int), w4.cell? (a2.add (Int.toNat x1 * 1)) = some (.int .i64 t4) ∧ (∃ (t5 : Option Addr), w4.cell? cap1 = some (.pointer t5) ∧ (∃ a3 : Addr, t5 = some a3 ∧ (∃ (t6 : Option Nat), w4.cell? (a3.add 1) = some (.map t6) ∧ (∃ (v1 : Option Addr), (Instr.lookup 156 (.map t6) (.int .i64 t4) false).run Tryz.prog w4 = .ok (.pointer v1) w4 ∧ (∃ a4 : Addr, v1 = some a4 ∧ (∃ (t7 : List Value), t7.length = 64 ∧ CellsAt w4 (a4.add 1) 0 t7 ∧ (∃ (I2 : Int → World → Prop) (m2 : Int → World → Nat), I2 0 w4 ∧ ∀ (x2 : Int) (w5 : World), I2 x2 w5 → ((decide (x2 < 64)) = true → ∃ (x3 : Int), (∀ w : World, (Instr.index 165 (.agg (t7).toArray) (.int .i64 x2)).run Tryz.prog w = .ok (.int .u32 x3) w) ∧ (∃ J1 : Bool → World → Prop, (∀ (b1 : Bool) (w6 : World), J1 b1 w6 → (b1 = true → R w6) ∧ (b1 = false → (I2 (IntKind.wrap .i64 (x2 + 1)) w6 ∧ m2 (IntKind.wrap .i64 (x2 + 1)) w6 < m2 x2 w5))) ∧ (((!(x3 == 0)) = true → XR.CallsY Tryz.prog yield1 #[.int .i64 (IntKind.wrap .i64 ((IntKind.wrap .i64 (t4 * 64)) + x2)), .int .u32 x3] w5 fun e w7 => ∃ (r4 : Bool), e = .returned (.bool r4) ∧ (J1 (!r4) w7)) ∧ ((!(x3 == 0)) = false → J1 false w5)))) ∧ ((decide (x2 < 64)) = false → (I1 (IntKind.wrap .i64 (x1 + 1)) w5 ∧ m1 (IntKind.wrap .i64 (x1 + 1)) w5 < m1 x1 w4))))))))))) ∧ ((decide (x1 < (r3n : Int))) = false → R w4)))))))))
set_option maxRecDepth 100000 in
theorem go_shadow_Shadow_All_1 (yield1 : Value) (cap1 : Addr) (w : World) (R : World → Prop) (h : W_shadow_Shadow_All_1 yield1 cap1 w R) : Calls Tryz.prog 101 #[yield1, .pointer (some cap1)] w (fun e w' => e = .returned (.tuple #[]) ∧ R w') := by
 unfold W_shadow_Shadow_All_1 at h
 refine enter (N := 47) Tryz.func101 rfl rfl ?_
 refine CW.scope0 ?_
 refine CW.seq ?_
 refine CW.seq ?_
 refine CW.region fun L hL => ?_
 obtain ⟨t1, hc1, h⟩ := h
 refine LW.rd hL rfl (Wants.free rfl) rfl (Rd.ld (v := .pointer t1) rfl (by kernel_rfl) (eqs hc1)) ?_
 refine LW.call hL rfl (Wants.free rfl) rfl (Cl.fn (f := 81) rfl Tryz.func81 (by kernel_rfl) rfl) h (fun e w1 h_ => ?_)
 clear h
 obtain ⟨r1, rfl, h⟩ := h_
 refine ⟨_, rfl, ?_⟩
 refine LW.nil hL rfl ?_
 refine NW.then ?_
 refine CW.cond rfl (fun hb1 => ?_) (fun hb1 => ?_)
 ·replace h := h.1 hb1
  refine CW.ret ?_
  refine RW.then ?_
  refine RW.noGoto ?_
  exact res0 rfl ⟨rfl, h⟩
 ·replace h := h.2 hb1
  refine CW.skip ?_
  refine NW.then ?_
  refine CW.seq ?_
  refine CW.label ?_
  refine NW.then ?_
  refine CW.seq ?_
  refine CW.region fun L hL => ?_
  obtain ⟨t2, hc2, h⟩ := h
  refine LW.rd hL rfl (Wants.free rfl) rfl (Rd.ld (v := .pointer t2) rfl (by kernel_rfl) (eqs hc2)) ?_
  obtain ⟨a1, ha1, h⟩ := h
  refine LW.rd hL rfl (Wants.free rfl) rfl (Rd.nil (q := a1) (by rw [← ha1]; rfl)) ?_
  refine LW.rd hL rfl (Wants.free rfl) rfl (Rd.fa (v := .pointer (some (a1.add 1))) rfl (fun _ => by kernel_rfl)) ?_
  obtain ⟨t3, hc3, h⟩ := h
  refine LW.rd hL rfl (Wants.free rfl) rfl (Rd.ld (v := .map t3) rfl (by kernel_rfl) (eqs hc3)) ?_
  refine LW.call hL rfl (Wants.free rfl) rfl (Cl.fn (f := 103) rfl Tryz.func103 (by kernel_rfl) rfl) h (fun e w2 h_ => ?_)
  clear h
  obtain ⟨r2, rfl, h⟩ := h_
  refine ⟨_, rfl, ?_⟩
  refine LW.call hL rfl (Wants.free rfl) rfl (Cl.fn (f := 102) rfl Tryz.func102 (by kernel_rfl) rfl) h (fun e w3 h_ => ?_)
  clear h
  obtain ⟨r3, r3n, r3c, rfl, h⟩ := h_
  refine ⟨_, rfl, ?_⟩
  refine LW.rd hL rfl (Wants.free rfl) rfl (Rd.builtin (v := .int .i64 (r3n : Int)) rfl (fun _ _ => by kernel_rfl)) ?_
  refine LW.rd hL rfl (Wants.free rfl) rfl (Rd.move (v := .int .i64 0) rfl) ?_
  refine LW.nil hL rfl ?_
  refine NW.then ?_
  refine CW.block ?_
  obtain ⟨I1, m1, hI1, h⟩ := h
  refine CW.loop (S := Int) (fun x1 => [(0, yield1), (1, .pointer (some cap1)), (14, .slice r3 r3n r3c), (15, .int .i64 (r3n : Int)), (16, .int .i64 x1)]) (fun x1 w4 => I1 x1 w4) (fun x1 w4 => m1 x1 w4) 0 (by exact ⟨rfl, rfl, rfl, rfl, rfl, trivial⟩) hI1 (fun x1 w4 hI1 => ?_)
  replace h := h x1 w4 hI1
  refine CW.seq ?_
  refine CW.region fun L hL => ?_
  refine LW.rd hL rfl (Wants.free rfl) rfl (Rd.bin (v := .bool (decide (x1 < (r3n : Int)))) rfl rfl (fun w => by kernel_rfl)) ?_
  refine LW.nil hL rfl ?_
  refine NW.then ?_
  refine CW.seq ?_
  refine CW.cond rfl (fun hb2 => ?_) (fun hb2 => ?_)
  ·replace h := h.1 hb2
   refine CW.skip ?_
   refine NW.then ?_
   refine CW.seq ?_
   refine CW.block ?_
   refine CW.seq ?_
   refine CW.region fun L hL => ?_
   obtain ⟨a2, he1, hi1, hi2, h⟩ := h
   refine LW.rd hL rfl (Wants.free rfl) rfl (Rd.iaS (q := a2) (sz := 1) (by rw [← he1]; rfl) rfl Tryz.underlying188 (by kernel_rfl) hi1 hi2) ?_
   obtain ⟨t4, hc4, h⟩ := h
   refine LW.rd hL rfl (Wants.free rfl) rfl (Rd.ld (v := .int .i64 t4) rfl (by kernel_rfl) (eqs hc4)) ?_
   refine LW.rd hL rfl (Wants.free rfl) rfl (Rd.assign (v := .int .i64 t4) rfl) ?_
   refine LW.nil hL rfl ?_
   refine NW.then ?_
   refine CW.seq ?_
   refine CW.region fun L hL => ?_
   obtain ⟨t5, hc5, h⟩ := h
   refine LW.rd hL rfl (Wants.free rfl) rfl (Rd.ld (v := .pointer t5) rfl (by kernel_rfl) (eqs hc5)) ?_
   obtain ⟨a3, ha2, h⟩ := h
   refine LW.rd hL rfl (Wants.free rfl) rfl (Rd.nil (q := a3) (by rw [← ha2]; rfl)) ?_
   refine LW.rd hL rfl (Wants.free rfl) rfl (Rd.fa (v := .pointer (some (a3.add 1))) rfl (fun _ => by kernel_rfl)) ?_
   obtain ⟨t6, hc6, h⟩ := h
   refine LW.rd hL rfl (Wants.free rfl) rfl (Rd.ld (v := .map t6) rfl (by kernel_rfl) (eqs hc6)) ?_
   refine LW.rd hL rfl (Wants.free rfl) rfl (Rd.move (v := .int .i64 t4) rfl) ?_
   obtain ⟨v1, hl1, h⟩ := h
   refine LW.rd hL rfl (Wants.free rfl) rfl (Rd.lookup (v := .pointer v1) rfl rfl (fun _ e => e ▸ hl1)) ?_
   obtain ⟨a4, ha3, h⟩ := h
   refine LW.rd hL rfl (Wants.free rfl) rfl (Rd.nil (q := a4) (by rw [← ha3]; rfl)) ?_
   refine LW.rd hL rfl (Wants.free rfl) rfl (Rd.fa (v := .pointer (some (a4.add 1))) rfl (fun _ => by kernel_rfl)) ?_
   obtain ⟨t7, hl2, hc7, h⟩ := h
   refine LW.rd hL rfl (Wants.free rfl) rfl (Rd.ldN (cs := t7) rfl (by kernel_rfl) (by rw [hl2]; kernel_rfl) (cellsS hc7)) ?_
   refine LW.rd hL rfl (Wants.free rfl) rfl (Rd.move (v := .int .i64 0) rfl) ?_
   refine LW.nil hL rfl ?_
   refine NW.then ?_
   refine CW.block ?_
   obtain ⟨I2, m2, hI2, h⟩ := h
   refine CW.loop (S := Int) (fun x2 => [(0, yield1), (1, .pointer (some cap1)), (4, .int .i64 t4), (14, .slice r3 r3n r3c), (15, .int .i64 (r3n : Int)), (16, .int .i64 x1), (28, .agg (t7).toArray), (29, .int .i64 x2)]) (fun x2 w5 => I2 x2 w5) (fun x2 w5 => m2 x2 w5) 0 (by exact ⟨rfl, rfl, rfl, rfl, rfl, rfl, rfl, rfl, trivial⟩) hI2 (fun x2 w5 hI2 => ?_)
   replace h := h x2 w5 hI2
   refine CW.seq ?_
   refine CW.region fun L hL => ?_
   refine LW.rd hL rfl (Wants.free rfl) rfl (Rd.bin (v := .bool (decide (x2 < 64))) rfl rfl (fun w => by kernel_rfl)) ?_
   refine LW.nil hL rfl ?_
   refine NW.then ?_
   refine CW.seq ?_
   refine CW.cond rfl (fun hb3 => ?_) (fun hb3 => ?_)
   ·replace h := h.1 hb3
    refine CW.skip ?_
    refine NW.then ?_
    refine CW.seq ?_
    refine CW.block ?_
    refine CW.seq ?_
    refine CW.region fun L hL => ?_
    refine LW.rd hL rfl (Wants.free rfl) rfl (Rd.move (v := .int .i64 x2) rfl) ?_
    obtain ⟨x3, hx1, h⟩ := h
    refine LW.rd hL rfl (Wants.free rfl) rfl (Rd.index (v := .int .u32 x3) rfl rfl hx1) ?_
    refine LW.rd hL rfl (Wants.free rfl) rfl (Rd.assign (v := .int .i64 x2) rfl) ?_
    refine LW.rd hL rfl (Wants.free rfl) rfl (Rd.assign (v := .int .u32 x3) rfl) ?_
    refine LW.nil hL rfl ?_
    refine NW.then ?_
    refine CW.seq ?_
    refine XR.CW.un ?_
    refine XR.CW.region fun L hL => ?_
    refine XR.LW.rd hL rfl (Wants.free rfl) rfl (Rd.move (v := .int .u32 x3) rfl) ?_
    refine XR.LW.rd hL rfl (Wants.free rfl) rfl (Rd.bin (v := .bool (!(x3 == 0))) rfl rfl (fun w => by kernel_rfl)) ?_
    refine XR.LW.rd hL rfl (Wants.free rfl) rfl (Rd.move (v := .bool (!(x3 == 0))) rfl) ?_
    obtain ⟨J1, hJ1, h1_J1, h0_J1⟩ := h
    suffices K1 : ∀ (b1 : Bool) (w6 : World), J1 b1 w6 → L 12 [(0, yield1), (1, .pointer (some cap1)), (4, .int .i64 t4), (14, .slice r3 r3n r3c), (15, .int .i64 (r3n : Int)), (16, .int .i64 x1), (28, .agg (t7).toArray), (29, .int .i64 x2), (44, .bool b1)] w6 by
     rcases Bool.eq_false_or_eq_true (!(x3 == 0)) with hb4 | hb4
     ·have h := h1_J1 hb4
      refine XR.LW.rd hL rfl (Wants.on rfl rfl rfl rfl rfl hb4) rfl (Rd.move (v := yield1) rfl) ?_
      refine XR.LW.rd hL rfl (Wants.on rfl rfl rfl rfl rfl hb4) rfl (Rd.move (v := .int .i64 t4) rfl) ?_
      refine XR.LW.rd hL rfl (Wants.on rfl rfl rfl rfl rfl hb4) rfl (Rd.bin (v := .int .i64 (IntKind.wrap .i64 (t4 * 64))) rfl rfl (fun w => by kernel_rfl)) ?_
      refine XR.LW.rd hL rfl (Wants.on rfl rfl rfl rfl rfl hb4) rfl (Rd.move (v := .int .i64 x2) rfl) ?_
      refine XR.LW.rd hL rfl (Wants.on rfl rfl rfl rfl rfl hb4) rfl (Rd.bin (v := .int .i64 (IntKind.wrap .i64 ((IntKind.wrap .i64 (t4 * 64)) + x2))) rfl rfl (fun w => by kernel_rfl)) ?_
      refine XR.LW.rd hL rfl (Wants.on rfl rfl rfl rfl rfl hb4) rfl (Rd.move (v := .int .u32 x3) rfl) ?_
      refine XR.LW.callY hL rfl (Wants.on rfl rfl rfl rfl rfl hb4) rfl rfl rfl h (fun e w7 h_ => ?_)
      clear h
      obtain ⟨r4, rfl, h⟩ := h_
      refine ⟨_, rfl, ?_⟩
      refine XR.LW.rd hL rfl (Wants.on rfl rfl rfl rfl rfl hb4) rfl (Rd.un (v := .bool (!r4)) rfl (fun _ => by kernel_rfl)) ?_
      refine XR.LW.rd hL rfl (Wants.free rfl) rfl (Rd.pickT rfl hb4 rfl) ?_
      exact XR.LW.sub hL (by exact ⟨rfl, rfl, rfl, rfl, rfl, rfl, rfl, rfl, rfl, trivial⟩) (K1 (!r4) w7 h)
     ·have h := h0_J1 hb4
      refine XR.LW.skip hL rfl (Skips.on rfl rfl rfl rfl rfl hb4) rfl ?_
      refine XR.LW.skip hL rfl (Skips.on rfl rfl rfl rfl rfl hb4) rfl ?_
      refine XR.LW.skip hL rfl (Skips.on rfl rfl rfl rfl rfl hb4) rfl ?_
      refine XR.LW.skip hL rfl (Skips.on rfl rfl rfl rfl rfl hb4) rfl ?_
      refine XR.LW.skip hL rfl (Skips.on rfl rfl rfl rfl rfl hb4) rfl ?_
      refine XR.LW.skip hL rfl (Skips.on rfl rfl rfl rfl rfl hb4) rfl ?_
      refine XR.LW.skip hL rfl (Skips.on rfl rfl rfl rfl rfl hb4) rfl ?_
      refine XR.LW.skip hL rfl (Skips.on rfl rfl rfl rfl rfl hb4) rfl ?_
      refine XR.LW.rd hL rfl (Wants.free rfl) rfl (Rd.pickF rfl hb4 rfl) ?_
      exact XR.LW.sub hL (by exact ⟨rfl, rfl, rfl, rfl, rfl, rfl, rfl, rfl, rfl, trivial⟩) (K1 false w5 h)
    intro b1 w6 h_
    have h := hJ1 b1 w6 h_; clear h_
    refine XR.LW.nil hL rfl ?_
    refine NW.then ?_
    refine CW.cond rfl (fun hb5 => ?_) (fun hb5 => ?_)
    ·replace h := h.1 hb5
     refine CW.exit ?_
     refine XW.miss rfl ?_
     refine XW.then ?_
     refine XW.then ?_
     refine XW.miss rfl ?_
     refine XW.miss rfl ?_
     refine XW.then ?_
     refine XW.then ?_
     refine XW.hit ?_
     refine NW.noGoto ?_
     exact res0n rfl (by exact ⟨rfl, h⟩)
    ·replace h := h.2 hb5
     refine CW.skip ?_
     refine NW.block ?_
     refine NW.then ?_
     refine CW.region fun L hL => ?_
     refine LW.rd hL rfl (Wants.free rfl) rfl (Rd.bin (v := .int .i64 (IntKind.wrap .i64 (x2 + 1))) rfl rfl (fun w => by kernel_rfl)) ?_
     refine LW.rd hL rfl (Wants.free rfl) rfl (Rd.move (v := .int .i64 (IntKind.wrap .i64 (x2 + 1))) rfl) ?_
     refine LW.nil hL rfl ?_
     exact NW.loop (S := Int) (Ek := fun x2 => [(0, yield1), (1, .pointer (some cap1)), (4, .int .i64 t4), (14, .slice r3 r3n r3c), (15, .int .i64 (r3n : Int)), (16, .int .i64 x1), (28, .agg (t7).toArray), (29, .int .i64 x2)]) (IntKind.wrap .i64 (x2 + 1)) (by exact ⟨rfl, rfl, rfl, rfl, rfl, rfl, rfl, rfl, trivial⟩) h
   ·replace h := h.2 hb3
    refine CW.exit ?_
    refine XW.then ?_
    refine XW.then ?_
    refine XW.hit ?_
    refine NW.block ?_
    refine NW.then ?_
    refine CW.region fun L hL => ?_
    refine LW.rd hL rfl (Wants.free rfl) rfl (Rd.bin (v := .int .i64 (IntKind.wrap .i64 (x1 + 1))) rfl rfl (fun w => by kernel_rfl)) ?_
    refine LW.rd hL rfl (Wants.free rfl) rfl (Rd.move (v := .int .i64 (IntKind.wrap .i64 (x1 + 1))) rfl) ?_
    refine LW.nil hL rfl ?_
    exact NW.loop (S := Int) (Ek := fun x1 => [(0, yield1), (1, .pointer (some cap1)), (14, .slice r3 r3n r3c), (15, .int .i64 (r3n : Int)), (16, .int .i64 x1)]) (IntKind.wrap .i64 (x1 + 1)) (by exact ⟨rfl, rfl, rfl, rfl, rfl, trivial⟩) h
  ·replace h := h.2 hb2
   refine CW.exit ?_
   refine XW.then ?_
   refine XW.then ?_
   refine XW.hit ?_
   refine NW.noGoto ?_
   exact res0n rfl (by exact ⟨rfl, h⟩)
/- maps.Keys[map[int]*pomander/shadow.page,int,*pomander/shadow.page] -/
def W_maps_Keys_0 (m1 : Option Nat) (w : World) (R : Value → World → Prop) : Prop :=
 ∀ b1 : Nat, b1 = World.size w → ∀ w1 : World, w1 = World.alloc w (.cells #[.map m1] 156) → (R (.func (.func 120) #[] #[.pointer (some (⟨b1, 0, none⟩ : Addr))]) w1)
set_option maxRecDepth 100000 in
theorem go_maps_Keys_0 (m1 : Option Nat) (w : World) (R : Value → World → Prop) (h : W_maps_Keys_0 m1 w R) : Calls Tryz.prog 103 #[.map m1] w (fun e w' => ∃ (r1 : Value), e = .returned (r1) ∧ R r1 w') := by
 unfold W_maps_Keys_0 at h
 refine enter (N := 4) Tryz.func103 rfl rfl ?_
 refine CW.seq ?_
 refine CW.region fun L hL => ?_
 obtain ⟨b1, hb_b1⟩ : ∃ b1, b1 = World.size w := ⟨_, rfl⟩
 obtain ⟨w1, hw_w1⟩ : ∃ w1, w1 = World.alloc w (.cells #[.map m1] 156) := ⟨_, rfl⟩
 replace h := h b1 hb_b1 w1 hw_w1
 refine LW.val hL rfl (Wants.free rfl) rfl (boxE hb_b1 hw_w1 (Vl.box (v := .map m1) rfl)) ?_
 refine LW.rd hL rfl (Wants.free rfl) rfl (Rd.assign (v := .nilFunc) rfl) ?_
 refine LW.nil hL rfl ?_
 refine NW.then ?_
 refine CW.seq ?_
 refine CW.region fun L hL => ?_
 refine LW.rd hL rfl (Wants.free rfl) rfl (Rd.makeFunc rfl) ?_
 refine LW.rd hL rfl (Wants.free rfl) rfl (Rd.assign (v := .func (.func 120) #[] #[.pointer (some (⟨b1, 0, none⟩ : Addr))]) rfl) ?_
 refine LW.nil hL rfl ?_
 refine NW.then ?_
 refine CW.ret ?_
 exact res1 rfl rfl ⟨.func (.func 120) #[] #[.pointer (some (⟨b1, 0, none⟩ : Addr))], rfl, h⟩
end Go.Proofs.YtfcfkhbkkfpehaaGreat
end
section
/- slices.AppendSeq, slices.Collect over iterators of ints. -/
namespace Go.Proofs.YtfcfkhbkkfpehaaGreat
open Go Go.RowKit Go.X Go.XR
theorem _root_.Go.XR.Iterates.later {α : Type} {P : Program} {fv : Value} {enc : α → Array Value} {S Sp : List α → Prop} {keep : List Nat} {w w1 : World} (h : Iterates P fv enc S Sp keep w) (hc : Chg [] w w1) : Iterates P fv enc S Sp keep w1 :=
 fun W yv I Ix hW => h W yv I Ix (hc.trans0 hW)
theorem append_seq {w : World} {fv : Value} {S Sp : List Int → Prop} {keep : List Nat} (hf : IsFn Tryz.prog fv) (hi : Iterates Tryz.prog fv (fun x : Int => #[.int .i64 x]) S Sp keep w) (hk : ∀ i ∈ keep, i < w.heap.size)
  (hle : ∀ pre, Sp pre → pre.length ≤ 1000000) :
  Calls Tryz.prog 136 #[.slice none 0 0, fv] w fun e w' => ∃ (p : Option Addr) (n c : Nat), e = .returned (.slice p n c) ∧ ∃ xs, S xs ∧ n = xs.length ∧ RowAt w' 3 1 p n c (xs.map (Value.int .i64)) ∧ Chg [] w w' ∧ ∀ b ∈ rowB p, w.heap.size ≤ b := by
 refine go_slices_AppendSeq_577 _ _ _ _ _ _ ?_
 unfold W_slices_AppendSeq_577
 rintro b1 w1 ⟨hb1, hb2⟩ c1
 have s1 := c1.size
 refine ⟨S, Sp, keep, hf, hi.later c1, fun i h => Nat.lt_of_lt_of_le (hk i h) s1,
  fun p n c O pre w' => n = pre.length ∧ RowAt w' 3 1 p n c (pre.map (Value.int .i64)) ∧ (∀ b ∈ rowB p, b ∉ O ∧ w1.heap.size ≤ b) ∧ Chg [] w w' ∧ w1.heap.size ≤ w'.heap.size, ?_, ?_, ?_, ?_⟩
 ·rintro p n c pre O O' A B ⟨k1, k2, k3, k4, k5⟩ hO hc hO' hg
  have hsz := hc.size
  refine ⟨k1, k2.chg hc (fun b hb => (k3 b hb).1), fun b hb => ⟨fun hm => ?_, (k3 b hb).2⟩, k4.trans hc (fun i hi hlt => by have := (hO i hi).1; omega), by omega⟩
  rcases hg _ hm with h | h
  ·exact (k3 b hb).1 h
  ·have := k2.lt b hb; omega
 ·intro O w2 c2 hO
  exact ⟨rfl, RowAt.nil, by simp [rowB], c1.trans0 c2, c2.size⟩
 ·rintro l1 O pre x p n c w2 hO hl1 hsp ⟨k1, k2, k3, k4, k5⟩ w3 c3
  have s3 := c3.size
  have hl := hO l1 hl1
  have hlp : ∀ b ∈ rowB p, b ∉ [l1] := fun b hb hm => by simp at hm; subst hm; exact (k3 _ hb).1 hl1
  refine v_alloc fun b2 w4 e2 hb2' c4 => ?_
  have s4 := c4.size
  have hlen := hle _ hsp
  simp at hlen
  have hr4 : RowAt w4 3 1 p n c (pre.map (Value.int .i64)) := (k2.chg c3 hlp).chg c4 (by simp)
  obtain ⟨p', c', w5, hrun, hr5, c5, hnew⟩ := hr4.append (P := Tryz.prog) (t := 188) (ty := 188) (i := Tryz.t3) (z := .int .i64 0) (bytes := 8) (by kernel_rfl) (by kernel_rfl) (by kernel_rfl) (by kernel_rfl) (by kernel_rfl) rfl (by omega) (a := ⟨b2, 0, none⟩) (m := 1) (mc := 1) (news := [Value.int .i64 x]) (by simp)
   (fun j u hj => by
    cases j with
    | zero => simp at hj; subst hj; rw [add_at, cell_of hb2']; rfl
    | succ j => simp at hj) (by simp; rfl) (by subst k1; unfold maxLen; omega) (by omega)
  have s5 := c5.size
  refine ⟨p', n + 1, c', w5, hrun, Same.of c5 (fun b hb => ⟨by simp at hb; omega, fun hm => by simp at hb; have := (k3 _ hm).2; omega⟩), fun w6 c6 => ?_⟩
  have s6 := c6.size
  have hnew' : ∀ b ∈ rowB p', b ∉ O ∧ w1.heap.size ≤ b := fun b hb => by
   rcases hnew b hb with h | h
   ·exact k3 b h
   ·exact ⟨fun hm => by have := (hO _ hm).2; omega, by omega⟩
  have c46 : Chg (b1 :: rowB p) w4 w6 := (c5.mono (fun i hi _ => List.mem_cons_of_mem _ hi)).trans c6 (fun i hi _ => by simp at hi; simp [hi])
  have c36 : Chg (b1 :: rowB p) w3 w6 := (c4.nil (f := b1 :: rowB p)).trans c46 (fun i hi _ => hi)
  refine ⟨by omega, ⟨by simp [k1], ?_, hnew', ?_, by omega⟩, ?_⟩
  ·rw [List.map_append]
   exact hr5.chg c6 (fun b hb hm => by simp at hm; have := (hnew' b hb).2; omega)
  ·have c03 : Chg [] w w3 := k4.trans c3 (fun i hi hlt => by simp at hi; omega)
   exact c03.trans c36 (fun i hi hlt => by
    rcases List.mem_cons.1 hi with h | h
    ·omega
    ·have := (k3 i h).2; omega)
  ·refine Same.of c36 (fun b hb => ?_)
   rcases List.mem_append.1 hb with h | h
   ·have := hk b h
    refine ⟨by omega, fun hm => ?_⟩
    rcases List.mem_cons.1 hm with h | h
    ·omega
    ·have := (k3 b h).2; omega
   ·have := hO b h
    refine ⟨by omega, fun hm => ?_⟩
    rcases List.mem_cons.1 hm with h' | h'
    ·omega
    ·exact (k3 b h').1 h
 ·rintro d O xs p n c w7 hO hd hS ⟨k1, k2, k3, k4, k5⟩ w8 c8
  exact ⟨xs, hS, k1, k2.chg c8 (fun b hb hm => by simp at hm; subst hm; exact (k3 _ hb).1 hd), k4.trans c8 (fun i hi hlt => by simp at hi; subst hi; have := (hO _ hd).1; omega), fun b hb => by have := (k3 b hb).2; omega⟩
theorem collect {w : World} {fv : Value} {S Sp : List Int → Prop} {keep : List Nat} (hf : IsFn Tryz.prog fv) (hi : Iterates Tryz.prog fv (fun x : Int => #[.int .i64 x]) S Sp keep w) (hk : ∀ i ∈ keep, i < w.heap.size)
  (hle : ∀ pre, Sp pre → pre.length ≤ 1000000) :
  Calls Tryz.prog 118 #[fv] w fun e w' => ∃ (p : Option Addr) (n c : Nat), e = .returned (.slice p n c) ∧ ∃ xs, S xs ∧ n = xs.length ∧ RowAt w' 3 1 p n c (xs.map (Value.int .i64)) ∧ Chg [] w w' ∧ ∀ b ∈ rowB p, w.heap.size ≤ b := by
 refine go_slices_Collect_61 _ _ _ ?_
 unfold W_slices_Collect_61
 refine (append_seq hf hi hk hle).mono ?_
 rintro _ w1 ⟨p, n, c, rfl, xs, h⟩
 exact ⟨p, n, c, rfl, xs, h⟩
end Go.Proofs.YtfcfkhbkkfpehaaGreat
end
section
/- slices.Sort over ints (by the shelf's contract), slices.Sorted. -/
namespace Go.Proofs.YtfcfkhbkkfpehaaGreat
open Go Go.RowKit Go.X Go.XR Go.Shelf
/-! The shelf's laying of slices.Sort (written by the kit's lay-plain) -/
def sortA_ren : Go.Shelf.Ren := ⟨fun | 5 => 119 | 8 => 114 | 7 => 137 | 19 => 132 | 20 => 133 | 10 => 144 | 11 => 145 | 12 => 146 | 13 => 147 | 14 => 148 | 15 => 149 | 16 => 150 | 17 => 151 | 18 => 152 | 30 => 154 | 31 => 140 | 32 => 141 | 33 => 155 | 34 => 156 | 35 => 116 | 40 => 157 | n => n, fun | 23 => 188 | 25 => 3 | 3 => 3 | 32 => 198 | 22 => 188 | 0 => 0 | 44 => 22 | 46 => 214 | 4 => 4 | 36 => 208 | 35 => 207 | 41 => 193 | 5 => 5 | 9 => 9 | 53 => 219 | 57 => 223 | 63 => 231 | 64 => 92 | n => n, fun | n => n⟩
theorem sortA : Go.Proofs.SlLaysM.n5 Tryz.prog sortA_ren := {
 mixed := by kernel_rfl
 f5 := ⟨Tryz.f119.name, by decide, Tryz.func119.trans (congrArg some (by kernel_rfl))⟩
 f7 := ⟨Tryz.f137.name, by decide, Tryz.func137.trans (congrArg some (by kernel_rfl))⟩
 f8 := Tryz.func114.trans (congrArg some (by kernel_rfl))
 f10 := ⟨Tryz.f144.name, by decide, Tryz.func144.trans (congrArg some (by kernel_rfl))⟩
 f11 := ⟨Tryz.f145.name, by decide, Tryz.func145.trans (congrArg some (by kernel_rfl))⟩
 f12 := ⟨Tryz.f146.name, by decide, Tryz.func146.trans (congrArg some (by kernel_rfl))⟩
 f13 := ⟨Tryz.f147.name, by decide, Tryz.func147.trans (congrArg some (by kernel_rfl))⟩
 f14 := ⟨Tryz.f148.name, by decide, Tryz.func148.trans (congrArg some (by kernel_rfl))⟩
 f15 := ⟨Tryz.f149.name, by decide, Tryz.func149.trans (congrArg some (by kernel_rfl))⟩
 f16 := ⟨Tryz.f150.name, by decide, Tryz.func150.trans (congrArg some (by kernel_rfl))⟩
 f17 := ⟨Tryz.f151.name, by decide, Tryz.func151.trans (congrArg some (by kernel_rfl))⟩
 f18 := ⟨Tryz.f152.name, by decide, Tryz.func152.trans (congrArg some (by kernel_rfl))⟩
 f19 := Tryz.func132.trans (congrArg some (by kernel_rfl))
 f20 := Tryz.func133.trans (congrArg some (by kernel_rfl))
 f30 := ⟨Tryz.f154.name, by decide, Tryz.func154.trans (congrArg some (by kernel_rfl))⟩
 f31 := Tryz.func140.trans (congrArg some (by kernel_rfl))
 f32 := Tryz.func141.trans (congrArg some (by kernel_rfl))
 f33 := ⟨Tryz.f155.name, by decide, Tryz.func155.trans (congrArg some (by kernel_rfl))⟩
 f34 := ⟨Tryz.f156.name, by decide, Tryz.func156.trans (congrArg some (by kernel_rfl))⟩
 f35 := ⟨Tryz.f116.name, by decide, Tryz.func116.trans (congrArg some (by kernel_rfl))⟩
 f40 := ⟨Tryz.f157.name, by decide, Tryz.func157.trans (congrArg some (by kernel_rfl))⟩
 t0 := Tryz.underlying0
 a0 := Tryz.isAgg0
 z0 := Tryz.sizeOf0
 v0 := Tryz.zeroValue0
 t3 := Tryz.underlying3
 a3 := Tryz.isAgg3
 z3 := Tryz.sizeOf3
 v3 := Tryz.zeroValue3
 t4 := Tryz.underlying4
 a4 := Tryz.isAgg4
 z4 := Tryz.sizeOf4
 v4 := Tryz.zeroValue4
 t5 := Tryz.underlying5
 a5 := Tryz.isAgg5
 z5 := Tryz.sizeOf5
 v5 := Tryz.zeroValue5
 t9 := Tryz.underlying9
 a9 := Tryz.isAgg9
 z9 := Tryz.sizeOf9
 v9 := Tryz.zeroValue9
 t22 := Tryz.underlying188
 a22 := Tryz.isAgg188
 z22 := Tryz.sizeOf188
 v22 := Tryz.zeroValue188
 t23 := Tryz.underlying188
 a23 := Tryz.isAgg188
 z23 := Tryz.sizeOf188
 v23 := Tryz.zeroValue188
 t25 := Tryz.underlying3
 a25 := Tryz.isAgg3
 z25 := Tryz.sizeOf3
 v25 := Tryz.zeroValue3
 t32 := Tryz.underlying198
 a32 := Tryz.isAgg198
 z32 := Tryz.sizeOf198
 v32 := Tryz.zeroValue198
 t35 := Tryz.underlying207
 a35 := Tryz.isAgg207
 z35 := Tryz.sizeOf207
 v35 := Tryz.zeroValue207
 t36 := Tryz.underlying208
 a36 := Tryz.isAgg208
 z36 := Tryz.sizeOf208
 v36 := Tryz.zeroValue208
 t41 := Tryz.underlying193
 a41 := Tryz.isAgg193
 z41 := Tryz.sizeOf193
 v41 := Tryz.zeroValue193
 t44 := Tryz.underlying22
 a44 := Tryz.isAgg22
 z44 := Tryz.sizeOf22
 v44 := Tryz.zeroValue22
 t46 := Tryz.underlying214
 a46 := Tryz.isAgg214
 z46 := Tryz.sizeOf214
 v46 := Tryz.zeroValue214
 t53 := Tryz.underlying219
 a53 := Tryz.isAgg219
 z53 := Tryz.sizeOf219
 v53 := Tryz.zeroValue219
 t57 := Tryz.underlying223
 a57 := Tryz.isAgg223
 z57 := Tryz.sizeOf223
 v57 := Tryz.zeroValue223
 t63 := Tryz.underlying231
 a63 := Tryz.isAgg231
 z63 := Tryz.sizeOf231
 v63 := Tryz.zeroValue231
 t64 := Tryz.underlying92
 a64 := Tryz.isAgg92
 z64 := Tryz.sizeOf92
 v64 := Tryz.zeroValue92 }
theorem sort_ints {w : World} {p : Option Addr} {n c : Nat} {xs : List Int} (h : RowAt w 3 1 p n c (xs.map (Value.int .i64))) (hn : n = xs.length) (hle : n ≤ 1000000) :
  Calls Tryz.prog 119 #[.slice p n c] w fun e w' => e = .returned (.tuple #[]) ∧ RowAt w' 3 1 p n c ((xs.mergeSort fun x y => decide (x ≤ y)).map (Value.int .i64)) ∧ Chg (rowB p) w w' := by
 subst hn
 rcases h.2 with ⟨hv, hz⟩ | ⟨g, cap, cur, hv, hb, hg, h1, h2, h3, h4⟩
 ·obtain rfl : xs = [] := List.eq_nil_of_length_eq_zero hz
  cases hv
  refine (AnyM.slices_Sort_int_none sortA none 0 w).mono ?_
  rintro e w' ⟨rfl, rfl⟩
  exact ⟨rfl, by simpa using h, Chg.refl _ _⟩
 ·cases hv
  refine (AnyM.slices_Sort_int sortA g 0 c xs w (holds_of_blockI hg (by simpa using h4)) (lt_of_heap hg) (by omega)).mono ?_
  rintro e w' ⟨rfl, nn, os, rfl⟩
  refine ⟨rfl, ?_, ?_⟩
  ·exact ownsRow_sortedI (by simp) (Nat.zero_le _) hg h1 h2 h3
  ·obtain ⟨k1, k2, k3, k4, k5⟩ := grownBy_sortedI (w := w) (g := g) (n := nn) (os := os) (xs.mergeSort fun x y => decide (x ≤ y)).toArray
   exact ⟨k1, k2, k3, k4, fun k hk hf => k5 k hk (fun e => hf (by simp [rowB] at e ⊢; omega))⟩
theorem sorted {w : World} {fv : Value} {S Sp : List Int → Prop} {keep : List Nat} (hf : IsFn Tryz.prog fv) (hi : Iterates Tryz.prog fv (fun x : Int => #[.int .i64 x]) S Sp keep w) (hk : ∀ i ∈ keep, i < w.heap.size)
  (hle : ∀ pre, Sp pre → pre.length ≤ 1000000) (hSp : ∀ xs, S xs → Sp xs) :
  Calls Tryz.prog 102 #[fv] w fun e w' => ∃ (p : Option Addr) (n c : Nat), e = .returned (.slice p n c) ∧ ∃ xs, S xs ∧ n = xs.length ∧ RowAt w' 3 1 p n c ((xs.mergeSort fun x y => decide (x ≤ y)).map (Value.int .i64)) ∧ Chg [] w w' ∧ ∀ b ∈ rowB p, w.heap.size ≤ b := by
 refine go_slices_Sorted_61 _ _ _ ?_
 unfold W_slices_Sorted_61
 refine (collect hf hi hk hle).mono ?_
 rintro _ w1 ⟨p, n, c, rfl, xs, hS, hn, hr, c1, hb⟩
 refine ⟨p, n, c, rfl, ?_⟩
 refine (sort_ints hr hn (by have := hle _ (hSp _ hS); omega)).mono ?_
 rintro _ w2 ⟨rfl, hr2, c2⟩
 exact ⟨rfl, xs, hS, hn, hr2, c1.trans c2 (fun i hi hlt => by have := hb i hi; omega), hb⟩
end Go.Proofs.YtfcfkhbkkfpehaaGreat
end
section
/- Shadows: Copy. -/
namespace Go.Proofs.YtfcfkhbkkfpehaaGreat
open Go Go.RowKit Go.X Go.XR
theorem maps_all (w : World) (m : Option Nat) : Calls Tryz.prog 82 #[.map m] w fun e w' => ∃ r : Value, e = .returned r ∧ ∃ cb, r = .func (.func 100) #[] #[.pointer (some ⟨cb, 0, none⟩)] ∧ cb = w.heap.size ∧ w'.heap[cb]? = some (.cells #[.map m] 156 (0, 0)) ∧ Chg [] w w' := by
 refine go_maps_All_0 _ _ _ ?_
 unfold W_maps_All_0
 exact v_alloc fun b w1 e h c => ⟨b, rfl, e, h, c⟩
theorem PageC.ones {w : World} {q : Nat} {n : Int} {s : Nat → Int} {c : Array Value} (h1 : c.size = 65) (h2 : c[0]? = some (.int .i64 n)) (h3 : ∀ i, i < 64 → c[1 + i]? = some (.int .u32 (s i))) : ∀ v ∈ c.toList, Value.oneCell' v = true := by
 intro v hv
 obtain ⟨j, hj⟩ := List.getElem?_of_mem hv
 have hlt : j < c.toList.length := (List.getElem?_eq_some_iff.1 hj).1
 simp at hlt
 cases j with
 | zero =>
  have : c[0]? = some v := by simpa using hj
  rw [h2] at this; cases this; rfl
 | succ j =>
  have : c[1 + j]? = some v := by rw [Nat.add_comm]; simpa using hj
  rw [h3 j (by omega)] at this; cases this; rfl
theorem shadow_copy {w : World} {b : Nat} {pages : Int} {g : Int → Int} {fp : List Nat} (h : ShadowAt w b pages g fp) :
  Calls Tryz.prog 45 #[.pointer (some ⟨b, 0, none⟩)] w fun e w' => ∃ r1 : Option Addr, e = .returned (.pointer r1) ∧ (∃ b' fp', r1 = some ⟨b', 0, none⟩ ∧ ShadowAt w' b' pages g fp' ∧ Chg [] w w' ∧ ∀ i ∈ fp', w.heap.size ≤ i) := by
 obtain ⟨r, l, h1, h2, h3, h4, rfl⟩ := h.there
 have hlt := h.lt
 refine go_shadow_Shadow_Copy _ _ _ ?_
 unfold W_shadow_Shadow_Copy
 refine (shadow_none h).mono ?_
 rintro _ w1 ⟨_, rfl, rfl, hw⟩
 subst w1
 refine ⟨_, rfl, fun h => by simp at h, fun _ => ⟨_, rfl, pages, by rw [cell_of h1]; rfl, ?_⟩⟩
 refine v_alloc fun b1 w2 e1 hb1 c2 => ?_
 refine v_alloc fun b2 w3 e2 hb2 c3 => ?_
 refine v_alloc fun b3 w4 e3 hb3 c4 => ?_
 refine v_set0 hb3 (by simp) fun w5 hb35 c5 s5 => ?_
 have s2 := c2.size
 have s3 := c3.size
 have s4 := c4.size
 have l2 : b1 < w2.heap.size := lt_of_heap hb1
 have l3 : b2 < w3.heap.size := lt_of_heap hb2
 have l4 : b3 < w4.heap.size := lt_of_heap hb3
 have c05 : Chg [] w w5 := ((c2.trans0 c3).trans0 c4).trans c5 (fun i hi hlt => by simp at hi; omega)
 have hh5 := c05.obj (by simp) h1
 have hb15 := c5.obj (by simp; omega) (c4.obj (by simp) (c3.obj (by simp) hb1))
 have hb25 := c5.obj (by simp; omega) (c4.obj (by simp) hb2)
 refine ⟨some r, by rw [add_at, cell_of hh5]; rfl, ?_⟩
 refine (maps_all w5 (some r)).mono ?_
 rintro _ w6 ⟨_, rfl, cb, rfl, ecb, hcb, c6⟩
 have s6 := c6.size
 have c06 := c05.trans0 c6
 have hm6 := h2.chg c06 (by simp)
 have hcbl : cb < w6.heap.size := lt_of_heap hcb
 have hrl : r < w6.heap.size := hm6.lt
 refine ⟨_, rfl, allS pgF l, allSp pgF l, [cb, r], isFn118 cb, iterates_all hcb hm6, by simp; exact ⟨hcbl, hrl⟩,
  fun O pre w' => ∃ l' : List (Int × Nat), l'.map Prod.fst = pre.map Prod.fst ∧ MapIs w' b1 (fun n : Int => .int .i64 n) encPg l' ∧ (∀ x ∈ l', PageC w' x.2 (many (pg g x.1)) (pg g x.1) ∧ x.2 ∉ O ∧ w6.heap.size ≤ x.2) ∧ (l'.map Prod.snd).Nodup ∧
   w'.heap[b2]? = some (.cells #[.int .i64 pages, .map (some b1)] 158 (0, 0)) ∧ w'.heap[b3]? = some (.cells #[.pointer (some ⟨b2, 0, none⟩)] 98 (0, 0)) ∧ Chg [] w w' ∧ w6.heap.size ≤ w'.heap.size, ?_, ?_, ?_, ?_⟩
 ·rintro pre O O' A B ⟨l', k1, k2, k3, k4, k5, k6, k7, k8⟩ hO hc hO' hg
  have hn : ∀ {i : Nat}, i < w6.heap.size → i ∉ O := fun hi hm => by have := (hO _ hm).1; omega
  have hsz := hc.size
  refine ⟨l', k1, k2.chg hc (hn (by omega)), fun x hx => ?_, k4, hc.obj (hn (by omega)) k5, hc.obj (hn (by omega)) k6, k7.trans hc (fun i hi hlt => by have := (hO i hi).1; omega), by omega⟩
  obtain ⟨a1, a2, a3⟩ := k3 x hx
  refine ⟨a1.chg hc a2, fun hm => ?_, a3⟩
  rcases hg _ hm with h | h
  ·exact a2 h
  ·have := a1.lt; omega
 ·intro O w7 c7 hO
  exact ⟨[], rfl, ⟨#[], 0, c7.obj (by simp) (c6.obj (by simp) hb15), rfl, by simp, by simp, by simp⟩, by simp, by simp, c7.obj (by simp) (c6.obj (by simp) hb25), c7.obj (by simp) (c6.obj (by simp) hb35), c06.trans0 c7, c7.size⟩
 ·rintro l1 O pre x1 x2 w7 hO hl1 ⟨done, hd, hdn, hds⟩ ⟨l', k1, k2, k3, k4, k5, k6, k7, k8⟩ w8 c8
  have hn : ∀ {i : Nat}, i < w6.heap.size → i ∉ [l1] := fun hi hm => by simp at hm; subst hm; have := (hO _ hl1).1; omega
  have s8 := c8.size
  -- the element
  obtain ⟨k, v, done', hdd, hx1, hx2, hpre⟩ : ∃ (k : Int) (v : Nat) (done' : List (Int × Nat)), done = done' ++ [(k, v)] ∧ x1 = k ∧ x2 = some ⟨v, 0, none⟩ ∧ pre = done'.map pgF := by
   have hne : done ≠ [] := by rintro rfl; simp at hd
   obtain ⟨done', y, rfl⟩ : ∃ d' y, done = d' ++ [y] := ⟨done.dropLast, done.getLast hne, (List.dropLast_concat_getLast hne).symm⟩
   rw [List.map_append] at hd
   have := List.append_inj' hd rfl
   have h2' : (x1, x2) = pgF y := by simpa using this.2
   exact ⟨y.1, y.2, done', rfl, congrArg Prod.fst h2', congrArg Prod.snd h2', this.1⟩
  subst hdd hx1 hx2 hpre
  have hkl : (x1, v) ∈ l := hds _ (by simp)
  have hknew : x1 ∉ done'.map Prod.fst := fun hm => by
   rw [List.map_append, List.nodup_append] at hdn
   exact hdn.2.2 _ hm x1 (by simp) rfl
  obtain ⟨v0, v1, ⟨c, p1, p2, p3, p4⟩, vm⟩ := h3 _ hkl
  simp only [] at v0 v1 p1 p3 p4
  have c08 : Chg [] w w8 := k7.trans c8 (fun i hi hlt => by simp at hi; subst hi; have := (hO _ hl1).1; omega)
  have hp8 := c08.obj (by simp) p1
  refine ⟨_, rfl, c.toList, by simp [p2], cellsAt_of (by simpa using hp8), ?_⟩
  refine v_alloc fun b4 w9 e4 hb4 c9 => ?_
  have s9 := c9.size
  have l9 : b4 < w9.heap.size := lt_of_heap hb4
  refine ⟨PageC.ones (w := w) (q := v) p2 p3 p4, ?_⟩
  refine v_fill hb4 (by simp [z167_XG3, p2]) (by simp [z167_XG3]) fun w10 hb410 c10 s10 => ?_
  have c810 : Chg [] w8 w10 := c9.trans c10 (fun i hi hlt => by simp at hi; omega)
  have hb310 := c810.obj (by simp) (c8.obj (hn (by omega)) k6)
  have hb210 := c810.obj (by simp) (c8.obj (hn (by omega)) k5)
  refine ⟨_, by rw [cell_of hb310]; rfl, _, rfl, some b1, by rw [add_at, cell_of hb210]; rfl, ?_⟩
  have hm10 := (k2.chg c8 (hn (by omega))).chg c810 (by simp)
  obtain ⟨w11, hu, c11, hs11, hm11⟩ := hm10.update (P := Tryz.prog) (T := 156) u173 keyInt x1 b4
  refine ⟨w11, hu, by omega, ?_, ?_⟩
  ·have hknone : lookK x1 l' = none := lookK_none.2 fun p hp e => by
    have : p.1 ∈ l'.map Prod.fst := List.mem_map.2 ⟨p, hp, rfl⟩
    rw [k1, List.map_map] at this
    exact hknew (e ▸ (by simpa [pgF, Function.comp_def] using this))
   have hupd : upd x1 b4 l' = l' ++ [(x1, b4)] := by unfold upd; rw [hknone]; rfl
   rw [hupd] at hm11
   refine ⟨l' ++ [(x1, b4)], by simp [k1], hm11, fun x hx => ?_, ?_, c11.obj (by simp; omega) hb210, c11.obj (by simp; omega) hb310, (c08.trans0 c810).trans c11 (fun i hi hlt => by simp at hi; omega), by omega⟩
   ·rcases List.mem_append.1 hx with hx | hx
    ·obtain ⟨a1, a2, a3⟩ := k3 x hx
     exact ⟨((a1.chg c8 (fun hm => by simp at hm; exact a2 (hm ▸ hl1))).chg c810 (by simp)).chg c11 (by simp; omega), a2, a3⟩
    ·simp at hx; subst hx
     refine ⟨⟨c, c11.obj (by simp; omega) (by simpa using hb410), p2, p3, p4⟩, fun hm => ?_, by simp only []; omega⟩
     have := (hO _ hm).2; omega
   ·rw [List.map_append, List.nodup_append]
    refine ⟨k4, by simp, fun a ha b' hb' e => ?_⟩
    simp at hb'; subst hb'; subst e
    obtain ⟨x, hx, rfl⟩ := List.mem_map.1 ha
    have := (k3 x hx).1.lt; omega
  ·intro i hi
   have hi' : i < w8.heap.size ∧ i ≠ b1 := by
    rcases List.mem_append.1 hi with hi | hi
    ·simp at hi; rcases hi with rfl | rfl
     ·exact ⟨by omega, by omega⟩
     ·have := h2.lt; exact ⟨by omega, by omega⟩
    ·have := hO i hi; exact ⟨by omega, by omega⟩
   rw [c11.block i (by have := c810.size; omega) (by simpa using hi'.2), c810.block i hi'.1 (by simp)]
 ·rintro d1 O xs w12 hO hd1 ⟨done, rfl, hdn, hds, hda⟩ ⟨l', k1, k2, k3, k4, k5, k6, k7, k8⟩
  refine ⟨_, by rw [cell_of k6]; rfl, fun w13 c13 => ?_⟩
  have hn : ∀ {i : Nat}, i < w6.heap.size → i ∉ [d1] := fun hi hm => by simp at hm; subst hm; have := (hO _ hd1).1; omega
  have hkeys : ∀ n, n ∈ l'.map Prod.fst ↔ n ∈ l.map Prod.fst := fun n => by
   rw [k1, List.map_map]
   constructor
   ·intro hm
    obtain ⟨x, hx, e⟩ := List.mem_map.1 hm
    exact List.mem_map.2 ⟨x, hds x hx, e⟩
   ·intro hm
    obtain ⟨x, hx, e⟩ := List.mem_map.1 hm
    exact List.mem_map.2 ⟨x, hda x hx, e⟩
  have hget : ∀ x ∈ l', ∃ y ∈ l, y.1 = x.1 := fun x hx => by
   have := (hkeys x.1).1 (List.mem_map.2 ⟨x, hx, rfl⟩)
   obtain ⟨y, hy, e⟩ := List.mem_map.1 this
   exact ⟨y, hy, e⟩
  refine ⟨b2, b2 :: b1 :: l'.map Prod.snd, rfl, ⟨⟨b1, l', c13.obj (hn (by omega)) k5, k2.chg c13 (hn (by omega)), fun x hx => ?_, fun n hnone i hi => ?_, rfl⟩, ?_, h.pages1, h.pages2, h.each⟩, k7.trans c13 (fun i hi hlt => by simp at hi; subst hi; have := (hO _ hd1).1; omega), fun i hi => ?_⟩
  ·obtain ⟨a1, a2, a3⟩ := k3 x hx
   obtain ⟨y, hy, e⟩ := hget x hx
   obtain ⟨q1, q2, q3, q4⟩ := h3 y hy
   rw [e] at q1 q2 q4
   exact ⟨q1, q2, a1.chg c13 (fun hm => by simp at hm; exact a2 (hm ▸ hd1)), q4⟩
  ·refine h4 n (lookK_none.2 fun p hp e => ?_) i hi
   have := (hkeys n).2 (List.mem_map.2 ⟨p, hp, e⟩)
   obtain ⟨x, hx, e'⟩ := List.mem_map.1 this
   exact lookK_none.1 hnone x hx e'
  ·simp only [List.nodup_cons, List.mem_cons, not_or]
   refine ⟨⟨by omega, fun hm => ?_⟩, fun hm => ?_, k4⟩
   ·obtain ⟨x, hx, e⟩ := List.mem_map.1 hm
    have := (k3 x hx).2.2; omega
   ·obtain ⟨x, hx, e⟩ := List.mem_map.1 hm
    have := (k3 x hx).2.2; omega
  ·simp only [List.mem_cons] at hi
   rcases hi with rfl | rfl | hi
   ·omega
   ·omega
   ·obtain ⟨x, hx, e⟩ := List.mem_map.1 hi
    have := (k3 x hx).2.2; omega
end Go.Proofs.YtfcfkhbkkfpehaaGreat
end
section
/- Shadows: All. -/
namespace Go.Proofs.YtfcfkhbkkfpehaaGreat
open Go Go.RowKit Go.X Go.XR
/-! ### The plain law: what is told -/
def one (g : Int → Int) (n : Int) (i : Nat) : List (Int × Int) := if pg g n i = 0 then [] else [(64 * n + i, pg g n i)]
def pgL (g : Int → Int) (n : Int) (k : Nat) : List (Int × Int) := (List.range k).flatMap (one g n)
def someL (g : Int → Int) (k : Nat) : List (Int × Int) := (List.range k).flatMap fun i : Nat => if g i = 0 then [] else [((i : Int), g i)]
theorem pgL_succ (g : Int → Int) (n : Int) (k : Nat) : pgL g n (k + 1) = pgL g n k ++ one g n k := by simp [pgL, List.range_succ]
theorem pgL_none {g : Int → Int} {n : Int} (h : ∀ i, i < 64 → pg g n i = 0) : pgL g n 64 = [] := by
 unfold pgL
 rw [List.flatMap_eq_nil_iff]
 intro i hi
 simp [one, h i (List.mem_range.1 hi)]
theorem someL_add (g : Int → Int) (k m : Nat) : someL g (k + m) = someL g k ++ (List.range m).flatMap fun i : Nat => if g (k + i) = 0 then [] else [((k : Int) + i, g (k + i))] := by
 unfold someL
 rw [List.range_add, List.flatMap_append, List.flatMap_map]
 simp
theorem someL_page (g : Int → Int) (n : Nat) : someL g (64 * (n + 1)) = someL g (64 * n) ++ pgL g n 64 := by
 rw [Nat.mul_succ, someL_add]
 unfold pgL one pg
 simp
theorem someL_pages (g : Int → Int) (n : Nat) : someL g (64 * n) = (List.range n).flatMap fun i : Nat => pgL g i 64 := by
 induction n with
 | zero => rfl
 | succ n ih => rw [someL_page, List.range_succ, List.flatMap_append, ih]; simp
theorem sorted_ext {a b : List Int} (ha : a.Pairwise (· < ·)) (hb : b.Pairwise (· < ·)) (h : ∀ x, x ∈ a ↔ x ∈ b) : a = b := by
 induction a generalizing b with
 | nil => cases b with
  | nil => rfl
  | cons y b => exact absurd ((h y).2 (by simp)) (by simp)
 | cons x a ih =>
  cases b with
  | nil => exact absurd ((h x).1 (by simp)) (by simp)
  | cons y b =>
   rw [List.pairwise_cons] at ha hb
   have hxy : x = y := by
    rcases List.mem_cons.1 ((h x).1 (by simp)) with e | hx
    ·exact e
    ·rcases List.mem_cons.1 ((h y).2 (by simp)) with e | hy
     ·exact e.symm
     ·have := ha.1 y hy; have := hb.1 x hx; omega
   subst hxy
   rw [ih ha.2 hb.2 fun z => ?_]
   constructor
   ·intro hz
    rcases List.mem_cons.1 ((h z).1 (by simp [hz])) with e | h'
    ·have := ha.1 z hz; omega
    ·exact h'
   ·intro hz
    rcases List.mem_cons.1 ((h z).2 (by simp [hz])) with e | h'
    ·have := hb.1 z hz; omega
    ·exact h'
theorem flatMap_filter {α β : Type} (p : α → Bool) (f : α → List β) (l : List α) (h : ∀ x ∈ l, p x = false → f x = []) : (l.filter p).flatMap f = l.flatMap f := by
 induction l with
 | nil => rfl
 | cons a l ih =>
  have ih := ih fun x hx => h x (by simp [hx])
  cases hp : p a with
  | true => simp [hp, ih]
  | false => simp [hp, ih, h a (by simp) hp]
theorem sort_strict {ks : List Int} (hn : ks.Nodup) : (ks.mergeSort fun x y => decide (x ≤ y)).Pairwise (· < ·) := by
 have h1 := List.pairwise_mergeSort (le := fun x y : Int => decide (x ≤ y)) (fun a b c h1 h2 => by simp at *; omega) (fun a b => by simp; omega) ks
 have h2 : (ks.mergeSort fun x y => decide (x ≤ y)).Nodup := (List.mergeSort_perm ks _).nodup_iff.2 hn
 exact (h1.and h2).imp fun {a b} h => by have := h.1; have := h.2; simp at *; omega
theorem keys_all {g : Int → Int} {pages : Int} {l : List (Int × Nat)} {xs : List Int} (hx : allS Prod.fst l xs) (hp : ∀ x ∈ l, 0 ≤ x.1 ∧ x.1 < pages) (hnone : ∀ n, lookK n l = none → ∀ i, i < 64 → pg g n i = 0) :
  (xs.mergeSort fun x y => decide (x ≤ y)).flatMap (fun n => pgL g n 64) = someL g (64 * pages.toNat) := by
 obtain ⟨done, rfl, hn, h1, h2⟩ := hx
 have hmem : ∀ n : Int, n ∈ done.map Prod.fst ↔ (lookK n l).isSome = true := fun n => by
  constructor
  ·intro h
   obtain ⟨x, hx, rfl⟩ := List.mem_map.1 h
   cases hl : lookK x.1 l with
   | none => exact absurd rfl (lookK_none.1 hl x (h1 x hx))
   | some v => rfl
  ·intro h
   obtain ⟨v, hv⟩ := Option.isSome_iff_exists.1 h
   exact List.mem_map.2 ⟨(n, v), h2 _ (lookK_mem hv), rfl⟩
 have e1 : (done.map Prod.fst).mergeSort (fun x y => decide (x ≤ y)) = ((List.range pages.toNat).map (fun i : Nat => (i : Int))).filter fun n => (lookK n l).isSome := by
  refine sorted_ext (sort_strict hn) (List.Pairwise.filter _ ?_) fun n => ?_
  ·rw [List.pairwise_map]
   exact List.pairwise_lt_range.imp fun {a b} h => by omega
  ·rw [(List.mergeSort_perm _ _).mem_iff, hmem, List.mem_filter]
   constructor
   ·intro h
    obtain ⟨v, hv⟩ := Option.isSome_iff_exists.1 h
    have := hp _ (lookK_mem hv)
    exact ⟨List.mem_map.2 ⟨n.toNat, List.mem_range.2 (by simp at this; omega), by simp at this; omega⟩, h⟩
   ·exact fun h => h.2
 rw [e1, flatMap_filter, List.flatMap_map, someL_pages]
 intro n hn' hno
 exact pgL_none (hnone n (by simpa using hno))
/-! ### The walk -/
theorem maps_keys (w : World) (m : Option Nat) : Calls Tryz.prog 103 #[.map m] w fun e w' => ∃ r : Value, e = .returned r ∧ ∃ cb, r = .func (.func 120) #[] #[.pointer (some ⟨cb, 0, none⟩)] ∧ cb = w.heap.size ∧ w'.heap[cb]? = some (.cells #[.map m] 156 (0, 0)) ∧ Chg [] w w' := by
 refine go_maps_Keys_0 _ _ _ ?_
 unfold W_maps_Keys_0
 exact v_alloc fun b w1 e h c => ⟨b, rfl, e, h, c⟩
theorem index_179 {c : Array Value} (hs : c.size = 65) {i : Nat} {z : Int} (hi : i < 64) (hz : c[1 + i]? = some (.int .u32 z)) (w : World) :
  (Instr.index 165 (.agg ((c.toList.drop 1).toArray)) (.int .i64 (i : Int))).run Tryz.prog w = .ok (.int .u32 z) w := by
 have hu : Tryz.prog.underlying 165 = some (.array 64 22) := by kernel_rfl
 have hz' : c[i + 1]? = some (.int .u32 z) := by rw [Nat.add_comm]; exact hz
 unfold Instr.index
 simp [go_sem, run_underlying hu, Result.andThen, hi, part, hz']
theorem isFn93 (cb : Nat) : IsFn Tryz.prog (.func (.func 101) #[] #[.pointer (some ⟨cb, 0, none⟩)]) := ⟨101, Tryz.f101, _, rfl, Tryz.func101, by kernel_rfl, by kernel_rfl⟩
theorem ShadowAt.same {w w' : World} {b : Nat} {pages : Int} {g : Int → Int} {fp : List Nat} (h : ShadowAt w b pages g fp) (hs : Same w w' fp) : ShadowAt w' b pages g fp := by
 obtain ⟨r, l, h1, ⟨es, clk, m1, m2⟩, h3, h4, rfl⟩ := h.there
 refine ⟨⟨r, l, (hs b (by simp)).trans h1, ⟨es, clk, (hs r (by simp)).trans m1, m2⟩, fun x hx => ?_, h4, rfl⟩, h.nodup, h.pages1, h.pages2, h.each⟩
 obtain ⟨a1, a2, ⟨c, a3, a4⟩, a5⟩ := h3 x hx
 exact ⟨a1, a2, ⟨c, (hs x.2 (by simp; exact .inr (.inr ⟨x.1, hx⟩))).trans a3, a4⟩, a5⟩
theorem same_cell {w w' : World} {q : Addr} {v : Value} (h : w'.heap[q.block]? = w.heap[q.block]?) (hq : w.cell? q = some v) : w'.cell? q = some v := by
 unfold World.cell? at hq ⊢
 rw [h]; exact hq
theorem pgL_pre (g : Int → Int) (n : Int) (i m : Nat) : ∃ s, pgL g n (i + m) = pgL g n i ++ s := by
 unfold pgL
 rw [List.range_add, List.flatMap_append]
 exact ⟨_, rfl⟩
theorem allSp_len {l : List (Int × Nat)} {pages : Int} (hp : pages ≤ 32) (h : ∀ x ∈ l, 0 ≤ x.1 ∧ x.1 < pages) {pre : List Int} (hs : allSp Prod.fst l pre) : pre.length ≤ 1000000 := by
 obtain ⟨done, rfl, hn, hd⟩ := hs
 have := nodup_sub_length hn (b := (List.range 32).map fun i : Nat => (i : Int)) fun x hx => by
  obtain ⟨y, hy, rfl⟩ := List.mem_map.1 hx
  have := h y (hd y hy)
  exact List.mem_map.2 ⟨y.1.toNat, List.mem_range.2 (by omega), by omega⟩
 simp at this ⊢
 omega
theorem iterates_shadow {w : World} {cb b : Nat} {pages : Int} {g : Int → Int} {fp : List Nat} (hcb : w.heap[cb]? = some (.cells #[.pointer (some ⟨b, 0, none⟩)] 98 (0, 0))) (h : ShadowAt w b pages g fp) :
  Iterates Tryz.prog (.func (.func 101) #[] #[.pointer (some ⟨cb, 0, none⟩)]) (fun x : Int × Int => #[.int .i64 x.1, .int .u32 x.2]) (fun xs => xs = someL g (64 * pages.toNat)) (fun pre => ∃ suf, pre ++ suf = someL g (64 * pages.toNat)) (cb :: fp) w := by
 intro W yv I Ix hW hI hIx h0 hround
 refine ⟨101, #[.pointer (some ⟨cb, 0, none⟩)], Tryz.f101, rfl, Tryz.func101, by kernel_rfl, by kernel_rfl, ?_⟩
 have hcW := hW.obj (by simp) hcb
 have hSW := h.chg hW (by simp)
 obtain ⟨r, l, h1, h2, h3, h4, rfl⟩ := hSW.there
 have hpg := h.pages2
 have hlr := h2.lt
 have hlcb := lt_of_heap hcW
 have hl := hSW.lt
 have hkeys : ∀ x ∈ l, 0 ≤ x.1 ∧ x.1 < pages := fun x hx => ⟨(h3 x hx).1, (h3 x hx).2.1⟩
 refine (go_shadow_Shadow_All_1 yv ⟨cb, 0, none⟩ W (fun w' => ∃ Own, InO W Own w' ∧ ((∃ xs, xs = someL g (64 * pages.toNat) ∧ I Own xs w') ∨ ∃ pre, (∃ suf, pre ++ suf = someL g (64 * pages.toNat)) ∧ Ix Own pre w')) ?_).mono (fun e w' h => ⟨⟨_, h.1⟩, h.2⟩)
 unfold W_shadow_Shadow_All_1
 refine ⟨_, by rw [cell_of hcW]; rfl, ?_⟩
 refine (shadow_none hSW).mono ?_
 rintro _ w1 ⟨_, rfl, rfl, hw⟩
 subst w1
 refine ⟨_, rfl, fun h => by simp at h, fun _ => ⟨_, by rw [cell_of hcW]; rfl, _, rfl, some r, by rw [add_at, cell_of h1]; rfl, ?_⟩⟩
 refine (maps_keys W (some r)).mono ?_
 rintro _ w2 ⟨_, rfl, kb, rfl, ekb, hkb, c2⟩
 have s2 := c2.size
 have hkl := lt_of_heap hkb
 refine ⟨_, rfl, ?_⟩
 refine (sorted (isFn117 kb) (iterates_keys hkb (h2.chg c2 (by simp))) (by simp; omega) (fun pre hp => allSp_len hpg hkeys hp) (fun xs ⟨d, e, n, a, _⟩ => ⟨d, e, n, a⟩)).mono ?_
 rintro _ w3 ⟨p, n, c, rfl, xs, hS, hn, hr, c3, hp⟩
 have s3 := c3.size
 have hks := keys_all (g := g) hS hkeys h4
 have hmem : ∀ k ∈ (xs.mergeSort fun x y => decide (x ≤ y)), ∃ q, lookK k l = some q ∧ (k, q) ∈ l := fun k hk => by
  rw [(List.mergeSort_perm _ _).mem_iff] at hk
  obtain ⟨done, rfl, d1, d2, d3⟩ := hS
  obtain ⟨x, hx, rfl⟩ := List.mem_map.1 hk
  cases hl : lookK x.1 l with
  | none => exact absurd rfl (lookK_none.1 hl x (d2 x hx))
  | some v => exact ⟨v, rfl, lookK_mem hl⟩
 have hlen : (xs.mergeSort fun x y => decide (x ≤ y)).length = n := by simp [hn]
 have hxs : n ≤ 1000000 := hn ▸ allSp_len hpg hkeys (by obtain ⟨d, e, n, a, _⟩ := hS; exact ⟨d, e, n, a⟩)
 generalize (xs.mergeSort fun x y => decide (x ≤ y)) = ks at hr hks hmem hlen
 refine ⟨p, n, c, rfl, ?_⟩
 have c03 : Chg [] W w3 := c2.trans0 c3
 have hO : ∀ {A : World}, w3.heap.size ≤ A.heap.size → InO W (rowB p) A := fun hA i hi => ⟨by have := hp i hi; omega, by have := hr.lt i hi; omega⟩
 have hI3 := hI [] [] (rowB p) W w3 h0 (by intro i hi; cases hi) c03 (hO (Nat.le_refl _)) (fun i hi => .inr (by have := hp i hi; omega))
 refine ⟨fun x1 w4 => ∃ j : Nat, x1 = j ∧ j ≤ n ∧ I (rowB p) ((ks.take j).flatMap fun n => pgL g n 64) w4 ∧ Same w3 w4 ((cb :: b :: r :: l.map Prod.snd) ++ rowB p) ∧ w3.heap.size ≤ w4.heap.size, fun x1 _ => n - x1.toNat,
  ⟨0, rfl, Nat.zero_le _, hI3, Same.refl _ _, Nat.le_refl _⟩, ?_⟩
 rintro x1 w4 ⟨j, rfl, hj, hI4, hs4, s4⟩
 refine ⟨fun hlt => ?_, fun hge => ?_⟩
 ·simp at hlt
  have hjl : j < ks.length := by omega
  obtain ⟨k, hk⟩ : ∃ k, ks[j]? = some k := ⟨_, List.getElem?_eq_getElem hjl⟩
  obtain ⟨q, hq, hql⟩ := hmem k (List.mem_of_getElem? hk)
  obtain ⟨a, rfl, hcell⟩ := RowAt.at hr (j := j) (u := .int .i64 k) (by simp [hk])
  have hks' : ks = ks.take j ++ k :: ks.drop (j + 1) := by
   rw [← List.take_append_drop j ks]
   congr 1
   ·simp
   ·rw [List.take_append_drop, List.drop_eq_getElem_cons hjl]
    rw [List.getElem?_eq_getElem hjl] at hk
    cases hk; rfl
  have hcb4 := (hs4 cb (by simp)).trans (c03.obj (by simp) hcW)
  have hb4 := (hs4 b (by simp)).trans (c03.obj (by simp) h1)
  have hS4 : ShadowAt w4 b pages g (b :: r :: l.map Prod.snd) := (hSW.chg c03 (by simp)).same (fun x hx => hs4 x (List.mem_append_left _ (List.mem_cons_of_mem _ hx)))
  have hm4 : MapIs w4 r (fun n : Int => .int .i64 n) encPg l := by
   obtain ⟨es, clk, m1, m2⟩ := h2.chg c03 (by simp)
   exact ⟨es, clk, (hs4 r (by simp)).trans m1, m2⟩
  obtain ⟨k0, k1, ⟨cc, p1, p2, p3, p4⟩, _⟩ := h3 _ hql
  simp only [] at k0 k1 p1 p3 p4
  have p1' := (hs4 q (by simp; exact .inr (.inr (.inr (.inl ⟨k, hql⟩))))).trans (c03.obj (by simp) p1)
  refine ⟨a, rfl, by omega, by simp; omega, k, ?_, some ⟨b, 0, none⟩, by rw [cell_of hcb4]; rfl, _, rfl, some r, by rw [add_at, cell_of hb4]; rfl, some ⟨q, 0, none⟩, ?_, _, rfl, cc.toList.drop 1, by simp [p2], ?_, ?_⟩
  ·have : ((j : Int).toNat * 1) = j := by simp
   rw [this]
   exact same_cell (hs4 _ (by rw [add_block]; simp [rowB])) hcell
  ·have := hm4.lookup (P := Tryz.prog) (T := 156) u173 keyInt (z := .pointer none) (fun _ => by kernel_rfl) k false
   rw [this, hq]; rfl
  ·rw [add_at]
   exact box_cells (cs := cc.toList) (by simpa using p1') (by rw [List.take_of_length_le (Nat.le_refl _)])
  have hpre : ∀ i, i < 64 → ∃ suf, ((ks.take j).flatMap fun n => pgL g n 64) ++ pgL g k i ++ one g k i ++ suf = someL g (64 * pages.toNat) := fun i hi => by
   obtain ⟨s, hs⟩ := pgL_pre g k (i + 1) (64 - (i + 1))
   refine ⟨s ++ (ks.drop (j + 1)).flatMap fun n => pgL g n 64, ?_⟩
   rw [← hks]
   conv => rhs; rw [hks']
   rw [List.flatMap_append, List.flatMap_cons, show (64 : Nat) = i + 1 + (64 - (i + 1)) by omega, hs, pgL_succ]
   simp
  refine ⟨fun x2 w5 => ∃ i : Nat, x2 = i ∧ i ≤ 64 ∧ I (rowB (some a)) (((ks.take j).flatMap fun n => pgL g n 64) ++ pgL g k i) w5 ∧ Same w3 w5 ((cb :: b :: r :: l.map Prod.snd) ++ rowB (some a)) ∧ w3.heap.size ≤ w5.heap.size, fun x2 _ => 64 - x2.toNat,
   ⟨0, rfl, by omega, by simpa [pgL] using hI4, hs4, s4⟩, ?_⟩
  rintro x2 w5 ⟨i, rfl, hi, hI5, hs5, s5⟩
  have ew : IntKind.wrap .i64 ((i : Int) + 1) = ((i + 1 : Nat) : Int) := by rw [wr (by omega) (by omega)]; omega
  refine ⟨fun hlt => ?_, fun hge => ?_⟩
  ·simp at hlt
   have hi6 : i < 64 := by omega
   refine ⟨pg g k i, fun w => index_179 p2 hi6 (p4 i hi6) w, ?_⟩
   have next : ∀ w6, I (rowB (some a)) (((ks.take j).flatMap fun n => pgL g n 64) ++ pgL g k i ++ one g k i) w6 → Same w3 w6 ((cb :: b :: r :: l.map Prod.snd) ++ rowB (some a)) → w3.heap.size ≤ w6.heap.size →
     ((∃ i' : Nat, IntKind.wrap .i64 ((i : Int) + 1) = i' ∧ i' ≤ 64 ∧ I (rowB (some a)) (((ks.take j).flatMap fun n => pgL g n 64) ++ pgL g k i') w6 ∧ Same w3 w6 ((cb :: b :: r :: l.map Prod.snd) ++ rowB (some a)) ∧ w3.heap.size ≤ w6.heap.size) ∧ 64 - (IntKind.wrap .i64 ((i : Int) + 1)).toNat < 64 - (i : Int).toNat) := fun w6 h1 h2 h3 =>
    ⟨⟨i + 1, ew, by omega, by rw [pgL_succ, ← List.append_assoc]; exact h1, h2, h3⟩, by rw [ew]; omega⟩
   refine ⟨fun b6 w6 => (b6 = true → ∃ Own, InO W Own w6 ∧ ∃ pre, (∃ suf, pre ++ suf = someL g (64 * pages.toNat)) ∧ Ix Own pre w6) ∧ (b6 = false → I (rowB (some a)) (((ks.take j).flatMap fun n => pgL g n 64) ++ pgL g k i ++ one g k i) w6 ∧ Same w3 w6 ((cb :: b :: r :: l.map Prod.snd) ++ rowB (some a)) ∧ w3.heap.size ≤ w6.heap.size), ?_, fun hne => ?_, fun heq => ?_⟩
   ·rintro b6 w6 ⟨k1, k2⟩
    refine ⟨fun hb => ?_, fun hb => ?_⟩
    ·obtain ⟨Own, h1, h2⟩ := k1 hb
     exact ⟨Own, h1, .inr h2⟩
    ·obtain ⟨h1, h2, h3⟩ := k2 hb
     exact next w6 h1 h2 h3
   ·have hne' : pg g k i ≠ 0 := by simpa using hne
    have e1 : one g k i = [(64 * k + (i : Int), pg g k i)] := by simp [one, hne']
    have e2 : IntKind.wrap .i64 (IntKind.wrap .i64 (k * 64) + (i : Int)) = 64 * k + i := by
     rw [wr (n := k * 64) (by omega) (by omega), wr (by omega) (by omega)]; omega
    rw [e2]
    have hpi := hpre i hi6
    rw [e1] at hpi ⊢
    refine (hround (rowB (some a)) _ (64 * k + (i : Int), pg g k i) w5 (hO s5) hpi hI5).mono ?_
    rintro e w7 ⟨s7, ⟨rfl, hI7, hs7⟩ | ⟨rfl, hx7⟩⟩
    ·exact ⟨true, rfl, fun h => by simp at h, fun _ => ⟨hI7, fun x hx => (hs7 x hx).trans (hs5 x hx), by omega⟩⟩
    ·exact ⟨false, rfl, fun _ => ⟨rowB (some a), hO (by omega), _, hpi, hx7⟩, fun h => by simp at h⟩
   ·have he : pg g k i = 0 := by simpa using heq
    exact ⟨fun h => by simp at h, fun _ => ⟨by simpa [one, he] using hI5, hs5, s5⟩⟩
  ·simp at hge
   have : i = 64 := by omega
   subst this
   have ew1 : IntKind.wrap .i64 ((j : Int) + 1) = ((j + 1 : Nat) : Int) := by rw [wr (by omega) (by omega)]; omega
   refine ⟨⟨j + 1, ew1, by omega, ?_, hs5, s5⟩, by rw [ew1]; simp only []; omega⟩
   rw [List.take_add_one, hk, List.flatMap_append]
   simpa using hI5
 ·simp at hge
  have : j = n := by omega
  subst this
  rw [List.take_of_length_le (by omega), hks] at hI4
  exact ⟨rowB p, hO s4, .inl ⟨_, rfl, hI4⟩⟩
end Go.Proofs.YtfcfkhbkkfpehaaGreat
end
section
namespace Go.Proofs.YtfcfkhbkkfpehaaGreat
open Go Go.X
end Go.Proofs.YtfcfkhbkkfpehaaGreat
end
section
/- The document's shadow (pomanderref03): a list of sets. -/
namespace Go.Proofs.YtfcfkhbkkfpehaaGreat
open Go Go.RowKit Go.X
section
variable {w : World} {p : Option Addr} {n c : Nat} {g : Int → Int} {pages : Int}
end
end Go.Proofs.YtfcfkhbkkfpehaaGreat
end
section
/- Shadows: Pages, Private; All. -/
namespace Go.Proofs.YtfcfkhbkkfpehaaGreat
open Go Go.RowKit Go.X Go.XR
theorem shadow_all {w : World} {b : Nat} {pages : Int} {g : Int → Int} {fp : List Nat} (h : ShadowAt w b pages g fp) :
  Calls Tryz.prog 88 #[.pointer (some ⟨b, 0, none⟩)] w fun e w' => ∃ r : Value, e = .returned r ∧ ∃ cb b' fp', r = .func (.func 101) #[] #[.pointer (some ⟨cb, 0, none⟩)] ∧ w'.heap[cb]? = some (.cells #[.pointer (some ⟨b', 0, none⟩)] 98 (0, 0)) ∧ ShadowAt w' b' pages g fp' ∧ Chg [] w w' ∧ ∀ i ∈ cb :: fp', w.heap.size ≤ i := by
 refine go_shadow_Shadow_All _ _ _ ?_
 unfold W_shadow_Shadow_All
 refine v_alloc fun b1 w1 e1 hb1 c1 => ?_
 have s1 := c1.size
 have hl1 := lt_of_heap hb1
 refine ⟨_, by rw [cell_of hb1]; rfl, ?_⟩
 refine (shadow_copy (h.chg c1 (by simp))).mono ?_
 rintro _ w2 ⟨_, rfl, b', fp', rfl, hS, c2, hn⟩
 refine ⟨_, rfl, ?_⟩
 refine v_set0 (c2.obj (by simp) hb1) (by simp) fun w3 hb3 c3 s3 => ?_
 refine ⟨b1, b', fp', rfl, hb3, hS.chg c3 (fun i hi hm => by simp at hm; subst hm; have := hn _ hi; omega), (c1.trans0 c2).trans c3 (fun i hi hlt => by simp at hi; omega), ?_⟩
 intro i hi
 rcases List.mem_cons.1 hi with h | h
 ·omega
 ·have := hn i h; omega
end Go.Proofs.YtfcfkhbkkfpehaaGreat
end
section
namespace Go.Proofs.YtfcfkhbkkfpehaaGreat
open Go Go.X
end Go.Proofs.YtfcfkhbkkfpehaaGreat
end
section
/- pomanderlaw03: is. -/
namespace Go.Proofs.YtfcfkhbkkfpehaaGreat
open Go Go.RowKit Go.X Go.XR
theorem someL_succ (g : Int → Int) (k : Nat) : someL g (k + 1) = someL g k ++ if g k = 0 then [] else [((k : Int), g k)] := by
 unfold someL
 rw [List.range_succ, List.flatMap_append]
 simp
theorem someL_le (g : Int → Int) (k m : Nat) : ∃ s, someL g (k + m) = someL g k ++ s := ⟨_, someL_add g k m⟩
theorem someL_next {g : Int → Int} {n : Nat} {x s : Int} {suf : List (Int × Int)} : ∀ (m k : Nat), k + m = n → someL g k ++ (x, s) :: suf = someL g n →
  ∃ j : Nat, x = j ∧ k ≤ j ∧ j < n ∧ s = g j ∧ g j ≠ 0 ∧ (∀ i : Nat, k ≤ i → i < j → g i = 0) ∧ someL g (j + 1) = someL g k ++ [(x, s)]
 | 0, k, hk, h => by
  obtain rfl : k = n := by omega
  have := congrArg List.length h
  simp at this
 | m + 1, k, hk, h => by
  by_cases hz : g k = 0
  ·have e := someL_succ g k
   rw [if_pos hz, List.append_nil] at e
   rw [← e] at h
   obtain ⟨j, h1, h2, h3, h4, h5, h6, h7⟩ := someL_next m (k + 1) (by omega) h
   refine ⟨j, h1, by omega, h3, h4, h5, fun i hi hj => ?_, by rw [h7, e]⟩
   rcases Nat.lt_or_ge k i with h | h
   ·exact h6 i h hj
   ·obtain rfl : i = k := by omega
    exact hz
  ·have e := someL_succ g k
   rw [if_neg hz] at e
   obtain ⟨s', hs⟩ := someL_le g (k + 1) m
   rw [show k + 1 + m = n by omega, e, List.append_assoc] at hs
   rw [hs] at h
   have h' := List.append_cancel_left h
   simp at h'
   obtain ⟨⟨rfl, rfl⟩, rfl⟩ := h'
   exact ⟨k, rfl, Nat.le_refl _, by omega, rfl, hz, fun i hi hj => by omega, e⟩
end Go.Proofs.YtfcfkhbkkfpehaaGreat
end
section
namespace Go.Proofs.YtfcfkhbkkfpehaaGreat
open Go Go.X
/- (*pomander/flow.Flow).Copy -/
def W_flow_Flow_Copy (f1 : Option Addr) (w : World) (R : (Option Addr) → World → Prop) : Prop :=
 Calls Tryz.prog 43 #[.pointer f1] w fun e w1 => ∃ (r2 : Bool), e = .returned (.bool r2) ∧ ((r2 = true → R none w1) ∧ (r2 = false → ∀ (w2 : World), Chg [] w1 w2 → (∃ a1 : Addr, f1 = some a1 ∧ (∃ (t1 : Int) (t2 : Int), CellsAt w2 a1 0 [.int .i64 t1, .int .i64 t2] ∧ (∃ (t3 : Option Addr), w2.cell? (a1.add 2) = some (.pointer t3) ∧ (∃ (t4 : Option Addr), w2.cell? (a1.add 3) = some (.pointer t4) ∧ (∃ (t5 : Option Addr), w2.cell? (a1.add 4) = some (.pointer t5) ∧ (∃ (t6 : Option Nat), w2.cell? (a1.add 5) = some (.map t6) ∧ (Calls Tryz.prog 44 #[.pointer t3] w2 fun e w3 => ∃ (r3 : Option Addr), e = .returned (.pointer r3) ∧ ((CellsAt w3 a1 0 [.int .i64 t1, .int .i64 t2] ∧ w3.cell? (a1.add 2) = some (.pointer t3) ∧ w3.cell? (a1.add 3) = some (.pointer t4) ∧ w3.cell? (a1.add 4) = some (.pointer t5) ∧ w3.cell? (a1.add 5) = some (.map t6)) ∧ (Calls Tryz.prog 45 #[.pointer t4] w3 fun e w4 => ∃ (r4 : Option Addr), e = .returned (.pointer r4) ∧ ((CellsAt w4 a1 0 [.int .i64 t1, .int .i64 t2] ∧ w4.cell? (a1.add 2) = some (.pointer t3) ∧ w4.cell? (a1.add 3) = some (.pointer t4) ∧ w4.cell? (a1.add 4) = some (.pointer t5) ∧ w4.cell? (a1.add 5) = some (.map t6)) ∧ (Calls Tryz.prog 45 #[.pointer t5] w4 fun e w5 => ∃ (r5 : Option Addr), e = .returned (.pointer r5) ∧ ((CellsAt w5 a1 0 [.int .i64 t1, .int .i64 t2] ∧ w5.cell? (a1.add 2) = some (.pointer t3) ∧ w5.cell? (a1.add 3) = some (.pointer t4) ∧ w5.cell? (a1.add 4) = some (.pointer t5) ∧ w5.cell? (a1.add 5) = some (.map t6)) ∧ (Calls Tryz.prog 46 #[.map t6] w5 fun e w6 => ∃ (r6 : Option Nat), e = .returned (.map r6) ∧ ((CellsAt w6 a1 0 [.int .i64 t1, .int .i64 t2] ∧ w6.cell? (a1.add 2) = some (.pointer t3) ∧ w6.cell? (a1.add 3) = some (.pointer t4) ∧ w6.cell? (a1.add 4) = some (.pointer t5) ∧ w6.cell? (a1.add 5) = some (.map t6)) ∧ (∀ b1 : Nat, b1 = World.size w6 → ∀ w7 : World, w7 = World.alloc w6 (.cells #[.int .i64 t1, .int .i64 t2, .pointer r3, .pointer r4, .pointer r5, .map r6] 101) → (R (some (⟨b1, 0, none⟩ : Addr)) w7))))))))))))))))))
set_option maxRecDepth 100000 in
theorem go_flow_Flow_Copy (f1 : Option Addr) (w : World) (R : (Option Addr) → World → Prop) (h : W_flow_Flow_Copy f1 w R) : Calls Tryz.prog 15 #[.pointer f1] w (fun e w' => ∃ (r1 : Option Addr), e = .returned (.pointer r1) ∧ R r1 w') := by
 unfold W_flow_Flow_Copy at h
 refine enter (N := 31) Tryz.func15 rfl rfl ?_
 refine CW.seq ?_
 refine CW.region fun L hL => ?_
 refine LW.rd hL rfl (Wants.free rfl) rfl (Rd.assign (v := .pointer none) rfl) ?_
 refine LW.nil hL rfl ?_
 refine NW.then ?_
 refine CW.seq ?_
 refine CW.seq ?_
 refine CW.region fun L hL => ?_
 refine LW.rd hL rfl (Wants.free rfl) rfl (Rd.move (v := .pointer f1) rfl) ?_
 refine LW.call hL rfl (Wants.free rfl) rfl (Cl.fn (f := 43) rfl Tryz.func43 (by kernel_rfl) rfl) h (fun e w1 h_ => ?_)
 clear h
 obtain ⟨r2, rfl, h⟩ := h_
 refine ⟨_, rfl, ?_⟩
 refine LW.nil hL rfl ?_
 refine NW.then ?_
 refine CW.cond rfl (fun hb1 => ?_) (fun hb1 => ?_)
 ·replace h := h.1 hb1
  refine CW.seq ?_
  refine CW.region fun L hL => ?_
  refine LW.rd hL rfl (Wants.free rfl) rfl (Rd.assign (v := .pointer none) rfl) ?_
  refine LW.nil hL rfl ?_
  refine NW.then ?_
  refine CW.ret ?_
  refine RW.then ?_
  exact res1 rfl rfl ⟨none, rfl, h⟩
 ·replace h := h.2 hb1
  refine CW.skip ?_
  refine NW.then ?_
  refine CW.seq ?_
  obtain ⟨w2, hw_w2⟩ : ∃ x, x = World.drew w1 := ⟨_, rfl⟩
  have hc_w2 := sil_drew (Chg.refl [] w1) hw_w2
  replace h := h  w2  hc_w2
  obtain ⟨a1, ha1, h⟩ := h
  obtain ⟨t1, t2, hc1, h⟩ := h
  obtain ⟨t3, hc2, h⟩ := h
  obtain ⟨t4, hc3, h⟩ := h
  obtain ⟨t5, hc4, h⟩ := h
  obtain ⟨t6, hc5, h⟩ := h
  refine CW.drawn (fun w => CellsAt w a1 0 [.int .i64 t1, .int .i64 t2] ∧ w.cell? (a1.add 2) = some (.pointer t3) ∧ w.cell? (a1.add 3) = some (.pointer t4) ∧ w.cell? (a1.add 4) = some (.pointer t5) ∧ w.cell? (a1.add 5) = some (.map t6) ∧ True) 25 (by kernel_rfl) fun H hH => ?_
  rw [← hw_w2]
  have hS1 : CellsAt w2 a1 0 [.int .i64 t1, .int .i64 t2] ∧ w2.cell? (a1.add 2) = some (.pointer t3) ∧ w2.cell? (a1.add 3) = some (.pointer t4) ∧ w2.cell? (a1.add 4) = some (.pointer t5) ∧ w2.cell? (a1.add 5) = some (.map t6) ∧ True := ⟨hc1, hc2, hc3, hc4, hc5, trivial⟩
  refine HW.pure (i := 0) hH rfl (by kernel_rfl) (Wants.free rfl) rfl (fun _ => hS1) (Rd.move (v := .pointer f1) rfl) ?_
  refine HW.pure (i := 1) hH rfl (by kernel_rfl) (Wants.free rfl) rfl (fun _ => hS1) (Rd.nil (q := a1) (by rw [← ha1]; rfl)) ?_
  refine HW.pure (i := 2) hH rfl (by kernel_rfl) (Wants.free rfl) rfl (fun _ => hS1) (Rd.fa (v := .pointer (some a1)) rfl (fun _ => by kernel_rfl)) ?_
  refine HW.take (i := 3) hH rfl (by kernel_rfl) (by kernel_rfl) (Wants.free rfl) rfl (fun _ => hS1) (Rd.ldN (cs := [.int .i64 t1, .int .i64 t2]) rfl (by kernel_rfl) (by kernel_rfl) (fun w h => cellsAt_get h.1)) ?_
  refine HW.pure (i := 4) hH rfl (by kernel_rfl) (Wants.free rfl) rfl (fun _ => hS1) (Rd.move (v := .pointer f1) rfl) ?_
  refine HW.pure (i := 5) hH rfl (by kernel_rfl) (Wants.free rfl) rfl (fun _ => hS1) (Rd.nil (q := a1) (by rw [← ha1]; rfl)) ?_
  refine HW.pure (i := 6) hH rfl (by kernel_rfl) (Wants.free rfl) rfl (fun _ => hS1) (Rd.fa (v := .pointer (some (a1.add 2))) rfl (fun _ => by kernel_rfl)) ?_
  refine HW.take (i := 7) hH rfl (by kernel_rfl) (by kernel_rfl) (Wants.free rfl) rfl (fun _ => hS1) (Rd.ld (v := .pointer t3) rfl (by kernel_rfl) (fun w h => h.2.1)) ?_
  refine HW.pure (i := 9) hH rfl (by kernel_rfl) (Wants.free rfl) rfl (fun _ => hS1) (Rd.move (v := .pointer f1) rfl) ?_
  refine HW.pure (i := 10) hH rfl (by kernel_rfl) (Wants.free rfl) rfl (fun _ => hS1) (Rd.nil (q := a1) (by rw [← ha1]; rfl)) ?_
  refine HW.pure (i := 11) hH rfl (by kernel_rfl) (Wants.free rfl) rfl (fun _ => hS1) (Rd.fa (v := .pointer (some (a1.add 3))) rfl (fun _ => by kernel_rfl)) ?_
  refine HW.take (i := 12) hH rfl (by kernel_rfl) (by kernel_rfl) (Wants.free rfl) rfl (fun _ => hS1) (Rd.ld (v := .pointer t4) rfl (by kernel_rfl) (fun w h => h.2.2.1)) ?_
  refine HW.pure (i := 14) hH rfl (by kernel_rfl) (Wants.free rfl) rfl (fun _ => hS1) (Rd.move (v := .pointer f1) rfl) ?_
  refine HW.pure (i := 15) hH rfl (by kernel_rfl) (Wants.free rfl) rfl (fun _ => hS1) (Rd.nil (q := a1) (by rw [← ha1]; rfl)) ?_
  refine HW.pure (i := 16) hH rfl (by kernel_rfl) (Wants.free rfl) rfl (fun _ => hS1) (Rd.fa (v := .pointer (some (a1.add 4))) rfl (fun _ => by kernel_rfl)) ?_
  refine HW.take (i := 17) hH rfl (by kernel_rfl) (by kernel_rfl) (Wants.free rfl) rfl (fun _ => hS1) (Rd.ld (v := .pointer t5) rfl (by kernel_rfl) (fun w h => h.2.2.2.1)) ?_
  refine HW.pure (i := 19) hH rfl (by kernel_rfl) (Wants.free rfl) rfl (fun _ => hS1) (Rd.move (v := .pointer f1) rfl) ?_
  refine HW.pure (i := 20) hH rfl (by kernel_rfl) (Wants.free rfl) rfl (fun _ => hS1) (Rd.nil (q := a1) (by rw [← ha1]; rfl)) ?_
  refine HW.pure (i := 21) hH rfl (by kernel_rfl) (Wants.free rfl) rfl (fun _ => hS1) (Rd.fa (v := .pointer (some (a1.add 5))) rfl (fun _ => by kernel_rfl)) ?_
  refine HW.take (i := 22) hH rfl (by kernel_rfl) (by kernel_rfl) (Wants.free rfl) rfl (fun _ => hS1) (Rd.ld (v := .map t6) rfl (by kernel_rfl) (fun w h => h.2.2.2.2.1)) ?_
  refine HW.call (i := 8) hH (by kernel_rfl) rfl (Wants.free rfl) rfl (Cl.fn (f := 44) rfl Tryz.func44 (by kernel_rfl) rfl) h (fun e w3 h_ => ?_)
  clear h
  obtain ⟨r3, rfl, hS2, h⟩ := h_
  have hS3 := (⟨hS2.1, hS2.2.1, hS2.2.2.1, hS2.2.2.2.1, hS2.2.2.2.2, trivial⟩ : CellsAt w3 a1 0 [.int .i64 t1, .int .i64 t2] ∧ w3.cell? (a1.add 2) = some (.pointer t3) ∧ w3.cell? (a1.add 3) = some (.pointer t4) ∧ w3.cell? (a1.add 4) = some (.pointer t5) ∧ w3.cell? (a1.add 5) = some (.map t6) ∧ True)
  refine ⟨_, rfl, (fun _ => hS3), ?_⟩
  refine HW.call (i := 13) hH (by kernel_rfl) rfl (Wants.free rfl) rfl (Cl.fn (f := 45) rfl Tryz.func45 (by kernel_rfl) rfl) h (fun e w4 h_ => ?_)
  clear h
  obtain ⟨r4, rfl, hS4, h⟩ := h_
  have hS5 := (⟨hS4.1, hS4.2.1, hS4.2.2.1, hS4.2.2.2.1, hS4.2.2.2.2, trivial⟩ : CellsAt w4 a1 0 [.int .i64 t1, .int .i64 t2] ∧ w4.cell? (a1.add 2) = some (.pointer t3) ∧ w4.cell? (a1.add 3) = some (.pointer t4) ∧ w4.cell? (a1.add 4) = some (.pointer t5) ∧ w4.cell? (a1.add 5) = some (.map t6) ∧ True)
  refine ⟨_, rfl, (fun _ => hS5), ?_⟩
  refine HW.call (i := 18) hH (by kernel_rfl) rfl (Wants.free rfl) rfl (Cl.fn (f := 45) rfl Tryz.func45 (by kernel_rfl) rfl) h (fun e w5 h_ => ?_)
  clear h
  obtain ⟨r5, rfl, hS6, h⟩ := h_
  have hS7 := (⟨hS6.1, hS6.2.1, hS6.2.2.1, hS6.2.2.2.1, hS6.2.2.2.2, trivial⟩ : CellsAt w5 a1 0 [.int .i64 t1, .int .i64 t2] ∧ w5.cell? (a1.add 2) = some (.pointer t3) ∧ w5.cell? (a1.add 3) = some (.pointer t4) ∧ w5.cell? (a1.add 4) = some (.pointer t5) ∧ w5.cell? (a1.add 5) = some (.map t6) ∧ True)
  refine ⟨_, rfl, (fun _ => hS7), ?_⟩
  refine HW.call (i := 23) hH (by kernel_rfl) rfl (Wants.free rfl) rfl (Cl.fn (f := 46) rfl Tryz.func46 (by kernel_rfl) rfl) h (fun e w6 h_ => ?_)
  clear h
  obtain ⟨r6, rfl, hS8, h⟩ := h_
  have hS9 := (⟨hS8.1, hS8.2.1, hS8.2.2.1, hS8.2.2.2.1, hS8.2.2.2.2, trivial⟩ : CellsAt w6 a1 0 [.int .i64 t1, .int .i64 t2] ∧ w6.cell? (a1.add 2) = some (.pointer t3) ∧ w6.cell? (a1.add 3) = some (.pointer t4) ∧ w6.cell? (a1.add 4) = some (.pointer t5) ∧ w6.cell? (a1.add 5) = some (.map t6) ∧ True)
  refine ⟨_, rfl, (fun _ => hS9), ?_⟩
  refine HW.pure (i := 24) hH rfl (by kernel_rfl) (Wants.free rfl) rfl (fun _ => hS9) (Rd.build (v := .agg #[.int .i64 t1, .int .i64 t2, .pointer r3, .pointer r4, .pointer r5, .map r6]) rfl (fun _ => by kernel_rfl)) ?_
  obtain ⟨b1, hb_b1⟩ : ∃ b1, b1 = World.size w6 := ⟨_, rfl⟩
  obtain ⟨w7, hw_w7⟩ : ∃ w7, w7 = World.alloc w6 (.cells #[.int .i64 t1, .int .i64 t2, .pointer r3, .pointer r4, .pointer r5, .map r6] 101) := ⟨_, rfl⟩
  replace h := h b1 hb_b1 w7 hw_w7
  refine HW.val (i := 25) hH (by kernel_rfl) rfl (Wants.free rfl) rfl (boxE hb_b1 hw_w7 (Vl.box (v := .agg #[.int .i64 t1, .int .i64 t2, .pointer r3, .pointer r4, .pointer r5, .map r6]) rfl)) (fun hc => by cases hc) ?_
  refine HW.pure (i := 26) hH rfl (by kernel_rfl) (Wants.free rfl) rfl (fun hc => by cases hc) (Rd.assign (v := .pointer (some (⟨b1, 0, none⟩ : Addr))) rfl) ?_
  refine HW.done hH (by kernel_rfl) ?_
  refine NW.then ?_
  refine CW.ret ?_
  exact res1 rfl rfl ⟨some (⟨b1, 0, none⟩ : Addr), rfl, h⟩
/- (*pomander/labels.Table).Copy -/
def W_labels_Table_Copy (t1 : Option Addr) (w : World) (R : (Option Addr) → World → Prop) : Prop :=
 Calls Tryz.prog 77 #[.pointer t1] w fun e w1 => ∃ (r2 : Bool), e = .returned (.bool r2) ∧ ((r2 = true → R none w1) ∧ (r2 = false → ∀ (w2 : World), Chg [] w1 w2 → (∃ a1 : Addr, t1 = some a1 ∧ (∃ (t2 : Int), w2.cell? a1 = some (.int .i64 t2) ∧ (∃ (t3 : Option Addr) (t3n : Nat) (t3c : Nat), w2.cell? (a1.add 1) = some (.slice t3 t3n t3c) ∧ (∃ (t4 : Option Nat), w2.cell? (a1.add 2) = some (.map t4) ∧ (∃ (t5 : Option Nat), w2.cell? (a1.add 3) = some (.map t5) ∧ (Calls Tryz.prog 78 #[.slice t3 t3n t3c] w2 fun e w3 => ∃ (r3 : Option Addr) (r3n : Nat) (r3c : Nat), e = .returned (.slice r3 r3n r3c) ∧ ((w3.cell? a1 = some (.int .i64 t2) ∧ w3.cell? (a1.add 1) = some (.slice t3 t3n t3c) ∧ w3.cell? (a1.add 2) = some (.map t4) ∧ w3.cell? (a1.add 3) = some (.map t5)) ∧ (Calls Tryz.prog 79 #[.map t4] w3 fun e w4 => ∃ (r4 : Option Nat), e = .returned (.map r4) ∧ ((w4.cell? a1 = some (.int .i64 t2) ∧ w4.cell? (a1.add 1) = some (.slice t3 t3n t3c) ∧ w4.cell? (a1.add 2) = some (.map t4) ∧ w4.cell? (a1.add 3) = some (.map t5)) ∧ (Calls Tryz.prog 80 #[.map t5] w4 fun e w5 => ∃ (r5 : Option Nat), e = .returned (.map r5) ∧ ((w5.cell? a1 = some (.int .i64 t2) ∧ w5.cell? (a1.add 1) = some (.slice t3 t3n t3c) ∧ w5.cell? (a1.add 2) = some (.map t4) ∧ w5.cell? (a1.add 3) = some (.map t5)) ∧ (∀ b1 : Nat, b1 = World.size w5 → ∀ w6 : World, w6 = World.alloc w5 (.cells #[.int .i64 t2, .slice r3 r3n r3c, .map r4, .map r5] 150) → (R (some (⟨b1, 0, none⟩ : Addr)) w6)))))))))))))))
set_option maxRecDepth 100000 in
theorem go_labels_Table_Copy (t1 : Option Addr) (w : World) (R : (Option Addr) → World → Prop) (h : W_labels_Table_Copy t1 w R) : Calls Tryz.prog 44 #[.pointer t1] w (fun e w' => ∃ (r1 : Option Addr), e = .returned (.pointer r1) ∧ R r1 w') := by
 unfold W_labels_Table_Copy at h
 refine enter (N := 26) Tryz.func44 rfl rfl ?_
 refine CW.seq ?_
 refine CW.region fun L hL => ?_
 refine LW.rd hL rfl (Wants.free rfl) rfl (Rd.assign (v := .pointer none) rfl) ?_
 refine LW.nil hL rfl ?_
 refine NW.then ?_
 refine CW.seq ?_
 refine CW.seq ?_
 refine CW.region fun L hL => ?_
 refine LW.rd hL rfl (Wants.free rfl) rfl (Rd.move (v := .pointer t1) rfl) ?_
 refine LW.call hL rfl (Wants.free rfl) rfl (Cl.fn (f := 77) rfl Tryz.func77 (by kernel_rfl) rfl) h (fun e w1 h_ => ?_)
 clear h
 obtain ⟨r2, rfl, h⟩ := h_
 refine ⟨_, rfl, ?_⟩
 refine LW.nil hL rfl ?_
 refine NW.then ?_
 refine CW.cond rfl (fun hb1 => ?_) (fun hb1 => ?_)
 ·replace h := h.1 hb1
  refine CW.seq ?_
  refine CW.region fun L hL => ?_
  refine LW.rd hL rfl (Wants.free rfl) rfl (Rd.assign (v := .pointer none) rfl) ?_
  refine LW.nil hL rfl ?_
  refine NW.then ?_
  refine CW.ret ?_
  refine RW.then ?_
  exact res1 rfl rfl ⟨none, rfl, h⟩
 ·replace h := h.2 hb1
  refine CW.skip ?_
  refine NW.then ?_
  refine CW.seq ?_
  obtain ⟨w2, hw_w2⟩ : ∃ x, x = World.drew w1 := ⟨_, rfl⟩
  have hc_w2 := sil_drew (Chg.refl [] w1) hw_w2
  replace h := h  w2  hc_w2
  obtain ⟨a1, ha1, h⟩ := h
  obtain ⟨t2, hc1, h⟩ := h
  obtain ⟨t3, t3n, t3c, hc2, h⟩ := h
  obtain ⟨t4, hc3, h⟩ := h
  obtain ⟨t5, hc4, h⟩ := h
  refine CW.drawn (fun w => w.cell? a1 = some (.int .i64 t2) ∧ w.cell? (a1.add 1) = some (.slice t3 t3n t3c) ∧ w.cell? (a1.add 2) = some (.map t4) ∧ w.cell? (a1.add 3) = some (.map t5) ∧ True) 20 (by kernel_rfl) fun H hH => ?_
  rw [← hw_w2]
  have hS1 : w2.cell? a1 = some (.int .i64 t2) ∧ w2.cell? (a1.add 1) = some (.slice t3 t3n t3c) ∧ w2.cell? (a1.add 2) = some (.map t4) ∧ w2.cell? (a1.add 3) = some (.map t5) ∧ True := ⟨hc1, hc2, hc3, hc4, trivial⟩
  refine HW.pure (i := 0) hH rfl (by kernel_rfl) (Wants.free rfl) rfl (fun _ => hS1) (Rd.move (v := .pointer t1) rfl) ?_
  refine HW.pure (i := 1) hH rfl (by kernel_rfl) (Wants.free rfl) rfl (fun _ => hS1) (Rd.nil (q := a1) (by rw [← ha1]; rfl)) ?_
  refine HW.pure (i := 2) hH rfl (by kernel_rfl) (Wants.free rfl) rfl (fun _ => hS1) (Rd.fa (v := .pointer (some a1)) rfl (fun _ => by kernel_rfl)) ?_
  refine HW.take (i := 3) hH rfl (by kernel_rfl) (by kernel_rfl) (Wants.free rfl) rfl (fun _ => hS1) (Rd.ld (v := .int .i64 t2) rfl (by kernel_rfl) (fun w h => h.1)) ?_
  refine HW.pure (i := 4) hH rfl (by kernel_rfl) (Wants.free rfl) rfl (fun _ => hS1) (Rd.move (v := .pointer t1) rfl) ?_
  refine HW.pure (i := 5) hH rfl (by kernel_rfl) (Wants.free rfl) rfl (fun _ => hS1) (Rd.nil (q := a1) (by rw [← ha1]; rfl)) ?_
  refine HW.pure (i := 6) hH rfl (by kernel_rfl) (Wants.free rfl) rfl (fun _ => hS1) (Rd.fa (v := .pointer (some (a1.add 1))) rfl (fun _ => by kernel_rfl)) ?_
  refine HW.take (i := 7) hH rfl (by kernel_rfl) (by kernel_rfl) (Wants.free rfl) rfl (fun _ => hS1) (Rd.ld (v := .slice t3 t3n t3c) rfl (by kernel_rfl) (fun w h => h.2.1)) ?_
  refine HW.pure (i := 9) hH rfl (by kernel_rfl) (Wants.free rfl) rfl (fun _ => hS1) (Rd.move (v := .pointer t1) rfl) ?_
  refine HW.pure (i := 10) hH rfl (by kernel_rfl) (Wants.free rfl) rfl (fun _ => hS1) (Rd.nil (q := a1) (by rw [← ha1]; rfl)) ?_
  refine HW.pure (i := 11) hH rfl (by kernel_rfl) (Wants.free rfl) rfl (fun _ => hS1) (Rd.fa (v := .pointer (some (a1.add 2))) rfl (fun _ => by kernel_rfl)) ?_
  refine HW.take (i := 12) hH rfl (by kernel_rfl) (by kernel_rfl) (Wants.free rfl) rfl (fun _ => hS1) (Rd.ld (v := .map t4) rfl (by kernel_rfl) (fun w h => h.2.2.1)) ?_
  refine HW.pure (i := 14) hH rfl (by kernel_rfl) (Wants.free rfl) rfl (fun _ => hS1) (Rd.move (v := .pointer t1) rfl) ?_
  refine HW.pure (i := 15) hH rfl (by kernel_rfl) (Wants.free rfl) rfl (fun _ => hS1) (Rd.nil (q := a1) (by rw [← ha1]; rfl)) ?_
  refine HW.pure (i := 16) hH rfl (by kernel_rfl) (Wants.free rfl) rfl (fun _ => hS1) (Rd.fa (v := .pointer (some (a1.add 3))) rfl (fun _ => by kernel_rfl)) ?_
  refine HW.take (i := 17) hH rfl (by kernel_rfl) (by kernel_rfl) (Wants.free rfl) rfl (fun _ => hS1) (Rd.ld (v := .map t5) rfl (by kernel_rfl) (fun w h => h.2.2.2.1)) ?_
  refine HW.call (i := 8) hH (by kernel_rfl) rfl (Wants.free rfl) rfl (Cl.fn (f := 78) rfl Tryz.func78 (by kernel_rfl) rfl) h (fun e w3 h_ => ?_)
  clear h
  obtain ⟨r3, r3n, r3c, rfl, hS2, h⟩ := h_
  have hS3 := (⟨hS2.1, hS2.2.1, hS2.2.2.1, hS2.2.2.2, trivial⟩ : w3.cell? a1 = some (.int .i64 t2) ∧ w3.cell? (a1.add 1) = some (.slice t3 t3n t3c) ∧ w3.cell? (a1.add 2) = some (.map t4) ∧ w3.cell? (a1.add 3) = some (.map t5) ∧ True)
  refine ⟨_, rfl, (fun _ => hS3), ?_⟩
  refine HW.call (i := 13) hH (by kernel_rfl) rfl (Wants.free rfl) rfl (Cl.fn (f := 79) rfl Tryz.func79 (by kernel_rfl) rfl) h (fun e w4 h_ => ?_)
  clear h
  obtain ⟨r4, rfl, hS4, h⟩ := h_
  have hS5 := (⟨hS4.1, hS4.2.1, hS4.2.2.1, hS4.2.2.2, trivial⟩ : w4.cell? a1 = some (.int .i64 t2) ∧ w4.cell? (a1.add 1) = some (.slice t3 t3n t3c) ∧ w4.cell? (a1.add 2) = some (.map t4) ∧ w4.cell? (a1.add 3) = some (.map t5) ∧ True)
  refine ⟨_, rfl, (fun _ => hS5), ?_⟩
  refine HW.call (i := 18) hH (by kernel_rfl) rfl (Wants.free rfl) rfl (Cl.fn (f := 80) rfl Tryz.func80 (by kernel_rfl) rfl) h (fun e w5 h_ => ?_)
  clear h
  obtain ⟨r5, rfl, hS6, h⟩ := h_
  have hS7 := (⟨hS6.1, hS6.2.1, hS6.2.2.1, hS6.2.2.2, trivial⟩ : w5.cell? a1 = some (.int .i64 t2) ∧ w5.cell? (a1.add 1) = some (.slice t3 t3n t3c) ∧ w5.cell? (a1.add 2) = some (.map t4) ∧ w5.cell? (a1.add 3) = some (.map t5) ∧ True)
  refine ⟨_, rfl, (fun _ => hS7), ?_⟩
  refine HW.pure (i := 19) hH rfl (by kernel_rfl) (Wants.free rfl) rfl (fun _ => hS7) (Rd.build (v := .agg #[.int .i64 t2, .slice r3 r3n r3c, .map r4, .map r5]) rfl (fun _ => by kernel_rfl)) ?_
  obtain ⟨b1, hb_b1⟩ : ∃ b1, b1 = World.size w5 := ⟨_, rfl⟩
  obtain ⟨w6, hw_w6⟩ : ∃ w6, w6 = World.alloc w5 (.cells #[.int .i64 t2, .slice r3 r3n r3c, .map r4, .map r5] 150) := ⟨_, rfl⟩
  replace h := h b1 hb_b1 w6 hw_w6
  refine HW.val (i := 20) hH (by kernel_rfl) rfl (Wants.free rfl) rfl (boxE hb_b1 hw_w6 (Vl.box (v := .agg #[.int .i64 t2, .slice r3 r3n r3c, .map r4, .map r5]) rfl)) (fun hc => by cases hc) ?_
  refine HW.pure (i := 21) hH rfl (by kernel_rfl) (Wants.free rfl) rfl (fun hc => by cases hc) (Rd.assign (v := .pointer (some (⟨b1, 0, none⟩ : Addr))) rfl) ?_
  refine HW.done hH (by kernel_rfl) ?_
  refine NW.then ?_
  refine CW.ret ?_
  exact res1 rfl rfl ⟨some (⟨b1, 0, none⟩ : Addr), rfl, h⟩
end Go.Proofs.YtfcfkhbkkfpehaaGreat
end
section
namespace Go.Proofs.YtfcfkhbkkfpehaaGreat
open Go Go.X
/- maps.Clone[map[pomander/api.Place]uint32,pomander/api.Place,uint32] -/
def W_maps_Clone_134 (m1 : Option Nat) (w : World) (R : (Option Nat) → World → Prop) : Prop :=
 ((Option.isNone m1) = true → R none w) ∧ ((Option.isNone m1) = false → ∃ (r2 : Value) (w1 : World), (callFunc 83 #[(.iface 99 (.map m1))]).run Tryz.prog w = .ok (.value (r2)) w1 ∧ (∃ (x1 : Option Nat), (∀ w : World, (Instr.typeAssert (r2) 20 99 false).run Tryz.prog w = .ok (.map x1) w) ∧ (R x1 w1)))
set_option maxRecDepth 100000 in
theorem go_maps_Clone_134 (m1 : Option Nat) (w : World) (R : (Option Nat) → World → Prop) (h : W_maps_Clone_134 m1 w R) : Calls Tryz.prog 46 #[.map m1] w (fun e w' => ∃ (r1 : Option Nat), e = .returned (.map r1) ∧ R r1 w') := by
 unfold W_maps_Clone_134 at h
 refine enter (N := 9) Tryz.func46 rfl rfl ?_
 refine CW.seq ?_
 refine CW.region fun L hL => ?_
 refine LW.rd hL rfl (Wants.free rfl) rfl (Rd.assign (v := .map none) rfl) ?_
 refine LW.nil hL rfl ?_
 refine NW.then ?_
 refine CW.seq ?_
 refine CW.seq ?_
 refine CW.region fun L hL => ?_
 refine LW.rd hL rfl (Wants.free rfl) rfl (Rd.move (v := .map m1) rfl) ?_
 refine LW.rd hL rfl (Wants.free rfl) rfl (Rd.bin (v := .bool (Option.isNone m1)) rfl rfl (fun w => map_nil_eq (by kernel_rfl) m1 w)) ?_
 refine LW.nil hL rfl ?_
 refine NW.then ?_
 refine CW.cond rfl (fun hb1 => ?_) (fun hb1 => ?_)
 ·replace h := h.1 hb1
  refine CW.seq ?_
  refine CW.region fun L hL => ?_
  refine LW.rd hL rfl (Wants.free rfl) rfl (Rd.assign (v := .map none) rfl) ?_
  refine LW.nil hL rfl ?_
  refine NW.then ?_
  refine CW.ret ?_
  refine RW.then ?_
  exact res1 rfl rfl ⟨none, rfl, h⟩
 ·replace h := h.2 hb1
  refine CW.skip ?_
  refine NW.then ?_
  refine CW.seq ?_
  refine CW.region fun L hL => ?_
  refine LW.rd hL rfl (Wants.free rfl) rfl (Rd.move (v := .map m1) rfl) ?_
  refine LW.rd hL rfl (Wants.free rfl) rfl (Rd.makeInterface (v := .iface 99 (.map m1)) rfl (fun _ => by kernel_rfl)) ?_
  obtain ⟨r2, w1, hx1, h⟩ := h
  refine LW.val hL rfl (Wants.free rfl) rfl (Vl.extern (v := r2) rfl hx1) ?_
  obtain ⟨x1, hx2, h⟩ := h
  refine LW.rd hL rfl (Wants.free rfl) rfl (Rd.typeAssert (v := .map x1) rfl hx2) ?_
  refine LW.rd hL rfl (Wants.free rfl) rfl (Rd.assign (v := .map x1) rfl) ?_
  refine LW.nil hL rfl ?_
  refine NW.then ?_
  refine CW.ret ?_
  exact res1 rfl rfl ⟨x1, rfl, h⟩
/- maps.Clone[map[uint32]int,uint32,int] -/
def W_maps_Clone_416 (m1 : Option Nat) (w : World) (R : (Option Nat) → World → Prop) : Prop :=
 ((Option.isNone m1) = true → R none w) ∧ ((Option.isNone m1) = false → ∃ (r2 : Value) (w1 : World), (callFunc 83 #[(.iface 147 (.map m1))]).run Tryz.prog w = .ok (.value (r2)) w1 ∧ (∃ (x1 : Option Nat), (∀ w : World, (Instr.typeAssert (r2) 20 147 false).run Tryz.prog w = .ok (.map x1) w) ∧ (R x1 w1)))
set_option maxRecDepth 100000 in
theorem go_maps_Clone_416 (m1 : Option Nat) (w : World) (R : (Option Nat) → World → Prop) (h : W_maps_Clone_416 m1 w R) : Calls Tryz.prog 79 #[.map m1] w (fun e w' => ∃ (r1 : Option Nat), e = .returned (.map r1) ∧ R r1 w') := by
 unfold W_maps_Clone_416 at h
 refine enter (N := 9) Tryz.func79 rfl rfl ?_
 refine CW.seq ?_
 refine CW.region fun L hL => ?_
 refine LW.rd hL rfl (Wants.free rfl) rfl (Rd.assign (v := .map none) rfl) ?_
 refine LW.nil hL rfl ?_
 refine NW.then ?_
 refine CW.seq ?_
 refine CW.seq ?_
 refine CW.region fun L hL => ?_
 refine LW.rd hL rfl (Wants.free rfl) rfl (Rd.move (v := .map m1) rfl) ?_
 refine LW.rd hL rfl (Wants.free rfl) rfl (Rd.bin (v := .bool (Option.isNone m1)) rfl rfl (fun w => map_nil_eq (by kernel_rfl) m1 w)) ?_
 refine LW.nil hL rfl ?_
 refine NW.then ?_
 refine CW.cond rfl (fun hb1 => ?_) (fun hb1 => ?_)
 ·replace h := h.1 hb1
  refine CW.seq ?_
  refine CW.region fun L hL => ?_
  refine LW.rd hL rfl (Wants.free rfl) rfl (Rd.assign (v := .map none) rfl) ?_
  refine LW.nil hL rfl ?_
  refine NW.then ?_
  refine CW.ret ?_
  refine RW.then ?_
  exact res1 rfl rfl ⟨none, rfl, h⟩
 ·replace h := h.2 hb1
  refine CW.skip ?_
  refine NW.then ?_
  refine CW.seq ?_
  refine CW.region fun L hL => ?_
  refine LW.rd hL rfl (Wants.free rfl) rfl (Rd.move (v := .map m1) rfl) ?_
  refine LW.rd hL rfl (Wants.free rfl) rfl (Rd.makeInterface (v := .iface 147 (.map m1)) rfl (fun _ => by kernel_rfl)) ?_
  obtain ⟨r2, w1, hx1, h⟩ := h
  refine LW.val hL rfl (Wants.free rfl) rfl (Vl.extern (v := r2) rfl hx1) ?_
  obtain ⟨x1, hx2, h⟩ := h
  refine LW.rd hL rfl (Wants.free rfl) rfl (Rd.typeAssert (v := .map x1) rfl hx2) ?_
  refine LW.rd hL rfl (Wants.free rfl) rfl (Rd.assign (v := .map x1) rfl) ?_
  refine LW.nil hL rfl ?_
  refine NW.then ?_
  refine CW.ret ?_
  exact res1 rfl rfl ⟨x1, rfl, h⟩
/- maps.Clone[map[pomander/labels.pair]int,pomander/labels.pair,int] -/
def W_maps_Clone_413 (m1 : Option Nat) (w : World) (R : (Option Nat) → World → Prop) : Prop :=
 ((Option.isNone m1) = true → R none w) ∧ ((Option.isNone m1) = false → ∃ (r2 : Value) (w1 : World), (callFunc 83 #[(.iface 148 (.map m1))]).run Tryz.prog w = .ok (.value (r2)) w1 ∧ (∃ (x1 : Option Nat), (∀ w : World, (Instr.typeAssert (r2) 20 148 false).run Tryz.prog w = .ok (.map x1) w) ∧ (R x1 w1)))
set_option maxRecDepth 100000 in
theorem go_maps_Clone_413 (m1 : Option Nat) (w : World) (R : (Option Nat) → World → Prop) (h : W_maps_Clone_413 m1 w R) : Calls Tryz.prog 80 #[.map m1] w (fun e w' => ∃ (r1 : Option Nat), e = .returned (.map r1) ∧ R r1 w') := by
 unfold W_maps_Clone_413 at h
 refine enter (N := 9) Tryz.func80 rfl rfl ?_
 refine CW.seq ?_
 refine CW.region fun L hL => ?_
 refine LW.rd hL rfl (Wants.free rfl) rfl (Rd.assign (v := .map none) rfl) ?_
 refine LW.nil hL rfl ?_
 refine NW.then ?_
 refine CW.seq ?_
 refine CW.seq ?_
 refine CW.region fun L hL => ?_
 refine LW.rd hL rfl (Wants.free rfl) rfl (Rd.move (v := .map m1) rfl) ?_
 refine LW.rd hL rfl (Wants.free rfl) rfl (Rd.bin (v := .bool (Option.isNone m1)) rfl rfl (fun w => map_nil_eq (by kernel_rfl) m1 w)) ?_
 refine LW.nil hL rfl ?_
 refine NW.then ?_
 refine CW.cond rfl (fun hb1 => ?_) (fun hb1 => ?_)
 ·replace h := h.1 hb1
  refine CW.seq ?_
  refine CW.region fun L hL => ?_
  refine LW.rd hL rfl (Wants.free rfl) rfl (Rd.assign (v := .map none) rfl) ?_
  refine LW.nil hL rfl ?_
  refine NW.then ?_
  refine CW.ret ?_
  refine RW.then ?_
  exact res1 rfl rfl ⟨none, rfl, h⟩
 ·replace h := h.2 hb1
  refine CW.skip ?_
  refine NW.then ?_
  refine CW.seq ?_
  refine CW.region fun L hL => ?_
  refine LW.rd hL rfl (Wants.free rfl) rfl (Rd.move (v := .map m1) rfl) ?_
  refine LW.rd hL rfl (Wants.free rfl) rfl (Rd.makeInterface (v := .iface 148 (.map m1)) rfl (fun _ => by kernel_rfl)) ?_
  obtain ⟨r2, w1, hx1, h⟩ := h
  refine LW.val hL rfl (Wants.free rfl) rfl (Vl.extern (v := r2) rfl hx1) ?_
  obtain ⟨x1, hx2, h⟩ := h
  refine LW.rd hL rfl (Wants.free rfl) rfl (Rd.typeAssert (v := .map x1) rfl hx2) ?_
  refine LW.rd hL rfl (Wants.free rfl) rfl (Rd.assign (v := .map x1) rfl) ?_
  refine LW.nil hL rfl ?_
  refine NW.then ?_
  refine CW.ret ?_
  exact res1 rfl rfl ⟨x1, rfl, h⟩
/- slices.Clone[[]uint32,uint32] -/
def W_slices_Clone_334 (s1 : Option Addr) (s1n : Nat) (s1c : Nat) (w : World) (R : (Option Addr) → Nat → Nat → World → Prop) : Prop :=
 ∃ (t1 : Bool), (∀ w : World, ((do eqGuard .eql 38 (.tmp 3) (.const (.slice none 0 0)) (.slice s1 s1n s1c) (.slice none 0 0); binOp .eql 38 (.slice s1 s1n s1c) (.slice none 0 0) : Sem Value)).run Tryz.prog w = .ok (.bool t1) w) ∧ ((t1 = true → R none 0 0 w) ∧ (t1 = false → ∀ b1 : Nat, b1 = World.size w → ∀ w1 : World, w1 = World.alloc w (.cells #[] 22) → (∃ (l1 : Option Addr) (l1n : Nat) (l1c : Nat) (w2 : World), (Builtin.append_ #[38, 38] 38 #[.slice (some (⟨b1, 0, none⟩ : Addr)) 0 0, .slice s1 s1n s1c]).run Tryz.prog w1 = .ok (.slice l1 l1n l1c) w2 ∧ (R l1 l1n l1c w2))))
set_option maxRecDepth 100000 in
theorem go_slices_Clone_334 (s1 : Option Addr) (s1n : Nat) (s1c : Nat) (w : World) (R : (Option Addr) → Nat → Nat → World → Prop) (h : W_slices_Clone_334 s1 s1n s1c w R) : Calls Tryz.prog 78 #[.slice s1 s1n s1c] w (fun e w' => ∃ (r1 : Option Addr) (r1n : Nat) (r1c : Nat), e = .returned (.slice r1 r1n r1c) ∧ R r1 r1n r1c w') := by
 unfold W_slices_Clone_334 at h
 refine enter (N := 8) Tryz.func78 rfl rfl ?_
 refine CW.seq ?_
 refine CW.region fun L hL => ?_
 refine LW.rd hL rfl (Wants.free rfl) rfl (Rd.assign (v := .slice none 0 0) rfl) ?_
 refine LW.nil hL rfl ?_
 refine NW.then ?_
 refine CW.seq ?_
 refine CW.seq ?_
 refine CW.region fun L hL => ?_
 refine LW.rd hL rfl (Wants.free rfl) rfl (Rd.move (v := .slice s1 s1n s1c) rfl) ?_
 obtain ⟨t1, hx1, h⟩ := h
 refine LW.rd hL rfl (Wants.free rfl) rfl (Rd.bin (v := .bool t1) rfl rfl hx1) ?_
 refine LW.nil hL rfl ?_
 refine NW.then ?_
 refine CW.cond rfl (fun hb1 => ?_) (fun hb1 => ?_)
 ·replace h := h.1 hb1
  refine CW.seq ?_
  refine CW.region fun L hL => ?_
  refine LW.rd hL rfl (Wants.free rfl) rfl (Rd.assign (v := .slice none 0 0) rfl) ?_
  refine LW.nil hL rfl ?_
  refine NW.then ?_
  refine CW.ret ?_
  refine RW.then ?_
  exact res1 rfl rfl ⟨none, 0, 0, rfl, h⟩
 ·replace h := h.2 hb1
  refine CW.skip ?_
  refine NW.then ?_
  refine CW.seq ?_
  refine CW.region fun L hL => ?_
  obtain ⟨b1, hb_b1⟩ : ∃ b1, b1 = World.size w := ⟨_, rfl⟩
  obtain ⟨w1, hw_w1⟩ : ∃ w1, w1 = World.alloc w (.cells #[] 22) := ⟨_, rfl⟩
  replace h := h b1 hb_b1 w1 hw_w1
  refine LW.val hL rfl (Wants.free rfl) rfl (sliceE (n := 0) hb_b1 hw_w1 (fun w => Vl.buildSlice (vs := []) rfl (by kernel_rfl))) ?_
  refine LW.rd hL rfl (Wants.free rfl) rfl (Rd.move (v := .slice s1 s1n s1c) rfl) ?_
  obtain ⟨l1, l1n, l1c, w2, ha1, h⟩ := h
  refine LW.val hL rfl (Wants.free rfl) rfl (Vl.builtin (v := .slice l1 l1n l1c) rfl (valB ha1)) ?_
  refine LW.rd hL rfl (Wants.free rfl) rfl (Rd.assign (v := .slice l1 l1n l1c) rfl) ?_
  refine LW.nil hL rfl ?_
  refine NW.then ?_
  refine CW.ret ?_
  exact res1 rfl rfl ⟨l1, l1n, l1c, rfl, h⟩
end Go.Proofs.YtfcfkhbkkfpehaaGreat
end
section
/- maps.Clone, slices.Clone; Copy of a table, of a flow. -/
namespace Go.Proofs.YtfcfkhbkkfpehaaGreat
open Go Go.RowKit Go.X Go.XR
theorem run_clone {P : Program} {w : World} {r : Nat} {es : Array MapEntry} {clk : Nat} (t : TypeId) (hb : w.heap[r]? = some (.map es clk)) :
  (Extern.MapsClone.clone #[.iface t (.map (some r))]).run P w = .ok (.iface t (.map (some w.heap.size))) (w.alloc (.map es clk)) := by
 have e : Extern.MapsClone.clone #[.iface t (.map (some r))] = (getObj r >>= fun o => match o with
   | .map entries clock => (newObj (.map entries clock) >>= fun n => pure (.iface t (.map (some n))))
   | _ => stuck "maps.clone: a map expected") := rfl
 rw [e]
 simp [MapKept.run_getObj_map hb, Result.andThen, go_sem]
theorem run_clone114 {w : World} {r : Nat} {es : Array MapEntry} {clk : Nat} (t : TypeId) (hb : w.heap[r]? = some (.map es clk)) :
  (callFunc 83 #[.iface t (.map (some r))]).run Tryz.prog w = .ok (.value (.iface t (.map (some w.heap.size)))) (w.alloc (.map es clk)) := by
 rw [run_callFunc_extern Tryz.func83 (by kernel_rfl) (by kernel_rfl) (by kernel_rfl) (e := Extern.MapsClone.clone) (by kernel_rfl), run_clone t hb]
 rfl
theorem run_assertMap {P : Program} (t xT k e : TypeId) (v : Value) (h : P.underlying t = some (.map k e)) (w : World) : (Instr.typeAssert (.iface t v) xT t false).run P w = .ok v w := by
 simp [Instr.typeAssert, run_underlying h, go_sem, Result.andThen]
theorem clone80 {w : World} {b : Nat} {es : Array MapEntry} {clk : Nat} (hb : w.heap[b]? = some (.map es clk)) :
  Calls Tryz.prog 46 #[.map (some b)] w fun e w' => ∃ r : Option Nat, e = .returned (.map r) ∧ (r = some w.heap.size ∧ w' = w.alloc (.map es clk)) := by
 refine go_maps_Clone_134 _ _ _ ?_
 unfold W_maps_Clone_134
 exact ⟨fun h => by simp at h, fun _ => ⟨_, _, run_clone114 99 hb, _, fun w => run_assertMap 99 20 _ _ _ u143 w, rfl, rfl⟩⟩
theorem clone112 {w : World} {b : Nat} {es : Array MapEntry} {clk : Nat} (hb : w.heap[b]? = some (.map es clk)) :
  Calls Tryz.prog 79 #[.map (some b)] w fun e w' => ∃ r : Option Nat, e = .returned (.map r) ∧ (r = some w.heap.size ∧ w' = w.alloc (.map es clk)) := by
 refine go_maps_Clone_416 _ _ _ ?_
 unfold W_maps_Clone_416
 exact ⟨fun h => by simp at h, fun _ => ⟨_, _, run_clone114 147 hb, _, fun w => run_assertMap 147 20 _ _ _ u198 w, rfl, rfl⟩⟩
theorem clone113 {w : World} {b : Nat} {es : Array MapEntry} {clk : Nat} (hb : w.heap[b]? = some (.map es clk)) :
  Calls Tryz.prog 80 #[.map (some b)] w fun e w' => ∃ r : Option Nat, e = .returned (.map r) ∧ (r = some w.heap.size ∧ w' = w.alloc (.map es clk)) := by
 refine go_maps_Clone_413 _ _ _ ?_
 unfold W_maps_Clone_413
 exact ⟨fun h => by simp at h, fun _ => ⟨_, _, run_clone114 148 hb, _, fun w => run_assertMap 148 20 _ _ _ (show Tryz.prog.underlying 148 = some (.map 155 3) by kernel_rfl) w, rfl, rfl⟩⟩
theorem slice_nil_eq (a : Addr) (n c : Nat) (x y : Operand) (w : World) : ((do eqGuard .eql 38 x y (.slice (some a) n c) (.slice none 0 0); binOp .eql 38 (.slice (some a) n c) (.slice none 0 0) : Sem Value)).run Tryz.prog w = .ok (.bool false) w := by
 simp only [binOp]
 simp [eqGuard, run_equal_slice_nil w 38 22 (some a) n c (show Tryz.prog.underlying 38 = some (.slice 22) by kernel_rfl)]
theorem clone111 {w : World} {a : Addr} {n c : Nat} {xs : List Int} (h : RowAt w 22 1 (some a) n c (xs.map (.int .u32))) (hn : n ≤ 1000000000) :
  Calls Tryz.prog 78 #[.slice (some a) n c] w fun e w' => ∃ (r : Option Addr) (rn rc : Nat), e = .returned (.slice r rn rc) ∧ (rn = n ∧ RowAt w' 22 1 r n rc (xs.map (.int .u32)) ∧ Chg [] w w' ∧ ∀ i ∈ rowB r, w.heap.size ≤ i) := by
 refine go_slices_Clone_334 _ _ _ _ _ ?_
 unfold W_slices_Clone_334
 refine ⟨false, slice_nil_eq a n c _ _, fun h => by simp at h, fun _ => ?_⟩
 refine v_alloc fun b1 w1 e1 hb1 c1 => ?_
 have hl := h.length
 have h0 : RowAt w1 22 1 (some ⟨b1, 0, none⟩) 0 0 [] := RowAt.of_heap (n := 0) (cs := []) hb1 rfl (Nat.zero_le _)
 obtain ⟨p', c', w', happ, hrow, hc, hf⟩ := h0.append (P := Tryz.prog) (t := 38) (ty := 38) (i := _) (z := .int .u32 0) (bytes := 4) (by kernel_rfl) (show Tryz.prog.info? 22 = some Tryz.t22 by kernel_rfl) (by kernel_rfl) (by kernel_rfl) (by kernel_rfl) rfl (by omega)
  (a := a) (m := n) (mc := c) (news := xs.map (.int .u32)) (by simpa using hl) (fun i u hi => by
   obtain ⟨a', ea, hc⟩ := (h.chg c1 (by simp)).at hi
   obtain rfl : a = a' := by simpa using ea
   exact hc) (fun u hu => by obtain ⟨x, _, rfl⟩ := List.mem_map.1 hu; rfl) (by simp only [maxLen]; omega) (by omega)
 refine ⟨p', 0 + n, c', w', happ, by omega, by simpa using hrow, c1.trans hc (fun i hi hlt => by simp [rowB] at hi; omega), fun i hi => ?_⟩
 rcases hf i hi with h | h
 ·simp [rowB] at h; omega
 ·have := c1.size; omega
theorem table_copy {w : World} {b : Nat} {most : Int} {sets : List Int} {fp : List Nat} (h : TableAt w b most sets fp) :
  Calls Tryz.prog 44 #[.pointer (some ⟨b, 0, none⟩)] w fun e w' => ∃ r1 : Option Addr, e = .returned (.pointer r1) ∧ (∃ b' fp', r1 = some ⟨b', 0, none⟩ ∧ TableAt w' b' most sets fp' ∧ Chg [] w w' ∧ ∀ i ∈ fp', w.heap.size ≤ i) := by
 obtain ⟨p, c, r, j, clk, h1, h2, h3, h4, rfl⟩ := h.there
 refine go_labels_Table_Copy _ _ _ ?_
 unfold W_labels_Table_Copy
 refine (table_none h).mono ?_
 rintro _ w1 ⟨_, rfl, rfl, hw⟩
 subst w1
 refine ⟨_, rfl, fun h => by simp at h, fun _ w2 c2 => ?_⟩
 obtain ⟨a, rfl⟩ : ∃ a, p = some a := by
  cases p with
  | some a => exact ⟨a, rfl⟩
  | none =>
   exfalso
   obtain ⟨s, hs⟩ : ∃ s, (sets.map (Value.int .u32))[0]? = some s := by
    have := h.some
    cases sets with
    | nil => exact absurd rfl this
    | cons a l => exact ⟨_, rfl⟩
   obtain ⟨a, ha, _⟩ := h2.at hs
   cases ha
 have h12 := c2.obj (by simp) h1
 have cells : ∀ {A : World}, A.heap[b]? = some (.cells #[.int .i64 most, .slice (some a) sets.length c, .map (some r), .map (some j)] 150 (0, 0)) →
   A.cell? (⟨b, 0, none⟩ : Addr) = some (.int .i64 most) ∧ A.cell? ((⟨b, 0, none⟩ : Addr).add 1) = some (.slice (some a) sets.length c) ∧ A.cell? ((⟨b, 0, none⟩ : Addr).add 2) = some (.map (some r)) ∧ A.cell? ((⟨b, 0, none⟩ : Addr).add 3) = some (.map (some j)) := fun hA =>
  ⟨by rw [cell_of hA]; rfl, by rw [add_at, cell_of hA]; rfl, by rw [add_at, cell_of hA]; rfl, by rw [add_at, cell_of hA]; rfl⟩
 have k2 := cells h12
 have hm := h.most2
 have hfw := h.few
 refine ⟨_, rfl, _, k2.1, _, _, _, k2.2.1, _, k2.2.2.1, _, k2.2.2.2, ?_⟩
 refine (clone111 (h2.chg c2 (by simp)) (by omega)).mono ?_
 rintro _ w3 ⟨q, qn, qc, rfl, rfl, hq, c3, hqf⟩
 have c03 := c2.trans0 c3
 have k3 := cells (c03.obj (by simp) h1)
 refine ⟨_, _, _, rfl, ⟨k3.1, k3.2.1, k3.2.2.1, k3.2.2.2⟩, ?_⟩
 obtain ⟨es, ck, m1, m2⟩ := h3.chg c03 (by simp)
 refine (clone112 m1).mono ?_
 rintro _ w4 ⟨_, rfl, rfl, hw⟩
 have c4 : Chg [] w3 w4 := by rw [hw]; exact Chg.alloc _ _
 have m14 : w4.heap[w3.heap.size]? = some (.map es ck) := by rw [hw]; exact heap_new _ _
 have k4 := cells ((c03.trans0 c4).obj (by simp) h1)
 refine ⟨_, rfl, ⟨k4.1, k4.2.1, k4.2.2.1, k4.2.2.2⟩, ?_⟩
 refine (clone113 ((c03.trans0 c4).obj (by simp) h4)).mono ?_
 rintro _ w5 ⟨_, rfl, rfl, hw5⟩
 have c5 : Chg [] w4 w5 := by rw [hw5]; exact Chg.alloc _ _
 have m15 : w5.heap[w4.heap.size]? = some (.map #[] clk) := by rw [hw5]; exact heap_new _ _
 have c05 := (c03.trans0 c4).trans0 c5
 have k5 := cells (c05.obj (by simp) h1)
 refine ⟨_, rfl, ⟨k5.1, k5.2.1, k5.2.2.1, k5.2.2.2⟩, ?_⟩
 refine v_alloc fun b1 w6 e1 hb1 c6 => ?_
 have s2 := c2.size
 have s3 := c3.size
 have s4 : w4.heap.size = w3.heap.size + 1 := by rw [hw]; simp
 have s5 : w5.heap.size = w4.heap.size + 1 := by rw [hw5]; simp
 have hqlt := hq.lt
 refine ⟨b1, b1 :: w3.heap.size :: w4.heap.size :: rowB q, rfl, ⟨⟨q, qc, w3.heap.size, w4.heap.size, clk, hb1, ((hq.chg c4 (by simp)).chg c5 (by simp)).chg c6 (by simp), ⟨es, ck, c6.obj (by simp) (c5.obj (by simp) m14), m2⟩, c6.obj (by simp) m15, rfl⟩, ?_, h.some, h.few, h.most1, h.most2, h.each, h.distinct⟩, c05.trans0 c6, fun i hi => ?_⟩
 ·simp only [List.nodup_cons, List.mem_cons, not_or]
  exact ⟨⟨by omega, by omega, fun hm => by have := hqlt _ hm; omega⟩, ⟨by omega, fun hm => by have := hqlt _ hm; omega⟩, fun hm => by have := hqlt _ hm; omega, rowB_nodup _⟩
 ·simp only [List.mem_cons] at hi
  rcases hi with rfl | rfl | rfl | hi
  ·omega
  ·omega
  ·omega
  ·have := hqf i hi; omega
theorem flow_copy {w : World} {b : Nat} {F : Fl} {fp : List Nat} (h : FlowAt w b F fp) :
  Calls Tryz.prog 15 #[.pointer (some ⟨b, 0, none⟩)] w fun e w' => ∃ r1 : Option Addr, e = .returned (.pointer r1) ∧ (∃ b' fp', r1 = some ⟨b', 0, none⟩ ∧ FlowAt w' b' F fp' ∧ Chg [] w w' ∧ ∀ i ∈ fp', w.heap.size ≤ i) := by
 obtain ⟨T, m, d, r, l, fpT, fpm, fpd, gm, gd, h1, h2, h3, h4, h5, h6, h7, h8, h9, rfl⟩ := h.there
 refine go_flow_Flow_Copy _ _ _ ?_
 unfold W_flow_Flow_Copy
 refine (flow_none h).mono ?_
 rintro _ w1 ⟨_, rfl, rfl, hw⟩
 subst w1
 refine ⟨_, rfl, fun h => by simp at h, fun _ w2 c2 => ?_⟩
 have cells : ∀ {A : World}, A.heap[b]? = some (.cells #[.int .i64 F.fr, .int .i64 F.se, .pointer (some ⟨T, 0, none⟩), .pointer (some ⟨m, 0, none⟩), .pointer (some ⟨d, 0, none⟩), .map (some r)] 101 (0, 0)) →
   CellsAt A (⟨b, 0, none⟩ : Addr) 0 [.int .i64 F.fr, .int .i64 F.se] ∧ A.cell? ((⟨b, 0, none⟩ : Addr).add 2) = some (.pointer (some ⟨T, 0, none⟩)) ∧ A.cell? ((⟨b, 0, none⟩ : Addr).add 3) = some (.pointer (some ⟨m, 0, none⟩)) ∧ A.cell? ((⟨b, 0, none⟩ : Addr).add 4) = some (.pointer (some ⟨d, 0, none⟩)) ∧ A.cell? ((⟨b, 0, none⟩ : Addr).add 5) = some (.map (some r)) := fun hA =>
  ⟨⟨by rw [add_at, cell_of hA]; rfl, by rw [add_at, cell_of hA]; rfl, trivial⟩, by rw [add_at, cell_of hA]; rfl, by rw [add_at, cell_of hA]; rfl, by rw [add_at, cell_of hA]; rfl, by rw [add_at, cell_of hA]; rfl⟩
 have k2 := cells (c2.obj (by simp) h1)
 refine ⟨_, rfl, _, _, k2.1, _, k2.2.1, _, k2.2.2.1, _, k2.2.2.2.1, _, k2.2.2.2.2, ?_⟩
 refine (table_copy (h2.chg c2 (by simp))).mono ?_
 rintro _ w3 ⟨_, rfl, T', fpT', rfl, hT', c3, hfT⟩
 have c03 := c2.trans0 c3
 refine ⟨_, rfl, cells (c03.obj (by simp) h1), ?_⟩
 refine (shadow_copy (h3.chg c03 (by simp))).mono ?_
 rintro _ w4 ⟨_, rfl, m', fpm', rfl, hm', c4, hfm⟩
 have c04 := c03.trans0 c4
 refine ⟨_, rfl, cells (c04.obj (by simp) h1), ?_⟩
 refine (shadow_copy (h4.chg c04 (by simp))).mono ?_
 rintro _ w5 ⟨_, rfl, d', fpd', rfl, hd', c5, hfd⟩
 have c05 := c04.trans0 c5
 refine ⟨_, rfl, cells (c05.obj (by simp) h1), ?_⟩
 obtain ⟨es, ck, m1, m2⟩ := h5.chg c05 (by simp)
 refine (clone80 m1).mono ?_
 rintro _ w6 ⟨_, rfl, rfl, hw6⟩
 have c6 : Chg [] w5 w6 := by rw [hw6]; exact Chg.alloc _ _
 have m16 : w6.heap[w5.heap.size]? = some (.map es ck) := by rw [hw6]; exact heap_new _ _
 refine ⟨_, rfl, cells ((c05.trans0 c6).obj (by simp) h1), ?_⟩
 refine v_alloc fun b1 w7 e1 hb1 c7 => ?_
 have s2 := c2.size
 have s3 := c3.size
 have s4 := c4.size
 have s5 := c5.size
 have s6 : w6.heap.size = w5.heap.size + 1 := by rw [hw6]; simp
 have t1 := hT'.lt
 have t2 := hm'.lt
 have t3 := hd'.lt
 have c37 := ((c4.trans0 c5).trans0 c6).trans0 c7
 refine ⟨b1, b1 :: w5.heap.size :: (fpT' ++ (fpm' ++ fpd')), rfl, ⟨⟨T', m', d', w5.heap.size, l, fpT', fpm', fpd', gm, gd, hb1, hT'.chg c37 (by simp), hm'.chg ((c5.trans0 c6).trans0 c7) (by simp), hd'.chg (c6.trans0 c7) (by simp), ⟨es, ck, c7.obj (by simp) m16, m2⟩, h6, h7, h8, h9, rfl⟩, ?_⟩, (c05.trans0 c6).trans0 c7, fun i hi => ?_⟩
 ·have u1 := hT'.nodup
  have u2 := hm'.nodup
  have u3 := hd'.nodup
  simp only [List.nodup_cons, List.mem_cons, List.mem_append, not_or, List.nodup_append]
  refine ⟨⟨by omega, fun hm => by have := t1 _ hm; omega, fun hm => by have := t2 _ hm; omega, fun hm => by have := t3 _ hm; omega⟩, ⟨fun hm => by have := t1 _ hm; omega, fun hm => by have := t2 _ hm; omega, fun hm => by have := t3 _ hm; omega⟩, u1, ⟨u2, u3, fun a ha c hc e => ?_⟩, fun a ha c hc e => ?_⟩
  ·have := t2 a ha; have := hfd c hc; omega
  ·have := t1 a ha
   rcases hc with hc | hc
   ·have := hfm c hc; omega
   ·have := hfd c hc; omega
 ·simp only [List.mem_cons, List.mem_append] at hi
  rcases hi with rfl | rfl | hi | hi | hi
  ·omega
  ·omega
  ·have := hfT i hi; omega
  ·have := hfm i hi; omega
  ·have := hfd i hi; omega
end Go.Proofs.YtfcfkhbkkfpehaaGreat
end
section
namespace Go.Proofs.YtfcfkhbkkfpehaaGreat
open Go Go.X
/- (*pomander/flow.Flow).all -/
def W_flow_Flow_all (f1 : Option Addr) (w : World) (R : (Option Nat) → World → Prop) : Prop :=
 ∃ a1 : Addr, f1 = some a1 ∧ (∃ (t1 : Option Nat), w.cell? (a1.add 5) = some (.map t1) ∧ (Calls Tryz.prog 46 #[.map t1] w fun e w1 => ∃ (r2 : Option Nat), e = .returned (.map r2) ∧ (∀ (b1 : Nat) (w3 : World), (w1.heap.size ≤ b1 ∧ b1 < w3.heap.size) → Chg [] w1 w3 → (∃ (t2 : Option Addr), w3.cell? (a1.add 3) = some (.pointer t2) ∧ (Calls Tryz.prog 88 #[.pointer t2] w3 fun e w4 => ∃ (r3 : Value), e = .returned (r3) ∧ (Same w3 w4 [b1] ∧ (∃ (S1 Sp1 : List (Int × Int) → Prop) (keep1 : List Nat), XR.IsFn Tryz.prog r3 ∧ XR.Iterates Tryz.prog r3 (fun x : Int × Int => #[.int .i64 x.1, .int .u32 x.2]) S1 Sp1 keep1 w4 ∧ (∀ i_ ∈ keep1, i_ < w4.heap.size) ∧ ∃ (I1 : List Nat → List (Int × Int) → World → Prop), (∀ (pre_ : List (Int × Int)), XR.Stab w4 (fun O_ w_ => I1 O_ pre_ w_)) ∧ (∀ (O1 : List Nat) (w5 : World), Chg [] w4 w5 → XR.InO w4 O1 w5 → I1 O1 ([]) w5) ∧ (∀ (l1 : Nat) (O1 : List Nat) (pre1 : List (Int × Int)) (x1 : Int) (x2 : Int) (w5 : World), XR.InO w4 O1 w5 → l1 ∈ O1 → Sp1 (pre1 ++ [(x1, x2)]) → I1 O1 pre1 w5 → (∀ (w6 : World), Chg [l1] w5 w6 → (∃ w7 : World, (Instr.mapUpdate 99 (.map r2) (.agg #[.int .i64 10, .int .i64 x1]) (.int .u32 x2)).run Tryz.prog w6 = .ok () w7 ∧ (Same w6 w7 [b1] ∧ ((w6.heap.size ≤ w7.heap.size ∧ I1 O1 (pre1 ++ [(x1, x2)]) w7 ∧ Same w6 w7 (keep1 ++ O1))))))) ∧ (∀ (d1 : Nat) (O2 : List Nat) (xs1 : List (Int × Int)) (w8 : World), XR.InO w4 O2 w8 → d1 ∈ O2 → S1 xs1 → I1 O2 xs1 w8 → (∃ (t3 : Option Addr), w8.cell? (a1.add 4) = some (.pointer t3) ∧ (Calls Tryz.prog 88 #[.pointer t3] w8 fun e w9 => ∃ (r4 : Value), e = .returned (r4) ∧ (Same w8 w9 [b1, d1] ∧ (∃ (S2 Sp2 : List (Int × Int) → Prop) (keep2 : List Nat), XR.IsFn Tryz.prog r4 ∧ XR.Iterates Tryz.prog r4 (fun x : Int × Int => #[.int .i64 x.1, .int .u32 x.2]) S2 Sp2 keep2 w9 ∧ (∀ i_ ∈ keep2, i_ < w9.heap.size) ∧ ∃ (I2 : List Nat → List (Int × Int) → World → Prop), (∀ (pre_ : List (Int × Int)), XR.Stab w9 (fun O_ w_ => I2 O_ pre_ w_)) ∧ (∀ (O3 : List Nat) (w10 : World), Chg [] w9 w10 → XR.InO w9 O3 w10 → I2 O3 ([]) w10) ∧ (∀ (l2 : Nat) (O3 : List Nat) (pre2 : List (Int × Int)) (x3 : Int) (x4 : Int) (w10 : World), XR.InO w9 O3 w10 → l2 ∈ O3 → Sp2 (pre2 ++ [(x3, x4)]) → I2 O3 pre2 w10 → (∀ (w11 : World), Chg [l2] w10 w11 → (∃ w12 : World, (Instr.mapUpdate 99 (.map r2) (.agg #[.int .i64 12, .int .i64 x3]) (.int .u32 x4)).run Tryz.prog w11 = .ok () w12 ∧ (Same w11 w12 [b1, d1] ∧ ((w11.heap.size ≤ w12.heap.size ∧ I2 O3 (pre2 ++ [(x3, x4)]) w12 ∧ Same w11 w12 (keep2 ++ O3))))))) ∧ (∀ (d2 : Nat) (O4 : List Nat) (xs2 : List (Int × Int)) (w13 : World), XR.InO w9 O4 w13 → d2 ∈ O4 → S2 xs2 → I2 O4 xs2 w13 → (∀ w14 : World, Chg [d2, d1] w13 w14 → (R r2 w14)))))))))))))))
set_option maxRecDepth 100000 in
theorem go_flow_Flow_all (f1 : Option Addr) (w : World) (R : (Option Nat) → World → Prop) (h : W_flow_Flow_all f1 w R) : Calls Tryz.prog 55 #[.pointer f1] w (fun e w' => ∃ (r1 : Option Nat), e = .returned (.map r1) ∧ R r1 w') := by
 unfold W_flow_Flow_all at h
 refine XR.enterM (N := 36) Tryz.func55 rfl rfl ?_
 refine CW.seq ?_
 refine CW.region fun L hL => ?_
 refine LW.rd hL rfl (Wants.free rfl) rfl (Rd.assign (v := .map none) rfl) ?_
 refine LW.nil hL rfl ?_
 refine NW.then ?_
 refine CW.seq ?_
 refine CW.region fun L hL => ?_
 refine LW.rd hL rfl (Wants.free rfl) rfl (Rd.move (v := .pointer f1) rfl) ?_
 obtain ⟨a1, ha1, h⟩ := h
 refine LW.rd hL rfl (Wants.free rfl) rfl (Rd.nil (q := a1) (by rw [← ha1]; rfl)) ?_
 refine LW.rd hL rfl (Wants.free rfl) rfl (Rd.fa (v := .pointer (some (a1.add 5))) rfl (fun _ => by kernel_rfl)) ?_
 obtain ⟨t1, hc1, h⟩ := h
 refine LW.rd hL rfl (Wants.free rfl) rfl (Rd.ld (v := .map t1) rfl (by kernel_rfl) (eqs hc1)) ?_
 refine LW.call hL rfl (Wants.free rfl) rfl (Cl.fn (f := 46) rfl Tryz.func46 (by kernel_rfl) rfl) h (fun e w1 h_ => ?_)
 clear h
 obtain ⟨r2, rfl, h⟩ := h_
 refine ⟨_, rfl, ?_⟩
 obtain ⟨b1, hb_b1⟩ : ∃ b1, b1 = World.size w1 := ⟨_, rfl⟩
 obtain ⟨w2, hw_w2⟩ : ∃ w2, w2 = World.alloc w1 (.cells #[.map none] 99) := ⟨_, rfl⟩
 refine LW.val hL rfl (Wants.free rfl) rfl (boxE hb_b1 hw_w2 (Vl.alloc (z := .map none) (by kernel_rfl))) ?_
 have hB := Boxes.alloc (cs := [.map none]) (T := 99) (Boxes.nil w1) hb_b1 hw_w2
 have hlo_b1 := sil_lo (Chg.refl [] w1) hb_b1
 have hc_w2 := sil_alloc (Chg.refl [] w1) hw_w2
 obtain ⟨w3, hw_w3⟩ : ∃ x, x = World.setCell w2 (⟨b1, 0, none⟩ : Addr) (.map r2) := ⟨_, rfl⟩
 refine LW.eff hL rfl (Wants.free rfl) rfl (stE hw_w3 (Ef.st rfl rfl rfl (by kernel_rfl) (box_cell (v := .map none) (hB.at (i := 0) rfl) rfl) (free_of (hB.at (i := 0) rfl) 0))) ?_
 replace hB : Boxes w3 [(b1, [.map r2], 99)] := Boxes.store1  (i := 0) (o := 0) hB rfl rfl rfl rfl hw_w3
 have hc_w3 := sil_new hc_w2 (sil_c1 hw_w3) hlo_b1
 refine LW.nil hL rfl ?_
 refine NW.then ?_
 refine CW.seq ?_
 refine CW.seq ?_
 refine CW.region fun L hL => ?_
 refine LW.rd hL rfl (Wants.free rfl) rfl (Rd.move (v := .pointer f1) rfl) ?_
 refine LW.rd hL rfl (Wants.free rfl) rfl (Rd.nil (q := a1) (by rw [← ha1]; rfl)) ?_
 refine LW.rd hL rfl (Wants.free rfl) rfl (Rd.fa (v := .pointer (some (a1.add 3))) rfl (fun _ => by kernel_rfl)) ?_
 replace h := h b1 w3 ⟨hlo_b1, lt_of_heap (hB.at (i := 0) rfl)⟩ hc_w3
 obtain ⟨t2, hc2, h⟩ := h
 refine LW.rd hL rfl (Wants.free rfl) rfl (Rd.ld (v := .pointer t2) rfl (by kernel_rfl) (eqs hc2)) ?_
 refine LW.call hL rfl (Wants.free rfl) rfl (Cl.fn (f := 88) rfl Tryz.func88 (by kernel_rfl) rfl) h (fun e w4 h_ => ?_)
 clear h
 obtain ⟨r3, rfl, h⟩ := h_
 obtain ⟨hsm1, h⟩ := h
 replace hB := Boxes.sameS hB hsm1 (by simp)
 refine ⟨_, rfl, ?_⟩
 refine LW.nil hL rfl ?_
 refine NW.then ?_
 refine CW.block ?_
 obtain ⟨S1, Sp1, keep1, hfn_, hit_, hkp_, I1, hst_I1, h0_, hrd_, hdn_⟩ := h
 refine XR.CW.rangeV (α := Int × Int) (enc := (fun x : Int × Int => #[.int .i64 x.1, .int .u32 x.2])) (S := S1) (Sp := Sp1) (keep := keep1) rfl hfn_ (fun _ => rfl) (by decide) hit_ (fun (O_ : List Nat) (pre_ : List (Int × Int)) (w_ : World) => I1 O_ pre_ w_ ∧ Boxes w_ [(b1, [.map r2], 99)]) (fun (c_ : Code) (O_ : List Nat) (pre_ : List (Int × Int)) (w_ : World) => False) ?_ ?_ ?_ hkp_ ?_ ?_ ?_
 ·intro pre_ O_ O2_ A_ B_ hi_ hO_ hc_ hO2_ hg_
  have hB0_ := hB
  obtain ⟨hi_, hB⟩ := hi_
  exact ⟨hst_I1  pre_ O_ O2_ A_ B_ hi_ hO_ hc_ hO2_ hg_, hB.stab hB0_ rfl hO_ hc_⟩
 ·intro c_ pre_ O_ O2_ A_ B_ hi_ hO_ hc_ hO2_ hg_
  exact hi_.elim
 ·intro O_ A_ hc_ hO_
  exact ⟨h0_ O_ A_ hc_ hO_, Boxes.chg hB hc_ (by simp)⟩
 ·intro l1 O1 pre1 x_ w5 hO_ hl_ hSp_ hi_
  obtain ⟨x1, x2⟩ := x_
  obtain ⟨hi_, hB⟩ := hi_
  have h := hrd_ l1 O1 pre1 x1 x2 w5 hO_ hl_ hSp_ hi_
  refine XR.CW.seq ?_
  refine XR.CW.region fun L hL => ?_
  refine XR.LW.rd hL rfl (Wants.free rfl) rfl (Rd.assign (v := .int .i64 x1) rfl) ?_
  refine XR.LW.nil hL rfl ?_
  refine XR.NW.then ?_
  refine XR.CW.region fun L hL => ?_
  refine XR.LW.rd hL rfl (Wants.free rfl) rfl (Rd.assign (v := .int .u32 x2) rfl) ?_
  refine XR.LW.nil hL rfl ?_
  refine XR.NW.begin (Chg.refl [] w5) (fun w6 hcb_w6 hlp_ hib_ => ?_)
  have hc_w6 : Chg [l1] w5 w6 := sil_more (Chg.refl [] w5) hcb_w6
  replace hB := hB.notloop hlp_ hcb_w6
  replace h := h  w6  hc_w6
  refine XR.CW.block ?_
  refine XR.CW.region fun L hL => ?_
  refine XR.LW.rd hL rfl (Wants.free rfl) rfl (Rd.ld (v := .map r2) rfl (by kernel_rfl) (eqs (box_cell (hB.at (i := 0) rfl) rfl))) ?_
  refine XR.LW.rd hL rfl (Wants.free rfl) rfl (Rd.move (v := .int .i64 x1) rfl) ?_
  refine XR.LW.rd hL rfl (Wants.free rfl) rfl (Rd.build (v := .agg #[.int .i64 10, .int .i64 x1]) rfl (fun _ => by kernel_rfl)) ?_
  refine XR.LW.rd hL rfl (Wants.free rfl) rfl (Rd.move (v := .int .u32 x2) rfl) ?_
  obtain ⟨w7, hm1, h⟩ := h
  refine XR.LW.eff hL rfl (Wants.free rfl) rfl (Ef.mapUpdate rfl rfl rfl hm1) ?_
  obtain ⟨hsm2, h⟩ := h
  replace hB := Boxes.sameS hB hsm2 (by simp)
  refine XR.LW.nil hL rfl ?_
  refine NW.block ?_
  exact fun a_ ha_ => ⟨h.1, ⟨h.2.1, hB⟩, h.2.2⟩
 ·intro d1 O2 xs1 w8 hO_ hd_ hdh_ hS_ hi_
  obtain ⟨hi_, hB⟩ := hi_
  have h := hdn_ d1 O2 xs1 w8 hO_ hd_ hS_ hi_
  have hK := XR.Marks.cons (XR.Marks.nil _) hdh_ (by simp)
  refine NW.block ?_
  refine NW.then ?_
  refine CW.seq ?_
  refine CW.seq ?_
  refine CW.region fun L hL => ?_
  refine LW.rd hL rfl (Wants.free rfl) rfl (Rd.move (v := .pointer f1) rfl) ?_
  refine LW.rd hL rfl (Wants.free rfl) rfl (Rd.nil (q := a1) (by rw [← ha1]; rfl)) ?_
  refine LW.rd hL rfl (Wants.free rfl) rfl (Rd.fa (v := .pointer (some (a1.add 4))) rfl (fun _ => by kernel_rfl)) ?_
  obtain ⟨t3, hc3, h⟩ := h
  refine LW.rd hL rfl (Wants.free rfl) rfl (Rd.ld (v := .pointer t3) rfl (by kernel_rfl) (eqs hc3)) ?_
  refine LW.call hL rfl (Wants.free rfl) rfl (Cl.fn (f := 88) rfl Tryz.func88 (by kernel_rfl) rfl) h (fun e w9 h_ => ?_)
  clear h
  obtain ⟨r4, rfl, h⟩ := h_
  obtain ⟨hsm3, h⟩ := h
  replace hB := Boxes.sameS hB hsm3 (by simp)
  replace hK := XR.Marks.same hK hsm3 (by simp)
  refine ⟨_, rfl, ?_⟩
  refine LW.nil hL rfl ?_
  refine NW.then ?_
  refine CW.block ?_
  obtain ⟨S2, Sp2, keep2, hfn_, hit_, hkp_, I2, hst_I2, h0_, hrd_, hdn_⟩ := h
  refine XR.CW.rangeV (α := Int × Int) (enc := (fun x : Int × Int => #[.int .i64 x.1, .int .u32 x.2])) (S := S2) (Sp := Sp2) (keep := keep2) rfl hfn_ (fun _ => rfl) (by decide) hit_ (fun (O_ : List Nat) (pre_ : List (Int × Int)) (w_ : World) => I2 O_ pre_ w_ ∧ XR.Marks w_ [d1] ∧ Boxes w_ [(b1, [.map r2], 99)]) (fun (c_ : Code) (O_ : List Nat) (pre_ : List (Int × Int)) (w_ : World) => False) ?_ ?_ ?_ hkp_ ?_ ?_ ?_
  ·intro pre_ O_ O2_ A_ B_ hi_ hO_ hc_ hO2_ hg_
   have hB0_ := hB
   have hK0_ := hK
   obtain ⟨hi_, hK, hB⟩ := hi_
   exact ⟨hst_I2  pre_ O_ O2_ A_ B_ hi_ hO_ hc_ hO2_ hg_, hK.stab hK0_ hO_ hc_, hB.stab hB0_ rfl hO_ hc_⟩
  ·intro c_ pre_ O_ O2_ A_ B_ hi_ hO_ hc_ hO2_ hg_
   exact hi_.elim
  ·intro O_ A_ hc_ hO_
   exact ⟨h0_ O_ A_ hc_ hO_, hK.chg hc_ (by simp), Boxes.chg hB hc_ (by simp)⟩
  ·intro l2 O3 pre2 x_ w10 hO_ hl_ hSp_ hi_
   obtain ⟨x3, x4⟩ := x_
   obtain ⟨hi_, hK, hB⟩ := hi_
   have h := hrd_ l2 O3 pre2 x3 x4 w10 hO_ hl_ hSp_ hi_
   refine XR.CW.seq ?_
   refine XR.CW.region fun L hL => ?_
   refine XR.LW.rd hL rfl (Wants.free rfl) rfl (Rd.assign (v := .int .i64 x3) rfl) ?_
   refine XR.LW.nil hL rfl ?_
   refine XR.NW.then ?_
   refine XR.CW.region fun L hL => ?_
   refine XR.LW.rd hL rfl (Wants.free rfl) rfl (Rd.assign (v := .int .u32 x4) rfl) ?_
   refine XR.LW.nil hL rfl ?_
   refine XR.NW.begin (Chg.refl [] w10) (fun w11 hcb_w11 hlp_ hib_ => ?_)
   have hc_w11 : Chg [l2] w10 w11 := sil_more (Chg.refl [] w10) hcb_w11
   replace hB := hB.notloop hlp_ hcb_w11
   replace hK := hK.notloop hlp_ hcb_w11
   replace h := h  w11  hc_w11
   refine XR.CW.block ?_
   refine XR.CW.region fun L hL => ?_
   refine XR.LW.rd hL rfl (Wants.free rfl) rfl (Rd.ld (v := .map r2) rfl (by kernel_rfl) (eqs (box_cell (hB.at (i := 0) rfl) rfl))) ?_
   refine XR.LW.rd hL rfl (Wants.free rfl) rfl (Rd.move (v := .int .i64 x3) rfl) ?_
   refine XR.LW.rd hL rfl (Wants.free rfl) rfl (Rd.build (v := .agg #[.int .i64 12, .int .i64 x3]) rfl (fun _ => by kernel_rfl)) ?_
   refine XR.LW.rd hL rfl (Wants.free rfl) rfl (Rd.move (v := .int .u32 x4) rfl) ?_
   obtain ⟨w12, hm2, h⟩ := h
   refine XR.LW.eff hL rfl (Wants.free rfl) rfl (Ef.mapUpdate rfl rfl rfl hm2) ?_
   obtain ⟨hsm4, h⟩ := h
   replace hB := Boxes.sameS hB hsm4 (by simp)
   replace hK := XR.Marks.same hK hsm4 (by simp)
   refine XR.LW.nil hL rfl ?_
   refine NW.block ?_
   exact fun a_ ha_ => ⟨h.1, ⟨h.2.1, hK, hB⟩, h.2.2⟩
  ·intro d2 O4 xs2 w13 hO_ hd_ hdh_ hS_ hi_
   have hK0_ := hK
   obtain ⟨hi_, hK, hB⟩ := hi_
   have h := hdn_ d2 O4 xs2 w13 hO_ hd_ hS_ hi_
   have hK := XR.Marks.cons2 hK hK0_ (hO_ _ hd_).1 hdh_
   refine NW.block ?_
   refine NW.then ?_
   refine CW.seq ?_
   refine CW.region fun L hL => ?_
   refine LW.rd hL rfl (Wants.free rfl) rfl (Rd.ld (v := .map r2) rfl (by kernel_rfl) (eqs (box_cell (hB.at (i := 0) rfl) rfl))) ?_
   refine LW.rd hL rfl (Wants.free rfl) rfl (Rd.assign (v := .map r2) rfl) ?_
   refine LW.nil hL rfl ?_
   refine NW.then ?_
   refine CW.ret ?_
   exact XR.resM (ms := [d2, d1]) (vs := [.map r2]) hK rfl (fun w_ hc_ => ⟨(ResOK.t rfl ResOK.nil), r2, rfl, h w_ hc_⟩)
  ·intro d3 c_ O5 xs3 w15 hO_ hd_ hdh_ hS_ hi_
   exact hi_.elim
 ·intro d4 c_ O6 xs4 w16 hO_ hd_ hdh_ hS_ hi_
  exact hi_.elim
end Go.Proofs.YtfcfkhbkkfpehaaGreat
end
section
/- Flows: the map of all places that have sets. -/
namespace Go.Proofs.YtfcfkhbkkfpehaaGreat
open Go Go.RowKit Go.X Go.XR
def addAll (c : Int) (xs : List (Int × Int)) (l : List ((Int × Int) × Int)) : List ((Int × Int) × Int) := xs.foldl (fun l x => upd (c, x.1) x.2 l) l
theorem addAll_append (c : Int) (xs ys : List (Int × Int)) (l : List ((Int × Int) × Int)) : addAll c (xs ++ ys) l = addAll c ys (addAll c xs l) := by simp [addAll]
theorem addAll_look (c : Int) (g : Int → Int) (l : List ((Int × Int) × Int)) (p : Int × Int) : ∀ k : Nat, lookK p (addAll c (someL g k) l) = if p.1 = c ∧ 0 ≤ p.2 ∧ p.2 < k ∧ g p.2 ≠ 0 then some (g p.2) else lookK p l
 | 0 => by
  rw [if_neg (by omega)]; rfl
 | k + 1 => by
  have ih := addAll_look c g l p k
  rw [someL_succ, addAll_append]
  by_cases hz : g k = 0
  ·rw [if_pos hz]
   show lookK p (addAll c (someL g k) l) = _
   rw [ih]
   by_cases h : p.1 = c ∧ 0 ≤ p.2 ∧ p.2 < k ∧ g p.2 ≠ 0
   ·rw [if_pos h, if_pos ⟨h.1, h.2.1, by omega, h.2.2.2⟩]
   ·rw [if_neg h, if_neg]
    rintro ⟨h1, h2, h3, h4⟩
    refine h ⟨h1, h2, ?_, h4⟩
    rcases Decidable.em (p.2 = k) with e | e
    ·rw [e] at h4; exact absurd hz h4
    ·omega
  ·rw [if_neg hz]
   show lookK p (upd (c, (k : Int)) (g k) (addAll c (someL g k) l)) = _
   rw [lookK_upd, ih]
   by_cases e : p = (c, (k : Int))
   ·subst e
    rw [if_pos rfl, if_pos ⟨rfl, by simp only []; omega, by simp only []; omega, hz⟩]
   ·rw [if_neg e]
    have e' : p.1 = c → p.2 ≠ k := fun h1 h2 => e (Prod.ext h1 h2)
    by_cases h : p.1 = c ∧ 0 ≤ p.2 ∧ p.2 < k ∧ g p.2 ≠ 0
    ·rw [if_pos h, if_pos ⟨h.1, h.2.1, by omega, h.2.2.2⟩]
    ·rw [if_neg h, if_neg]
     rintro ⟨h1, h2, h3, h4⟩
     exact h ⟨h1, h2, by have := e' h1; omega, h4⟩
structure AllIs (w : World) (m : Nat) (F : Fl) (L : List ((Int × Int) × Int)) : Prop where
 map : MapIs w m encP (fun n : Int => .int .u32 n) L
 look : ∀ p, lookK p L = if F.g p = 0 then none else some (F.g p)
 may : ∀ x ∈ L, mayP F.fr F.se x.1
theorem flow_all_map {w : World} {b : Nat} {F : Fl} {fp : List Nat} (h : FlowAt w b F fp) :
  Calls Tryz.prog 55 #[.pointer (some ⟨b, 0, none⟩)] w fun e w' => ∃ r2 : Option Nat, e = .returned (.map r2) ∧ ∃ m L, r2 = some m ∧ AllIs w' m F L ∧ Chg [] w w' ∧ w.heap.size ≤ m := by
 obtain ⟨T, m, d, r, l, fpT, fpm, fpd, gm, gd, h1, h2, h3, h4, h5, h6, h7, h8, h9, rfl⟩ := h.there
 have hlb := lt_of_heap h1
 refine go_flow_Flow_all _ _ _ ?_
 unfold W_flow_Flow_all
 obtain ⟨es, clk, m1, m2⟩ := h5
 refine ⟨_, rfl, some r, by rw [add_at, cell_of h1]; rfl, ?_⟩
 refine (clone80 m1).mono ?_
 rintro _ w1 ⟨_, rfl, rfl, hw⟩
 have c1 : Chg [] w w1 := by subst hw; exact Chg.alloc _ _
 have hm1 : MapIs w1 w.heap.size encP (fun n : Int => .int .u32 n) l := ⟨es, clk, by subst hw; exact heap_new w _, m2⟩
 have s1 := c1.size
 have lm1 := hm1.lt
 refine ⟨_, rfl, ?_⟩
 rintro b1 w3 ⟨i1, j1⟩ c3
 have s3 := c3.size
 have c03 := c1.trans0 c3
 refine ⟨_, by rw [add_at, cell_of (c03.obj (by simp) h1)]; rfl, ?_⟩
 refine (shadow_all (h3.chg c03 (by simp))).mono ?_
 rintro _ w4 ⟨_, rfl, cb, b', fp', rfl, hcb, hA, c4, hnew⟩
 have s4 := c4.size
 have hlA := hA.lt
 have hlcb := lt_of_heap hcb
 have c04 := c03.trans0 c4
 refine ⟨_, rfl, Same.chg c4 (by simp; omega), _, _, _, isFn93 cb, iterates_shadow hcb hA, by simp; exact ⟨hlcb, hlA⟩, ?_⟩
 refine ⟨fun O pre w' => ∃ k : Nat, k ≤ 64 * F.fr.toNat ∧ pre = someL gm k ∧ MapIs w' w.heap.size encP (fun n : Int => .int .u32 n) (addAll 10 (someL gm k) l) ∧ Chg [] w w' ∧ w4.heap.size ≤ w'.heap.size, ?_, ?_, ?_, ?_⟩
 ·rintro pre O O' A B ⟨k, k1, k2, k3, k4, k5⟩ hO hc hO' hg
  have := hc.size
  exact ⟨k, k1, k2, k3.chg hc (fun hm => by have := (hO _ hm).1; omega), k4.trans hc (fun i hi hlt => by have := (hO i hi).1; omega), by omega⟩
 ·intro O w5 c5 hO
  exact ⟨0, Nat.zero_le _, rfl, ((hm1.chg c3 (by simp)).chg c4 (by simp)).chg c5 (by simp), c04.trans0 c5, c5.size⟩
 ·rintro l1 O pre x1 x2 w5 hO hl1 ⟨suf, hsuf⟩ ⟨k, k1, rfl, k3, k4, k5⟩ w6 c6
  have hl1' := hO l1 hl1
  have s6 := c6.size
  rw [List.append_assoc] at hsuf
  obtain ⟨j, rfl, hkj, hjn, rfl, hj0, hz, hnext⟩ := someL_next (64 * F.fr.toNat - k) k (by omega) hsuf
  have hm6 := k3.chg c6 (fun hm => by simp at hm; omega)
  obtain ⟨w7, hrun, c7, s7, hm7⟩ := hm6.update (P := Tryz.prog) (T := 99) u143 keyPlace (10, (j : Int)) (gm j)
  refine ⟨w7, hrun, Same.of c7 (fun i hi => by simp at hi; exact ⟨by omega, by simp; omega⟩), by omega, ⟨j + 1, by omega, hnext.symm, ?_, (k4.trans c6 (fun i hi hlt => by simp at hi; omega)).trans c7 (fun i hi hlt => by simp at hi; omega), by omega⟩, Same.of c7 (fun i hi => ?_)⟩
  ·rw [hnext, addAll_append]; exact hm7
  ·rcases List.mem_append.1 hi with h | h
   ·have h1 := hnew i h
    have h2 : i < w4.heap.size := by
     rcases List.mem_cons.1 h with e | e
     ·omega
     ·exact hlA i e
    exact ⟨by omega, by simp; omega⟩
   ·have := hO i h
    exact ⟨by omega, by simp; omega⟩
 ·rintro d1 O xs w8 hO hd1 hxs ⟨k, k1, hxs', k3, k4, k5⟩
  have hd1' := hO d1 hd1
  rw [hxs'.symm.trans hxs] at k3
  refine ⟨_, by rw [add_at, cell_of (k4.obj (by simp) h1)]; rfl, ?_⟩
  refine (shadow_all (h4.chg k4 (by simp))).mono ?_
  rintro _ w9 ⟨_, rfl, cb2, b2', fp2', rfl, hcb2, hA2, c9, hnew2⟩
  have s9 := c9.size
  have hlA2 := hA2.lt
  have hlcb2 := lt_of_heap hcb2
  have c09 := k4.trans0 c9
  refine ⟨_, rfl, Same.chg c9 (by simp; omega), _, _, _, isFn93 cb2, iterates_shadow hcb2 hA2, by simp; exact ⟨hlcb2, hlA2⟩, ?_⟩
  refine ⟨fun O pre w' => ∃ k : Nat, k ≤ 64 * F.se.toNat ∧ pre = someL gd k ∧ MapIs w' w.heap.size encP (fun n : Int => .int .u32 n) (addAll 12 (someL gd k) (addAll 10 (someL gm (64 * F.fr.toNat)) l)) ∧ Chg [] w w' ∧ w9.heap.size ≤ w'.heap.size, ?_, ?_, ?_, ?_⟩
  ·rintro pre O O' A B ⟨k, k1, k2, k3, k4, k5⟩ hO hc hO' hg
   have := hc.size
   exact ⟨k, k1, k2, k3.chg hc (fun hm => by have := (hO _ hm).1; omega), k4.trans hc (fun i hi hlt => by have := (hO i hi).1; omega), by omega⟩
  ·intro O w10 c10 hO
   exact ⟨0, Nat.zero_le _, rfl, (k3.chg c9 (by simp)).chg c10 (by simp), c09.trans0 c10, c10.size⟩
  ·rintro l2 O pre x3 x4 w10 hO hl2 ⟨suf, hsuf⟩ ⟨k, k1, rfl, k3, k4, k5⟩ w11 c11
   have hl2' := hO l2 hl2
   have s11 := c11.size
   rw [List.append_assoc] at hsuf
   obtain ⟨j, rfl, hkj, hjn, rfl, hj0, hz, hnext⟩ := someL_next (64 * F.se.toNat - k) k (by omega) hsuf
   have hm11 := k3.chg c11 (fun hm => by simp at hm; omega)
   obtain ⟨w12, hrun, c12, s12, hm12⟩ := hm11.update (P := Tryz.prog) (T := 99) u143 keyPlace (12, (j : Int)) (gd j)
   refine ⟨w12, hrun, Same.of c12 (fun i hi => by simp at hi; exact ⟨by omega, by simp; omega⟩), by omega, ⟨j + 1, by omega, hnext.symm, ?_, (k4.trans c11 (fun i hi hlt => by simp at hi; omega)).trans c12 (fun i hi hlt => by simp at hi; omega), by omega⟩, Same.of c12 (fun i hi => ?_)⟩
   ·rw [hnext, addAll_append]; exact hm12
   ·rcases List.mem_append.1 hi with h | h
    ·have h1 := hnew2 i h
     have h2 : i < w9.heap.size := by
      rcases List.mem_cons.1 h with e | e
      ·omega
      ·exact hlA2 i e
     exact ⟨by omega, by simp; omega⟩
    ·have := hO i h
     exact ⟨by omega, by simp; omega⟩
  ·rintro d2 O2 xs2 w13 hO2 hd2 hxs2 ⟨k, k1, hxs2', k3', k4', k5'⟩ w14 c14
   have hd2' := hO2 d2 hd2
   rw [hxs2'.symm.trans hxs2] at k3'
   have hlook : ∀ p, lookK p (addAll 12 (someL gd (64 * F.se.toNat)) (addAll 10 (someL gm (64 * F.fr.toNat)) l)) = if F.g p = 0 then none else some (F.g p) := fun p => by
    have hl0 : ∀ q : Int × Int, q.1 = 10 ∨ q.1 = 12 → lookK q l = none := fun q hq => lookK_none.2 fun x hx e => by
     have := h9 x hx
     rw [e] at this
     omega
    have hp3 := h3.pages1
    have hp4 := h4.pages1
    rw [addAll_look, addAll_look]
    obtain ⟨c, n⟩ := p
    by_cases e1 : c = 12
    ·subst e1
     rw [h7]
     simp only []
     by_cases e2 : gd n = 0
     ·rw [if_neg (by simp [e2]), if_neg (by omega), hl0 _ (.inr rfl), if_pos e2]
     ·have : 0 ≤ n ∧ n < 64 * F.se := by
       rcases Decidable.em (0 ≤ n ∧ n < 64 * F.se) with h | h
       ·exact h
       ·exact absurd (h4.out (by omega)) e2
      rw [if_pos ⟨trivial, by omega, by omega, e2⟩, if_neg e2]
    ·by_cases e3 : c = 10
     ·subst e3
      rw [h6]
      simp only []
      rw [if_neg (by omega)]
      by_cases e2 : gm n = 0
      ·rw [if_neg (by simp [e2]), hl0 _ (.inl rfl), if_pos e2]
      ·have : 0 ≤ n ∧ n < 64 * F.fr := by
        rcases Decidable.em (0 ≤ n ∧ n < 64 * F.fr) with h | h
        ·exact h
        ·exact absurd (h3.out (by omega)) e2
       rw [if_pos ⟨trivial, by omega, by omega, e2⟩, if_neg e2]
     ·rw [if_neg (by simp only []; omega), if_neg (by simp only []; omega), h8 (c, n) e3 e1]
      cases hl : lookK (c, n) l with
      | none => simp
      | some v =>
       have := h9 _ (lookK_mem hl)
       simp only [Option.getD_some]
       rw [if_neg (by simp only [] at this; omega)]
   have c014 : Chg [] w w14 := k4'.trans c14 (fun i hi hlt => by simp at hi; omega)
   have hmap := k3'.chg c14 (fun hm => by simp at hm; omega)
   refine ⟨_, _, rfl, ⟨hmap, hlook, fun x hx => ?_⟩, c014, Nat.le_refl _⟩
   obtain ⟨_, _, _, _, hnd, _⟩ := hmap
   have hl := (lookK_iff hnd).2 (show (x.1, x.2) ∈ _ from hx)
   rw [addAll_look, addAll_look] at hl
   have hw := h.wide
   obtain ⟨⟨c, n⟩, v⟩ := x
   simp only [] at hl ⊢
   by_cases e1 : c = 12 ∧ 0 ≤ n ∧ n < ((64 * F.se.toNat : Nat) : Int) ∧ gd n ≠ 0
   ·obtain ⟨rfl, e2, e3, e4⟩ := e1
    have hb : boundP F.fr F.se 12 = 64 * F.se := rfl
    exact ⟨by simp, by simp, e2, by simp only []; rw [hb]; omega⟩
   ·rw [if_neg e1] at hl
    by_cases e5 : c = 10 ∧ 0 ≤ n ∧ n < ((64 * F.fr.toNat : Nat) : Int) ∧ gm n ≠ 0
    ·obtain ⟨rfl, e2, e3, e4⟩ := e5
     have hb : boundP F.fr F.se 10 = 64 * F.fr := rfl
     exact ⟨by simp, by simp, e2, by simp only []; rw [hb]; omega⟩
    ·rw [if_neg e5] at hl
     exact (h9 _ (lookK_mem hl)).2.2.1
end Go.Proofs.YtfcfkhbkkfpehaaGreat
end
section
/- Regions that draw their order, in codes that call rounds. -/
namespace Go.XR
open Go Go.X Go.RowKit
section
variable {P : Program} {ops : Array Oper} {Q : Exit → Act → World → Prop} {S : World → Prop} {z : Nat} {ro : Option Nat}
def noDefer (ops : Array Oper) : Bool := ops.toList.all fun o => !isDefer o
theorem noDefer_at {j : Nat} {o : Oper} (h : noDefer ops = true) (hj : ops[j]? = some o) : isDefer o = false := by
 have := List.all_eq_true.1 h o (by rw [Array.getElem?_eq_some_iff] at hj; obtain ⟨hi, rfl⟩ := hj; simp)
 simpa using this
theorem YieldsIf.wpOpIn {i : Nat} {o : Oper} {v : Value} {a : Act} (hi : ops[i]? = some o) (hdf : isDefer o = false) (hy : YieldsIf P ops S o v a)
  {K : Act → World → Prop} {w : World} (hS : S w) (h : K (a.put o.dst v) w) : wpOpIn (FR ro) 0 P ops Q i K a w := by
 unfold Go.wpOpIn
 simp only [hi]
 rcases hy with ⟨hw, hv⟩ | ⟨hw, rfl⟩
 ·simp only [hw, if_true, Oper.wpIn]; rw [semAt_of hdf, hv w hS]; exact ⟨fun _ _ => trivial, h⟩
 ·simp only [hw, Bool.false_eq_true, if_false]; exact ⟨fun _ _ => trivial, h⟩
theorem wpOpIn_putIf {j : Nat} {oi oj : Oper} {v : Value} (hj : ops[j]? = some oj) (hdf : isDefer oj = false) (hap : oi.apart ops oj = true)
  (hsi : ∀ cs b, oi.op ≠ .select cs b) (hsj : ∀ cs b, oj.op ≠ .select cs b)
  (hQ : ∀ c a w, Q (.panic c) (a.put oi.dst v) w → Q (.panic c) a w) {K : Act → World → Prop} {a : Act} {w : World}
  (hy : YieldsIf P ops S oi v a) (h : wpOpIn (FR ro) 0 P ops Q j K (a.put oi.dst v) w) :
  wpOpIn (FR ro) 0 P ops Q j (fun a' w' => YieldsIf P ops S oi v a' ∧ K (a'.put oi.dst v) w') a w := by
 obtain ⟨h1, h2, h3⟩ := Oper.apart_spec hap
 have keep : ∀ (a : Act), YieldsIf P ops S oi v a → ∀ u, YieldsIf P ops S oi v (a.put oj.dst u) := fun a hy u =>
  hy.of_same (execOp_put oi hsi a oj.dst u h3) (wanted_put oi a oj.dst u h3)
 have keepD : ∀ d, YieldsIf P ops S oi v { a with defers := d :: a.defers } := fun d => hy.of_same rfl rfl
 unfold wpOpIn at *
 simp only [hj] at *
 rw [wanted_put oj a oi.dst v h1] at h
 split
 ·rename_i hw
  simp only [hw, if_true] at h
  unfold Oper.wpIn at *
  refine ⟨fun _ _ => trivial, ?_⟩
  have h := h.2
  rw [semAt_of hdf, execOp_put oj hsj a oi.dst v h1] at h
  rw [semAt_of hdf]
  generalize (execOp a.eval oj).run P w = r at *
  cases r with
  | ok x w' =>
   cases x <;> simp only [Oper.uponIn] at h ⊢
   case value u => exact ⟨keep a hy u, by rw [← Act.put_comm a v u h2]; exact h⟩
   case skip => exact ⟨keep a hy _, by rw [← Act.put_comm a v undef h2]; exact h⟩
   case defer d =>
    refine ⟨keep _ (keepD d) _, ?_⟩
    rw [← Act.put_comm _ v undef h2, ← Act.put_defers]
    exact h
   case enter f args =>
    refine ⟨h.1, CallsIn.mono h.2 fun e w'' he => ?_⟩
    cases e with
    | returned u => exact ⟨keep a hy u, by rw [← Act.put_comm a v u h2]; exact he⟩
    | panicked c => exact hQ _ _ _ he
    | outgrown => exact he
   case row row args => exact ⟨h.1, RowsIn.mono h.2 fun u w'' he => ⟨keep a hy u, by rw [← Act.put_comm a v u h2]; exact he⟩⟩
   case round l f tmps assign body =>
    refine ⟨h.1, RoundIn.mono h.2 fun e w'' he => ?_⟩
    cases e with
    | returned u => exact ⟨keep a hy u, by rw [← Act.put_comm a v u h2]; exact he⟩
    | panicked c => exact hQ _ _ _ he
    | outgrown => exact he
  | halt x w' =>
   cases x <;> simp only [Oper.uponIn] at h ⊢
   case panic u => exact hQ _ _ _ h
 ·rename_i hw
  simp only [hw] at h
  exact ⟨fun _ _ => trivial, keep a hy _, by rw [← Act.put_comm a v undef h2]; exact h.2⟩
def AH (ro : Option Nat) (P : Program) (ops : Array Oper) (Q : Exit → Act → World → Prop) (S : World → Prop) (z : Nat) : Nat → Array Bool → Act → World → Prop
 | 0, l, a, w => Region.ready .any ops l = [] ∧ Q .normal a w
 | n + 1, l, a, w => (Region.ready .any ops l = [] → Q .normal a w) ∧
  ∀ i ∈ Region.ready .any ops l, wpOpIn (FR ro) 0 P ops Q i (fun a' w' => ((l.setIfInBounds i true).getD z false = false → S w') ∧ AH ro P ops Q S z n (l.setIfInBounds i true) a' w') a w
theorem AH.any : ∀ (n : Nat) (l : Array Bool) (a : Act) (w : World), AH ro P ops Q S z n l a w → wpAnyIn (FR ro) 0 P .any ops Q n l a w
 | 0, _, _, _, h => h
 | n + 1, _, _, _, h => ⟨h.1, fun i hi => wpOpIn_mono (fun a' w' h' => AH.any n _ a' w' h'.2) (h.2 i hi)⟩
theorem AH.first {S₀ : World → Prop} {i : Nat} {oi : Oper} {v : Value} (hnd : noDefer ops = true) (hi : ops[i]? = some oi) (hsel : ∀ (j : Nat) (o : Oper) cs b, ops[j]? = some o → o.op ≠ .select cs b)
  (hQ : ∀ c a w, Q (.panic c) (a.put oi.dst v) w → Q (.panic c) a w) (hz : i ≠ z)
  (hS₀ : ∀ l w, Shut ops l → l.getD i true = false → (l.getD z false = false → S w) → S₀ w) :
  ∀ (n : Nat) (l : Array Bool) (a : Act) (w : World),
   (∀ j oj, ops[j]? = some oj → j ≠ i → l.getD j true = false → (∀ e ∈ oj.after, Region.binds .any e = true → e.on ≠ i) → oi.apart ops oj = true) →
   Shut ops l → i ∈ Region.ready .any ops l → YieldsIf P ops S₀ oi v a → (l.getD z false = false → S w) → AH ro P ops Q S z n (l.setIfInBounds i true) (a.put oi.dst v) w → AH ro P ops Q S z (n + 1) l a w := by
 intro n
 induction n with
 | zero =>
  intro l a w _ hsh hr hy hS H
  have hpend : l.getD i true = false := (mem_ready.1 hr).1
  refine ⟨fun h => (by rw [h] at hr; cases hr), fun j hj => ?_⟩
  by_cases hji : j = i
  ·subst hji; exact YieldsIf.wpOpIn hi (noDefer_at hnd hi) hy (hS₀ l w hsh hpend hS) ⟨fun h => hS (by rwa [getD_set_ne false hz] at h), H⟩
  ·have hm := ready_mono hj hji
   rw [H.1] at hm; cases hm
 | succ n ih =>
  intro l a w hfree hsh hr hy hS H
  have hpend : l.getD i true = false := (mem_ready.1 hr).1
  refine ⟨fun h => (by rw [h] at hr; cases hr), fun j hj => ?_⟩
  by_cases hji : j = i
  ·subst hji; exact YieldsIf.wpOpIn hi (noDefer_at hnd hi) hy (hS₀ l w hsh hpend hS) ⟨fun h => hS (by rwa [getD_set_ne false hz] at h), H⟩
  ·have h1 := H.2 j (ready_mono hj hji)
   obtain ⟨hjun, oj, hoj, hall⟩ := mem_ready.1 hj
   have hnot : ∀ e ∈ oj.after, Region.binds .any e = true → e.on ≠ i := fun e he hb heq => by
    have h2 := hall e he hb
    rw [heq, getD_both hpend] at h2; cases h2
   have h2 := wpOpIn_putIf hoj (noDefer_at hnd hoj) (hfree j oj hoj hji hjun hnot) (fun cs b => hsel i oi cs b hi) (fun cs b => hsel j oj cs b hoj) hQ hy h1
   refine wpOpIn_mono (fun a' w' h3 => ?_) h2
   obtain ⟨hy', hS', hA'⟩ := h3
   have hS'' : (l.setIfInBounds j true).getD z false = false → S w' := fun h => hS' (by rw [Array.setIfInBounds_comm _ _ (Ne.symm hji), getD_set_ne false hz]; exact h)
   refine ⟨hS'', ih (l.setIfInBounds j true) a' w' (fun k ok hk hki hun hno => hfree k ok hk hki ?_ hno) (hsh.set hj) (ready_mono hr (Ne.symm hji)) hy' hS'' ?_⟩
   ·by_cases hjk : j = k
    ·subst hjk; exact hjun
    ·rw [getD_set_ne true hjk] at hun; exact hun
   ·rw [Array.setIfInBounds_comm _ _ hji]; exact hA'
variable {N : Nat} {D : List Deferred} {E : Env} {w w' : World} {H : Nat → Array Bool → Env → World → Prop} {n : Nat} {l : Array Bool} {i : Nat} {o : Oper} {v : Value}
def HW (ro : Option Nat) (P : Program) (N : Nat) (D : List Deferred) (ops : Array Oper) (Q : Exit → Act → World → Prop) (S : World → Prop) (z : Nat) (n : Nat) (l : Array Bool) (E : Env) (w : World) : Prop :=
 ∀ a, Sat N D E a → Shut ops l → AH ro P ops (NP Q) S z n l a w
theorem CW.drawn {id : Nat} (S : World → Prop) (z : Nat) (hm : P.follows .mixedOrders = true) (h : ∀ H, H = HW ro P N D ops Q S z → H ops.size (Array.replicate ops.size false) E w.drew) :
  CW ro P N D (.region id ops true) Q E w := fun a ha =>
 wpIn_mono (wpIn_region_any hm (AH.any _ _ _ _ (h _ rfl a ha Shut.none))) fun e a w hq => by
  cases e with
  | normal => exact hq
  | _ => exact hq.elim
theorem HW.first {S₀ : World → Prop} (hH : H = HW ro P N D ops Q S z) (ho : ops[i]? = some o) (hc : chk ops z l i = true) (hd : okd N o.dst = true) (hS : l.getD z false = false → S w)
  (hS₀ : ∀ l w, Shut ops l → l.getD i true = false → (l.getD z false = false → S w) → S₀ w)
  (hy : ∀ a, Sat N D E a → YieldsIf P ops S₀ o v a) (k : H n (l.setIfInBounds i true) (putE o.dst v E) w) (hnd : noDefer ops = true := by kernel_rfl) : H (n + 1) l E w := by
 subst hH
 intro a ha hsh
 simp only [chk, Bool.and_eq_true] at hc
 have hr : i ∈ Region.ready .any ops l := by simpa using hc.2.2.1
 have hz : i ≠ z := fun e => by have := hc.2.2.2; subst e; simp at this
 exact AH.first hnd ho (Region.noSelect_spec hc.1) (fun _ _ _ h => h) hz hS₀ n l a w (Region.free_spec ho hc.2.1) hsh hr (hy a ha) hS (k _ (ha.put hd) (hsh.set hr))
theorem HW.take (hH : H = HW ro P N D ops Q S z) (ho : ops[i]? = some o) (hc : chk ops z l i = true) (hcr : chkR ops z i = true) (hw : Wants N ops E o) (hd : okd N o.dst = true) (hS : l.getD z false = false → S w)
  (hv : ∀ a, Sat N D E a → ∀ w, S w → (execOp a.eval o).run P w = .ok (.value v) w) (k : H n (l.setIfInBounds i true) (putE o.dst v E) w) (hnd : noDefer ops = true := by kernel_rfl) : H (n + 1) l E w :=
 HW.first hH ho hc hd hS (chkR_spec hcr) (fun a ha => .inl ⟨hw _ _ ha, hv a ha⟩) k hnd
theorem HW.pure (hH : H = HW ro P N D ops Q S z) (ho : ops[i]? = some o) (hc : chk ops z l i = true) (hw : Wants N ops E o) (hd : okd N o.dst = true) (hS : l.getD z false = false → S w)
  (hv : ∀ a, Sat N D E a → ∀ w, True → (execOp a.eval o).run P w = .ok (.value v) w) (k : H n (l.setIfInBounds i true) (putE o.dst v E) w) (hnd : noDefer ops = true := by kernel_rfl) : H (n + 1) l E w :=
 HW.first (S₀ := fun _ => True) hH ho hc hd hS (fun _ _ _ _ _ => trivial) (fun a ha => .inl ⟨hw _ _ ha, hv a ha⟩) k hnd
theorem HW.skip (hH : H = HW ro P N D ops Q S z) (ho : ops[i]? = some o) (hc : chk ops z l i = true) (hs : Skips N ops E o) (hd : okd N o.dst = true) (hS : l.getD z false = false → S w)
  (k : H n (l.setIfInBounds i true) (putE o.dst undef E) w) (hnd : noDefer ops = true := by kernel_rfl) : H (n + 1) l E w :=
 HW.first (S₀ := fun _ => True) hH ho hc hd hS (fun _ _ _ _ _ => trivial) (fun a ha => .inr ⟨hs _ _ ha, rfl⟩) k hnd
theorem HW.one (hH : H = HW ro P N D ops Q S z) (hr : Region.ready .any ops l = [i]) (ho : ops[i]? = some o) (hw : Wants N ops E o)
  (h : ∀ a, Sat N D E a → Shut ops l → o.wpIn (FR ro) 0 P a w (fun a' w' => ((l.setIfInBounds i true).getD z false = false → S w') ∧ AH ro P ops (NP Q) S z n (l.setIfInBounds i true) a' w') (NP Q)) : H (n + 1) l E w := by
 subst hH
 intro a ha hsh
 refine ⟨fun h0 => (by rw [hr] at h0; cases h0), fun j hj => ?_⟩
 rw [hr] at hj
 have hji : j = i := by simpa using hj
 subst hji
 unfold wpOpIn
 simp only [ho, hw _ _ ha, if_true]
 exact h a ha hsh
theorem HW.val (hH : H = HW ro P N D ops Q S z) (hr : Region.ready .any ops l = [i]) (ho : ops[i]? = some o) (hw : Wants N ops E o) (hd : okd N o.dst = true)
  (hv : ∀ a, Sat N D E a → (execOp a.eval o).run P w = .ok (.value v) w') (hS : (l.setIfInBounds i true).getD z false = false → S w') (k : H n (l.setIfInBounds i true) (putE o.dst v E) w') (hn : isDefer o = false := by rfl) : H (n + 1) l E w :=
 HW.one hH hr ho hw fun a ha hsh => by
  refine ⟨fun _ _ => trivial, ?_⟩
  rw [semAt_of hn, hv a ha, Oper.uponIn_value]
  rw [hH] at k; exact ⟨hS, k _ (ha.put hd) (hsh.set (by rw [hr]; simp))⟩
theorem HW.eff (hH : H = HW ro P N D ops Q S z) (hr : Region.ready .any ops l = [i]) (ho : ops[i]? = some o) (hw : Wants N ops E o) (hd : okd N o.dst = true)
  (hv : ∀ a, Sat N D E a → (execOp a.eval o).run P w = .ok .skip w') (hS : (l.setIfInBounds i true).getD z false = false → S w') (k : H n (l.setIfInBounds i true) (putE o.dst undef E) w') (hn : isDefer o = false := by rfl) : H (n + 1) l E w :=
 HW.one hH hr ho hw fun a ha hsh => by
  refine ⟨fun _ _ => trivial, ?_⟩
  rw [semAt_of hn, hv a ha, Oper.uponIn_skip]
  rw [hH] at k; exact ⟨hS, k _ (ha.put hd) (hsh.set (by rw [hr]; simp))⟩
theorem HW.call {f : Nat} {args : Array Value} {R : Ending → World → Prop} (hH : H = HW ro P N D ops Q S z) (hr : Region.ready .any ops l = [i]) (ho : ops[i]? = some o) (hw : Wants N ops E o) (hd : okd N o.dst = true)
  (hv : ∀ a, Sat N D E a → (execOp a.eval o).run P w = .ok (.enter f args) w') (hc : Calls P f args w' R)
  (k : ∀ e w'', R e w'' → ∃ v, e = .returned v ∧ ((l.setIfInBounds i true).getD z false = false → S w'') ∧ H n (l.setIfInBounds i true) (putE o.dst v E) w'') (hn : isDefer o = false := by rfl) : H (n + 1) l E w :=
 HW.one hH hr ho hw fun a ha hsh => by
  refine ⟨fun _ _ => trivial, ?_⟩
  rw [semAt_of hn, hv a ha, Oper.uponIn_enter]
  refine ⟨fun h => (by cases h), FR.callsIn (hc.mono fun e w'' hR => ?_)⟩
  obtain ⟨v, rfl, hS, hk⟩ := k e w'' hR
  rw [hH] at hk; exact ⟨hS, hk _ (ha.put hd) (hsh.set (by rw [hr]; simp))⟩
theorem HW.skip1 (hH : H = HW ro P N D ops Q S z) (hr : Region.ready .any ops l = [i]) (ho : ops[i]? = some o) (hs : Skips N ops E o) (hd : okd N o.dst = true) (hS : (l.setIfInBounds i true).getD z false = false → S w)
  (k : H n (l.setIfInBounds i true) (putE o.dst undef E) w) : H (n + 1) l E w := by
 subst hH
 intro a ha hsh
 refine ⟨fun h0 => (by rw [hr] at h0; cases h0), fun j hj => ?_⟩
 have hj' := hj
 rw [hr] at hj
 have hji : j = i := by simpa using hj
 subst hji
 unfold wpOpIn
 simp only [ho, hs _ _ ha, Bool.false_eq_true, if_false]
 exact ⟨fun _ _ => trivial, hS, k _ (ha.put hd) (hsh.set hj')⟩
theorem HW.callY {x : Operand} {args : Array Operand} {ts : Array TypeId} {d : Option Nat} {T : TypeId} {p : String} {af : Array Edge} {gd : Option (Nat × Bool)} {fv : Value} {vs : List Value} {R : Ending → World → Prop}
  (hH : H = HW ro P N D ops Q S z) (hr : Region.ready .any ops l = [i]) (ho : ops[i]? = some ⟨d, .call ⟨.value x, args, ts⟩, T, p, af, gd⟩) (hw : Wants N ops E ⟨d, .call ⟨.value x, args, ts⟩, T, p, af, gd⟩) (hd : okd N d = true)
  (hx : opd E x = some fv) (ha' : opdL E args.toList = some vs) (hc : CallsY P fv vs.toArray w R)
  (k : ∀ e w'', R e w'' → ∃ v, e = .returned v ∧ ((l.setIfInBounds i true).getD z false = false → S w'') ∧ H n (l.setIfInBounds i true) (putE d v E) w'') : H (n + 1) l E w := by
 rcases hc with ⟨f, cap, fn, rfl, h2, h3, h4, h5⟩ | ⟨lb, rfl, fn, tmps, as', bd, h2, h3⟩
 ·refine HW.one hH hr ho hw fun a ha hsh => ⟨fun _ _ => trivial, ?_⟩
  rw [semAt_of rfl, Cl.fv hx ha' h2 h3 h4 a ha, Oper.uponIn_enter]
  refine ⟨fun h => (by cases h), FR.callsIn (h5.mono fun e w'' hR => ?_)⟩
  obtain ⟨v, rfl, hS, hk⟩ := k e w'' hR
  rw [hH] at hk; exact ⟨hS, hk _ (ha.put hd) (hsh.set (by rw [hr]; simp))⟩
 ·refine HW.one hH hr ho hw fun a ha hsh => ⟨fun _ _ => trivial, ?_⟩
  have e1 : (execOp a.eval ⟨d, .call ⟨.value x, args, ts⟩, T, p, af, gd⟩).run P w = .ok (.round lb fn tmps as' bd) w := by
   have e2 : args.map a.eval = vs.toArray := opdL_map ha ha'
   simp [execOp, resolve, ha.eval hx, Deferred.ofValue, invoke, e2, h2]
  rw [semAt_of rfl, e1, Oper.uponIn_round]
  refine ⟨fun h => (by cases h), h3.mono fun e w'' hR => ?_⟩
  obtain ⟨v, rfl, hS, hk⟩ := k e w'' hR
  rw [hH] at hk; exact ⟨hS, hk _ (ha.put hd) (hsh.set (by rw [hr]; simp))⟩
def H1 (ro : Option Nat) (P : Program) (N : Nat) (D : List Deferred) (ops : Array Oper) (Q : Exit → Act → World → Prop) (S : World → Prop) (z : Nat) (n : Nat) (l : Array Bool) (i : Nat) (E : Env) (w : World) : Prop :=
 i ∈ Region.ready .any ops l → ∀ a, Sat N D E a → Shut ops l → wpOpIn (FR ro) 0 P ops (NP Q) i (fun a' w' => ((l.setIfInBounds i true).getD z false = false → S w') ∧ AH ro P ops (NP Q) S z n (l.setIfInBounds i true) a' w') a w
theorem HW.two {j : Nat} (hH : H = HW ro P N D ops Q S z) (hr : Region.ready .any ops l = [i, j]) (h1 : H1 ro P N D ops Q S z n l i E w) (h2 : H1 ro P N D ops Q S z n l j E w) : H (n + 1) l E w := by
 subst hH
 intro a ha hsh
 refine ⟨fun h0 => (by rw [hr] at h0; cases h0), fun k hk => ?_⟩
 have hk' := hk
 rw [hr] at hk
 rcases List.mem_cons.1 hk with rfl | hk
 ·exact h1 hk' a ha hsh
 ·have : k = j := by simpa using hk
  subst this
  exact h2 hk' a ha hsh
theorem H1.val (hH : H = HW ro P N D ops Q S z) (ho : ops[i]? = some o) (hw : Wants N ops E o) (hd : okd N o.dst = true)
  (hv : ∀ a, Sat N D E a → (execOp a.eval o).run P w = .ok (.value v) w') (hS : (l.setIfInBounds i true).getD z false = false → S w') (k : H n (l.setIfInBounds i true) (putE o.dst v E) w') (hn : isDefer o = false := by rfl) : H1 ro P N D ops Q S z n l i E w := by
 intro hr a ha hsh
 unfold wpOpIn
 simp only [ho, hw _ _ ha, if_true, Oper.wpIn]
 rw [semAt_of hn, hv a ha, Oper.uponIn_value]
 rw [hH] at k; exact ⟨fun _ _ => trivial, hS, k _ (ha.put hd) (hsh.set hr)⟩
theorem H1.call {f : Nat} {args : Array Value} {R : Ending → World → Prop} (hH : H = HW ro P N D ops Q S z) (ho : ops[i]? = some o) (hw : Wants N ops E o) (hd : okd N o.dst = true)
  (hv : ∀ a, Sat N D E a → (execOp a.eval o).run P w = .ok (.enter f args) w') (hc : Calls P f args w' R)
  (k : ∀ e w'', R e w'' → ∃ v, e = .returned v ∧ ((l.setIfInBounds i true).getD z false = false → S w'') ∧ H n (l.setIfInBounds i true) (putE o.dst v E) w'') (hn : isDefer o = false := by rfl) : H1 ro P N D ops Q S z n l i E w := by
 intro hr a ha hsh
 unfold wpOpIn
 simp only [ho, hw _ _ ha, if_true, Oper.wpIn]
 rw [semAt_of hn, hv a ha, Oper.uponIn_enter]
 refine ⟨fun _ _ => trivial, fun h => (by cases h), FR.callsIn (hc.mono fun e w'' hR => ?_)⟩
 obtain ⟨v, rfl, hS, hk⟩ := k e w'' hR
 rw [hH] at hk; exact ⟨hS, hk _ (ha.put hd) (hsh.set hr)⟩
theorem HW.done (hH : H = HW ro P N D ops Q S z) (hr : Region.ready .any ops l = []) (k : NW N D Q E w) : H n l E w := by
 subst hH
 intro a ha _
 cases n with
 | zero => exact ⟨hr, k a ha⟩
 | succ n => exact ⟨fun _ => k a ha, by rw [hr]; simp⟩
theorem HW.sub (hH : H = HW ro P N D ops Q S z) {F : Env} (s : Sub E F) (k : H n l E w) : H n l F w := by
 subst hH; exact fun a ha => k a (ha.sub s)
end
end Go.XR
end
section
namespace Go.Proofs.YtfcfkhbkkfpehaaGreat
open Go Go.X
/- pomander/flow.Same -/
def W_flow_Same (a1 : Option Addr) (b1 : Option Addr) (w : World) (R : Bool → World → Prop) : Prop :=
 Calls Tryz.prog 43 #[.pointer a1] w fun e w1 => ∃ (r2 : Bool), e = .returned (.bool r2) ∧ (∃ J1 : Bool → World → Prop, (∀ (b2 : Bool) (w2 : World), J1 b2 w2 → (b2 = true → Calls Tryz.prog 43 #[.pointer a1] w2 fun e w4 => ∃ (r4 : Bool), e = .returned (.bool r4) ∧ (∃ J2 : Bool → World → Prop, (∀ (b3 : Bool) (w5 : World), J2 b3 w5 → R b3 w5) ∧ ((r4 = true → Calls Tryz.prog 43 #[.pointer b1] w4 fun e w6 => ∃ (r5 : Bool), e = .returned (.bool r5) ∧ (J2 r5 w6)) ∧ (r4 = false → J2 false w4)))) ∧ (b2 = false → ∀ (w7 : World), Chg [] w2 w7 → (∃ a2 : Addr, a1 = some a2 ∧ (∃ (t1 : Int) (t2 : Int), CellsAt w7 a2 0 [.int .i64 t1, .int .i64 t2] ∧ (∃ a3 : Addr, b1 = some a3 ∧ (∃ (t3 : Int) (t4 : Int), CellsAt w7 a3 0 [.int .i64 t3, .int .i64 t4] ∧ (∃ (t5 : Option Addr), w7.cell? (a2.add 2) = some (.pointer t5) ∧ (∃ (t6 : Option Addr), w7.cell? (a3.add 2) = some (.pointer t6) ∧ (∃ J3 : Bool → World → Prop, (∀ (b4 : Bool) (w8 : World), J3 b4 w8 → ∃ J4 : Bool → World → Prop, (∀ (b5 : Bool) (w10 : World), J4 b5 w10 → R b5 w10) ∧ ((b4 = true → Calls Tryz.prog 55 #[.pointer a1] w8 fun e w11 => ∃ (r7 : Option Nat), e = .returned (.map r7) ∧ ((CellsAt w11 a2 0 [.int .i64 t1, .int .i64 t2] ∧ CellsAt w11 a3 0 [.int .i64 t3, .int .i64 t4] ∧ w11.cell? (a2.add 2) = some (.pointer t5) ∧ w11.cell? (a3.add 2) = some (.pointer t6)) ∧ (Calls Tryz.prog 55 #[.pointer b1] w11 fun e w12 => ∃ (r8 : Option Nat), e = .returned (.map r8) ∧ ((CellsAt w12 a2 0 [.int .i64 t1, .int .i64 t2] ∧ CellsAt w12 a3 0 [.int .i64 t3, .int .i64 t4] ∧ w12.cell? (a2.add 2) = some (.pointer t5) ∧ w12.cell? (a3.add 2) = some (.pointer t6)) ∧ (Calls Tryz.prog 54 #[.map r7, .map r8] w12 fun e w13 => ∃ (r9 : Bool), e = .returned (.bool r9) ∧ (J4 r9 w13)))))) ∧ (b4 = false → J4 false w8))) ∧ ((((t1 == t3) && (t2 == t4)) = true → Calls Tryz.prog 53 #[.pointer t5, .pointer t6] w7 fun e w9 => ∃ (r6 : Bool), e = .returned (.bool r6) ∧ ((CellsAt w9 a2 0 [.int .i64 t1, .int .i64 t2] ∧ CellsAt w9 a3 0 [.int .i64 t3, .int .i64 t4] ∧ w9.cell? (a2.add 2) = some (.pointer t5) ∧ w9.cell? (a3.add 2) = some (.pointer t6)) ∧ (J3 r6 w9))) ∧ (((t1 == t3) && (t2 == t4)) = false → J3 false w7))))))))))) ∧ ((r2 = false → Calls Tryz.prog 43 #[.pointer b1] w1 fun e w3 => ∃ (r3 : Bool), e = .returned (.bool r3) ∧ (J1 r3 w3)) ∧ (r2 = true → J1 true w1)))
set_option maxRecDepth 100000 in
theorem go_flow_Same (a1 : Option Addr) (b1 : Option Addr) (w : World) (R : Bool → World → Prop) (h : W_flow_Same a1 b1 w R) : Calls Tryz.prog 23 #[.pointer a1, .pointer b1] w (fun e w' => ∃ (r1 : Bool), e = .returned (.bool r1) ∧ R r1 w') := by
 unfold W_flow_Same at h
 refine enter (N := 44) Tryz.func23 rfl rfl ?_
 refine CW.seq ?_
 refine CW.region fun L hL => ?_
 refine LW.rd hL rfl (Wants.free rfl) rfl (Rd.assign (v := .bool false) rfl) ?_
 refine LW.nil hL rfl ?_
 refine NW.then ?_
 refine CW.seq ?_
 refine CW.seq ?_
 refine CW.region fun L hL => ?_
 refine LW.rd hL rfl (Wants.free rfl) rfl (Rd.move (v := .pointer a1) rfl) ?_
 refine LW.call hL rfl (Wants.free rfl) rfl (Cl.fn (f := 43) rfl Tryz.func43 (by kernel_rfl) rfl) h (fun e w1 h_ => ?_)
 clear h
 obtain ⟨r2, rfl, h⟩ := h_
 refine ⟨_, rfl, ?_⟩
 refine LW.rd hL rfl (Wants.free rfl) rfl (Rd.move (v := .bool r2) rfl) ?_
 obtain ⟨J1, hJ1, h1_J1, h0_J1⟩ := h
 suffices K1 : ∀ (b2 : Bool) (w2 : World), J1 b2 w2 → L 6 [(0, .pointer a1), (1, .pointer b1), (4, .bool false), (10, .bool b2)] w2 by
  rcases Bool.eq_false_or_eq_true r2 with hb1 | hb1
  ·have h := h0_J1 hb1
   refine LW.skip hL rfl (Skips.on rfl rfl rfl rfl rfl hb1) rfl ?_
   refine LW.skip hL rfl (Skips.on rfl rfl rfl rfl rfl hb1) rfl ?_
   refine LW.rd hL rfl (Wants.free rfl) rfl (Rd.pickT rfl hb1 rfl) ?_
   exact LW.sub hL (by exact ⟨rfl, rfl, rfl, rfl, trivial⟩) (K1 true w1 h)
  ·have h := h1_J1 hb1
   refine LW.rd hL rfl (Wants.on rfl rfl rfl rfl rfl hb1) rfl (Rd.move (v := .pointer b1) rfl) ?_
   refine LW.call hL rfl (Wants.on rfl rfl rfl rfl rfl hb1) rfl (Cl.fn (f := 43) rfl Tryz.func43 (by kernel_rfl) rfl) h (fun e w3 h_ => ?_)
   clear h
   obtain ⟨r3, rfl, h⟩ := h_
   refine ⟨_, rfl, ?_⟩
   refine LW.rd hL rfl (Wants.free rfl) rfl (Rd.pickF rfl hb1 rfl) ?_
   exact LW.sub hL (by exact ⟨rfl, rfl, rfl, rfl, trivial⟩) (K1 r3 w3 h)
 intro b2 w2 h_
 have h := hJ1 b2 w2 h_; clear h_
 refine LW.nil hL rfl ?_
 refine NW.then ?_
 refine CW.cond rfl (fun hb2 => ?_) (fun hb2 => ?_)
 ·replace h := h.1 hb2
  refine CW.seq ?_
  refine CW.region fun L hL => ?_
  refine LW.rd hL rfl (Wants.free rfl) rfl (Rd.move (v := .pointer a1) rfl) ?_
  refine LW.call hL rfl (Wants.free rfl) rfl (Cl.fn (f := 43) rfl Tryz.func43 (by kernel_rfl) rfl) h (fun e w4 h_ => ?_)
  clear h
  obtain ⟨r4, rfl, h⟩ := h_
  refine ⟨_, rfl, ?_⟩
  refine LW.rd hL rfl (Wants.free rfl) rfl (Rd.move (v := .bool r4) rfl) ?_
  obtain ⟨J2, hJ2, h1_J2, h0_J2⟩ := h
  suffices K2 : ∀ (b3 : Bool) (w5 : World), J2 b3 w5 → L 6 [(0, .pointer a1), (1, .pointer b1), (4, .bool false), (16, .bool b3)] w5 by
   rcases Bool.eq_false_or_eq_true r4 with hb3 | hb3
   ·have h := h1_J2 hb3
    refine LW.rd hL rfl (Wants.on rfl rfl rfl rfl rfl hb3) rfl (Rd.move (v := .pointer b1) rfl) ?_
    refine LW.call hL rfl (Wants.on rfl rfl rfl rfl rfl hb3) rfl (Cl.fn (f := 43) rfl Tryz.func43 (by kernel_rfl) rfl) h (fun e w6 h_ => ?_)
    clear h
    obtain ⟨r5, rfl, h⟩ := h_
    refine ⟨_, rfl, ?_⟩
    refine LW.rd hL rfl (Wants.free rfl) rfl (Rd.pickT rfl hb3 rfl) ?_
    exact LW.sub hL (by exact ⟨rfl, rfl, rfl, rfl, trivial⟩) (K2 r5 w6 h)
   ·have h := h0_J2 hb3
    refine LW.skip hL rfl (Skips.on rfl rfl rfl rfl rfl hb3) rfl ?_
    refine LW.skip hL rfl (Skips.on rfl rfl rfl rfl rfl hb3) rfl ?_
    refine LW.rd hL rfl (Wants.free rfl) rfl (Rd.pickF rfl hb3 rfl) ?_
    exact LW.sub hL (by exact ⟨rfl, rfl, rfl, rfl, trivial⟩) (K2 false w4 h)
  intro b3 w5 h_
  have h := hJ2 b3 w5 h_; clear h_
  refine LW.rd hL rfl (Wants.free rfl) rfl (Rd.assign (v := .bool b3) rfl) ?_
  refine LW.nil hL rfl ?_
  refine NW.then ?_
  refine CW.ret ?_
  refine RW.then ?_
  exact res1 rfl rfl ⟨b3, rfl, h⟩
 ·replace h := h.2 hb2
  refine CW.skip ?_
  refine NW.then ?_
  refine CW.seq ?_
  obtain ⟨w7, hw_w7⟩ : ∃ x, x = World.drew w2 := ⟨_, rfl⟩
  have hc_w7 := sil_drew (Chg.refl [] w2) hw_w7
  replace h := h  w7  hc_w7
  obtain ⟨a2, ha1, h⟩ := h
  obtain ⟨t1, t2, hc1, h⟩ := h
  obtain ⟨a3, ha2, h⟩ := h
  obtain ⟨t3, t4, hc2, h⟩ := h
  obtain ⟨t5, hc3, h⟩ := h
  obtain ⟨t6, hc4, h⟩ := h
  refine CW.drawn (fun w => CellsAt w a2 0 [.int .i64 t1, .int .i64 t2] ∧ CellsAt w a3 0 [.int .i64 t3, .int .i64 t4] ∧ w.cell? (a2.add 2) = some (.pointer t5) ∧ w.cell? (a3.add 2) = some (.pointer t6) ∧ True) 25 (by kernel_rfl) fun H hH => ?_
  rw [← hw_w7]
  have hS1 : CellsAt w7 a2 0 [.int .i64 t1, .int .i64 t2] ∧ CellsAt w7 a3 0 [.int .i64 t3, .int .i64 t4] ∧ w7.cell? (a2.add 2) = some (.pointer t5) ∧ w7.cell? (a3.add 2) = some (.pointer t6) ∧ True := ⟨hc1, hc2, hc3, hc4, trivial⟩
  refine HW.pure (i := 0) hH rfl (by kernel_rfl) (Wants.free rfl) rfl (fun _ => hS1) (Rd.move (v := .pointer a1) rfl) ?_
  refine HW.pure (i := 1) hH rfl (by kernel_rfl) (Wants.free rfl) rfl (fun _ => hS1) (Rd.nil (q := a2) (by rw [← ha1]; rfl)) ?_
  refine HW.pure (i := 2) hH rfl (by kernel_rfl) (Wants.free rfl) rfl (fun _ => hS1) (Rd.fa (v := .pointer (some a2)) rfl (fun _ => by kernel_rfl)) ?_
  refine HW.take (i := 3) hH rfl (by kernel_rfl) (by kernel_rfl) (Wants.free rfl) rfl (fun _ => hS1) (Rd.ldN (cs := [.int .i64 t1, .int .i64 t2]) rfl (by kernel_rfl) (by kernel_rfl) (fun w h => cellsAt_get h.1)) ?_
  refine HW.pure (i := 4) hH rfl (by kernel_rfl) (Wants.free rfl) rfl (fun _ => hS1) (Rd.move (v := .pointer b1) rfl) ?_
  refine HW.pure (i := 5) hH rfl (by kernel_rfl) (Wants.free rfl) rfl (fun _ => hS1) (Rd.nil (q := a3) (by rw [← ha2]; rfl)) ?_
  refine HW.pure (i := 6) hH rfl (by kernel_rfl) (Wants.free rfl) rfl (fun _ => hS1) (Rd.fa (v := .pointer (some a3)) rfl (fun _ => by kernel_rfl)) ?_
  refine HW.take (i := 7) hH rfl (by kernel_rfl) (by kernel_rfl) (Wants.free rfl) rfl (fun _ => hS1) (Rd.ldN (cs := [.int .i64 t3, .int .i64 t4]) rfl (by kernel_rfl) (by kernel_rfl) (fun w h => cellsAt_get h.2.1)) ?_
  refine HW.pure (i := 8) hH rfl (by kernel_rfl) (Wants.free rfl) rfl (fun _ => hS1) (Rd.bin (v := .bool ((t1 == t3) && (t2 == t4))) rfl rfl (fun w => eqS_37 _ _ _ _ w)) ?_
  refine HW.pure (i := 9) hH rfl (by kernel_rfl) (Wants.free rfl) rfl (fun _ => hS1) (Rd.move (v := .bool ((t1 == t3) && (t2 == t4))) rfl) ?_
  obtain ⟨J3, hJ3, h1_J3, h0_J3⟩ := h
  suffices K3 : ∀ (b4 : Bool) (w8 : World), (CellsAt w8 a2 0 [.int .i64 t1, .int .i64 t2] ∧ CellsAt w8 a3 0 [.int .i64 t3, .int .i64 t4] ∧ w8.cell? (a2.add 2) = some (.pointer t5) ∧ w8.cell? (a3.add 2) = some (.pointer t6) ∧ True) → J3 b4 w8 → H 8 #[true, true, true, true, true, true, true, true, true, true, true, true, true, true, true, true, true, true, true, true, false, false, false, false, false, false, false, false] [(0, .pointer a1), (1, .pointer b1), (4, .bool false), (36, .bool b4)] w8 by
   rcases Bool.eq_false_or_eq_true ((t1 == t3) && (t2 == t4)) with hb4 | hb4
   ·have h := h1_J3 hb4
    refine HW.pure (i := 10) hH rfl (by kernel_rfl) (Wants.on rfl rfl rfl rfl rfl hb4) rfl (fun _ => hS1) (Rd.move (v := .pointer a1) rfl) ?_
    refine HW.pure (i := 11) hH rfl (by kernel_rfl) (Wants.on rfl rfl rfl rfl rfl hb4) rfl (fun _ => hS1) (Rd.nil (q := a2) (by rw [← ha1]; rfl)) ?_
    refine HW.pure (i := 12) hH rfl (by kernel_rfl) (Wants.on rfl rfl rfl rfl rfl hb4) rfl (fun _ => hS1) (Rd.fa (v := .pointer (some (a2.add 2))) rfl (fun _ => by kernel_rfl)) ?_
    refine HW.take (i := 13) hH rfl (by kernel_rfl) (by kernel_rfl) (Wants.on rfl rfl rfl rfl rfl hb4) rfl (fun _ => hS1) (Rd.ld (v := .pointer t5) rfl (by kernel_rfl) (fun w h => h.2.2.1)) ?_
    refine HW.pure (i := 14) hH rfl (by kernel_rfl) (Wants.on rfl rfl rfl rfl rfl hb4) rfl (fun _ => hS1) (Rd.move (v := .pointer b1) rfl) ?_
    refine HW.pure (i := 15) hH rfl (by kernel_rfl) (Wants.on rfl rfl rfl rfl rfl hb4) rfl (fun _ => hS1) (Rd.nil (q := a3) (by rw [← ha2]; rfl)) ?_
    refine HW.pure (i := 16) hH rfl (by kernel_rfl) (Wants.on rfl rfl rfl rfl rfl hb4) rfl (fun _ => hS1) (Rd.fa (v := .pointer (some (a3.add 2))) rfl (fun _ => by kernel_rfl)) ?_
    refine HW.take (i := 17) hH rfl (by kernel_rfl) (by kernel_rfl) (Wants.on rfl rfl rfl rfl rfl hb4) rfl (fun _ => hS1) (Rd.ld (v := .pointer t6) rfl (by kernel_rfl) (fun w h => h.2.2.2.1)) ?_
    refine HW.call (i := 18) hH (by kernel_rfl) rfl (Wants.on rfl rfl rfl rfl rfl hb4) rfl (Cl.fn (f := 53) rfl Tryz.func53 (by kernel_rfl) rfl) h (fun e w9 h_ => ?_)
    clear h
    obtain ⟨r6, rfl, hS2, h⟩ := h_
    have hS3 := (⟨hS2.1, hS2.2.1, hS2.2.2.1, hS2.2.2.2, trivial⟩ : CellsAt w9 a2 0 [.int .i64 t1, .int .i64 t2] ∧ CellsAt w9 a3 0 [.int .i64 t3, .int .i64 t4] ∧ w9.cell? (a2.add 2) = some (.pointer t5) ∧ w9.cell? (a3.add 2) = some (.pointer t6) ∧ True)
    refine ⟨_, rfl, (fun _ => hS3), ?_⟩
    refine HW.pure (i := 19) hH rfl (by kernel_rfl) (Wants.free rfl) rfl (fun _ => hS3) (Rd.pickT rfl hb4 rfl) ?_
    exact HW.sub hH (by exact ⟨rfl, rfl, rfl, rfl, trivial⟩) (K3 r6 w9 hS3 h)
   ·have h := h0_J3 hb4
    refine HW.skip (i := 10) hH rfl (by kernel_rfl) (Skips.on rfl rfl rfl rfl rfl hb4) rfl (fun _ => hS1) ?_
    refine HW.skip (i := 11) hH rfl (by kernel_rfl) (Skips.on rfl rfl rfl rfl rfl hb4) rfl (fun _ => hS1) ?_
    refine HW.skip (i := 12) hH rfl (by kernel_rfl) (Skips.on rfl rfl rfl rfl rfl hb4) rfl (fun _ => hS1) ?_
    refine HW.skip (i := 13) hH rfl (by kernel_rfl) (Skips.on rfl rfl rfl rfl rfl hb4) rfl (fun _ => hS1) ?_
    refine HW.skip (i := 14) hH rfl (by kernel_rfl) (Skips.on rfl rfl rfl rfl rfl hb4) rfl (fun _ => hS1) ?_
    refine HW.skip (i := 15) hH rfl (by kernel_rfl) (Skips.on rfl rfl rfl rfl rfl hb4) rfl (fun _ => hS1) ?_
    refine HW.skip (i := 16) hH rfl (by kernel_rfl) (Skips.on rfl rfl rfl rfl rfl hb4) rfl (fun _ => hS1) ?_
    refine HW.skip (i := 17) hH rfl (by kernel_rfl) (Skips.on rfl rfl rfl rfl rfl hb4) rfl (fun _ => hS1) ?_
    refine HW.skip (i := 18) hH rfl (by kernel_rfl) (Skips.on rfl rfl rfl rfl rfl hb4) rfl (fun _ => hS1) ?_
    refine HW.pure (i := 19) hH rfl (by kernel_rfl) (Wants.free rfl) rfl (fun _ => hS1) (Rd.pickF rfl hb4 rfl) ?_
    exact HW.sub hH (by exact ⟨rfl, rfl, rfl, rfl, trivial⟩) (K3 false w7 hS1 h)
  intro b4 w8 hS4 h_
  have h := hJ3 b4 w8 h_; clear h_
  refine HW.pure (i := 20) hH rfl (by kernel_rfl) (Wants.free rfl) rfl (fun _ => hS4) (Rd.move (v := .bool b4) rfl) ?_
  obtain ⟨J4, hJ4, h1_J4, h0_J4⟩ := h
  suffices K4 : ∀ (b5 : Bool) (w10 : World), J4 b5 w10 → H 1 #[true, true, true, true, true, true, true, true, true, true, true, true, true, true, true, true, true, true, true, true, true, true, true, true, true, true, true, false] [(4, .bool false), (43, .bool b5)] w10 by
   rcases Bool.eq_false_or_eq_true b4 with hb5 | hb5
   ·have h := h1_J4 hb5
    refine HW.pure (i := 21) hH rfl (by kernel_rfl) (Wants.on rfl rfl rfl rfl rfl hb5) rfl (fun _ => hS4) (Rd.move (v := .pointer a1) rfl) ?_
    refine HW.pure (i := 23) hH rfl (by kernel_rfl) (Wants.on rfl rfl rfl rfl rfl hb5) rfl (fun _ => hS4) (Rd.move (v := .pointer b1) rfl) ?_
    refine HW.call (i := 22) hH (by kernel_rfl) rfl (Wants.on rfl rfl rfl rfl rfl hb5) rfl (Cl.fn (f := 55) rfl Tryz.func55 (by kernel_rfl) rfl) h (fun e w11 h_ => ?_)
    clear h
    obtain ⟨r7, rfl, hS5, h⟩ := h_
    have hS6 := (⟨hS5.1, hS5.2.1, hS5.2.2.1, hS5.2.2.2, trivial⟩ : CellsAt w11 a2 0 [.int .i64 t1, .int .i64 t2] ∧ CellsAt w11 a3 0 [.int .i64 t3, .int .i64 t4] ∧ w11.cell? (a2.add 2) = some (.pointer t5) ∧ w11.cell? (a3.add 2) = some (.pointer t6) ∧ True)
    refine ⟨_, rfl, (fun _ => hS6), ?_⟩
    refine HW.call (i := 24) hH (by kernel_rfl) rfl (Wants.on rfl rfl rfl rfl rfl hb5) rfl (Cl.fn (f := 55) rfl Tryz.func55 (by kernel_rfl) rfl) h (fun e w12 h_ => ?_)
    clear h
    obtain ⟨r8, rfl, hS7, h⟩ := h_
    have hS8 := (⟨hS7.1, hS7.2.1, hS7.2.2.1, hS7.2.2.2, trivial⟩ : CellsAt w12 a2 0 [.int .i64 t1, .int .i64 t2] ∧ CellsAt w12 a3 0 [.int .i64 t3, .int .i64 t4] ∧ w12.cell? (a2.add 2) = some (.pointer t5) ∧ w12.cell? (a3.add 2) = some (.pointer t6) ∧ True)
    refine ⟨_, rfl, (fun _ => hS8), ?_⟩
    refine HW.call (i := 25) hH (by kernel_rfl) rfl (Wants.on rfl rfl rfl rfl rfl hb5) rfl (Cl.fn (f := 54) rfl Tryz.func54 (by kernel_rfl) rfl) h (fun e w13 h_ => ?_)
    clear h
    obtain ⟨r9, rfl, h⟩ := h_
    refine ⟨_, rfl, (fun hc => by cases hc), ?_⟩
    refine HW.pure (i := 26) hH rfl (by kernel_rfl) (Wants.free rfl) rfl (fun hc => by cases hc) (Rd.pickT rfl hb5 rfl) ?_
    exact HW.sub hH (by exact ⟨rfl, rfl, trivial⟩) (K4 r9 w13 h)
   ·have h := h0_J4 hb5
    refine HW.skip (i := 21) hH rfl (by kernel_rfl) (Skips.on rfl rfl rfl rfl rfl hb5) rfl (fun _ => hS4) ?_
    refine HW.skip (i := 22) hH rfl (by kernel_rfl) (Skips.on rfl rfl rfl rfl rfl hb5) rfl (fun _ => hS4) ?_
    refine HW.skip (i := 23) hH rfl (by kernel_rfl) (Skips.on rfl rfl rfl rfl rfl hb5) rfl (fun _ => hS4) ?_
    refine HW.skip (i := 24) hH rfl (by kernel_rfl) (Skips.on rfl rfl rfl rfl rfl hb5) rfl (fun _ => hS4) ?_
    refine HW.skip1 (i := 25) hH (by kernel_rfl) rfl (Skips.on rfl rfl rfl rfl rfl hb5) rfl (fun hc => by cases hc) ?_
    refine HW.pure (i := 26) hH rfl (by kernel_rfl) (Wants.free rfl) rfl (fun hc => by cases hc) (Rd.pickF rfl hb5 rfl) ?_
    exact HW.sub hH (by exact ⟨rfl, rfl, trivial⟩) (K4 false w8 h)
  intro b5 w10 h_
  have h := hJ4 b5 w10 h_; clear h_
  refine HW.pure (i := 27) hH rfl (by kernel_rfl) (Wants.free rfl) rfl (fun hc => by cases hc) (Rd.assign (v := .bool b5) rfl) ?_
  refine HW.done hH (by kernel_rfl) ?_
  refine NW.then ?_
  refine CW.ret ?_
  exact res1 rfl rfl ⟨b5, rfl, h⟩
end Go.Proofs.YtfcfkhbkkfpehaaGreat
end
section
namespace Go.Proofs.YtfcfkhbkkfpehaaGreat
open Go Go.X
/- pomander/labels.Same -/
def W_labels_Same (a1 : Option Addr) (b1 : Option Addr) (w : World) (R : Bool → World → Prop) : Prop :=
 Calls Tryz.prog 77 #[.pointer a1] w fun e w1 => ∃ (r2 : Bool), e = .returned (.bool r2) ∧ (∃ J1 : Bool → World → Prop, (∀ (b2 : Bool) (w2 : World), J1 b2 w2 → (b2 = true → Calls Tryz.prog 77 #[.pointer a1] w2 fun e w4 => ∃ (r4 : Bool), e = .returned (.bool r4) ∧ (∃ J2 : Bool → World → Prop, (∀ (b3 : Bool) (w5 : World), J2 b3 w5 → R b3 w5) ∧ ((r4 = true → Calls Tryz.prog 77 #[.pointer b1] w4 fun e w6 => ∃ (r5 : Bool), e = .returned (.bool r5) ∧ (J2 r5 w6)) ∧ (r4 = false → J2 false w4)))) ∧ (b2 = false → ∃ a2 : Addr, a1 = some a2 ∧ (∀ (w7 : World), Chg [] w2 w7 → (∃ (t1 : Int), w7.cell? a2 = some (.int .i64 t1) ∧ (∃ a3 : Addr, b1 = some a3 ∧ (∃ (t2 : Int), w7.cell? a3 = some (.int .i64 t2) ∧ (∃ J3 : Bool → World → Prop, (∀ (b4 : Bool) (w8 : World), J3 b4 w8 → R b4 w8) ∧ (((t1 == t2) = true → ∃ (t3 : Option Addr) (t3n : Nat) (t3c : Nat), w7.cell? (a2.add 1) = some (.slice t3 t3n t3c) ∧ (∃ (t4 : Option Addr) (t4n : Nat) (t4c : Nat), w7.cell? (a3.add 1) = some (.slice t4 t4n t4c) ∧ (Calls Tryz.prog 87 #[.slice t3 t3n t3c, .slice t4 t4n t4c] w7 fun e w9 => ∃ (r6 : Bool), e = .returned (.bool r6) ∧ (J3 r6 w9)))) ∧ ((t1 == t2) = false → J3 false w7))))))))) ∧ ((r2 = false → Calls Tryz.prog 77 #[.pointer b1] w1 fun e w3 => ∃ (r3 : Bool), e = .returned (.bool r3) ∧ (J1 r3 w3)) ∧ (r2 = true → J1 true w1)))
set_option maxRecDepth 100000 in
theorem go_labels_Same (a1 : Option Addr) (b1 : Option Addr) (w : World) (R : Bool → World → Prop) (h : W_labels_Same a1 b1 w R) : Calls Tryz.prog 53 #[.pointer a1, .pointer b1] w (fun e w' => ∃ (r1 : Bool), e = .returned (.bool r1) ∧ R r1 w') := by
 unfold W_labels_Same at h
 refine enter (N := 37) Tryz.func53 rfl rfl ?_
 refine CW.seq ?_
 refine CW.region fun L hL => ?_
 refine LW.rd hL rfl (Wants.free rfl) rfl (Rd.assign (v := .bool false) rfl) ?_
 refine LW.nil hL rfl ?_
 refine NW.then ?_
 refine CW.seq ?_
 refine CW.seq ?_
 refine CW.region fun L hL => ?_
 refine LW.rd hL rfl (Wants.free rfl) rfl (Rd.move (v := .pointer a1) rfl) ?_
 refine LW.call hL rfl (Wants.free rfl) rfl (Cl.fn (f := 77) rfl Tryz.func77 (by kernel_rfl) rfl) h (fun e w1 h_ => ?_)
 clear h
 obtain ⟨r2, rfl, h⟩ := h_
 refine ⟨_, rfl, ?_⟩
 refine LW.rd hL rfl (Wants.free rfl) rfl (Rd.move (v := .bool r2) rfl) ?_
 obtain ⟨J1, hJ1, h1_J1, h0_J1⟩ := h
 suffices K1 : ∀ (b2 : Bool) (w2 : World), J1 b2 w2 → L 6 [(0, .pointer a1), (1, .pointer b1), (4, .bool false), (10, .bool b2)] w2 by
  rcases Bool.eq_false_or_eq_true r2 with hb1 | hb1
  ·have h := h0_J1 hb1
   refine LW.skip hL rfl (Skips.on rfl rfl rfl rfl rfl hb1) rfl ?_
   refine LW.skip hL rfl (Skips.on rfl rfl rfl rfl rfl hb1) rfl ?_
   refine LW.rd hL rfl (Wants.free rfl) rfl (Rd.pickT rfl hb1 rfl) ?_
   exact LW.sub hL (by exact ⟨rfl, rfl, rfl, rfl, trivial⟩) (K1 true w1 h)
  ·have h := h1_J1 hb1
   refine LW.rd hL rfl (Wants.on rfl rfl rfl rfl rfl hb1) rfl (Rd.move (v := .pointer b1) rfl) ?_
   refine LW.call hL rfl (Wants.on rfl rfl rfl rfl rfl hb1) rfl (Cl.fn (f := 77) rfl Tryz.func77 (by kernel_rfl) rfl) h (fun e w3 h_ => ?_)
   clear h
   obtain ⟨r3, rfl, h⟩ := h_
   refine ⟨_, rfl, ?_⟩
   refine LW.rd hL rfl (Wants.free rfl) rfl (Rd.pickF rfl hb1 rfl) ?_
   exact LW.sub hL (by exact ⟨rfl, rfl, rfl, rfl, trivial⟩) (K1 r3 w3 h)
 intro b2 w2 h_
 have h := hJ1 b2 w2 h_; clear h_
 refine LW.nil hL rfl ?_
 refine NW.then ?_
 refine CW.cond rfl (fun hb2 => ?_) (fun hb2 => ?_)
 ·replace h := h.1 hb2
  refine CW.seq ?_
  refine CW.region fun L hL => ?_
  refine LW.rd hL rfl (Wants.free rfl) rfl (Rd.move (v := .pointer a1) rfl) ?_
  refine LW.call hL rfl (Wants.free rfl) rfl (Cl.fn (f := 77) rfl Tryz.func77 (by kernel_rfl) rfl) h (fun e w4 h_ => ?_)
  clear h
  obtain ⟨r4, rfl, h⟩ := h_
  refine ⟨_, rfl, ?_⟩
  refine LW.rd hL rfl (Wants.free rfl) rfl (Rd.move (v := .bool r4) rfl) ?_
  obtain ⟨J2, hJ2, h1_J2, h0_J2⟩ := h
  suffices K2 : ∀ (b3 : Bool) (w5 : World), J2 b3 w5 → L 6 [(0, .pointer a1), (1, .pointer b1), (4, .bool false), (16, .bool b3)] w5 by
   rcases Bool.eq_false_or_eq_true r4 with hb3 | hb3
   ·have h := h1_J2 hb3
    refine LW.rd hL rfl (Wants.on rfl rfl rfl rfl rfl hb3) rfl (Rd.move (v := .pointer b1) rfl) ?_
    refine LW.call hL rfl (Wants.on rfl rfl rfl rfl rfl hb3) rfl (Cl.fn (f := 77) rfl Tryz.func77 (by kernel_rfl) rfl) h (fun e w6 h_ => ?_)
    clear h
    obtain ⟨r5, rfl, h⟩ := h_
    refine ⟨_, rfl, ?_⟩
    refine LW.rd hL rfl (Wants.free rfl) rfl (Rd.pickT rfl hb3 rfl) ?_
    exact LW.sub hL (by exact ⟨rfl, rfl, rfl, rfl, trivial⟩) (K2 r5 w6 h)
   ·have h := h0_J2 hb3
    refine LW.skip hL rfl (Skips.on rfl rfl rfl rfl rfl hb3) rfl ?_
    refine LW.skip hL rfl (Skips.on rfl rfl rfl rfl rfl hb3) rfl ?_
    refine LW.rd hL rfl (Wants.free rfl) rfl (Rd.pickF rfl hb3 rfl) ?_
    exact LW.sub hL (by exact ⟨rfl, rfl, rfl, rfl, trivial⟩) (K2 false w4 h)
  intro b3 w5 h_
  have h := hJ2 b3 w5 h_; clear h_
  refine LW.rd hL rfl (Wants.free rfl) rfl (Rd.assign (v := .bool b3) rfl) ?_
  refine LW.nil hL rfl ?_
  refine NW.then ?_
  refine CW.ret ?_
  refine RW.then ?_
  exact res1 rfl rfl ⟨b3, rfl, h⟩
 ·replace h := h.2 hb2
  refine CW.skip ?_
  refine NW.then ?_
  refine CW.seq ?_
  obtain ⟨w7, hw_w7⟩ : ∃ x, x = World.drew w2 := ⟨_, rfl⟩
  have hc_w7 := sil_drew (Chg.refl [] w2) hw_w7
  refine CW.drawn (fun w => w = w7) 18 (by kernel_rfl) fun H hH => ?_
  rw [← hw_w7]
  refine HW.pure (i := 0) hH rfl (by kernel_rfl) (Wants.free rfl) rfl (fun _ => rfl) (Rd.move (v := .pointer a1) rfl) ?_
  obtain ⟨a2, ha1, h⟩ := h
  refine HW.pure (i := 1) hH rfl (by kernel_rfl) (Wants.free rfl) rfl (fun _ => rfl) (Rd.nil (q := a2) (by rw [← ha1]; rfl)) ?_
  refine HW.pure (i := 2) hH rfl (by kernel_rfl) (Wants.free rfl) rfl (fun _ => rfl) (Rd.fa (v := .pointer (some a2)) rfl (fun _ => by kernel_rfl)) ?_
  replace h := h  w7  hc_w7
  obtain ⟨t1, hc1, h⟩ := h
  refine HW.take (i := 3) hH rfl (by kernel_rfl) (by kernel_rfl) (Wants.free rfl) rfl (fun _ => rfl) (Rd.ld (v := .int .i64 t1) rfl (by kernel_rfl) (eqs hc1)) ?_
  refine HW.pure (i := 4) hH rfl (by kernel_rfl) (Wants.free rfl) rfl (fun _ => rfl) (Rd.move (v := .pointer b1) rfl) ?_
  obtain ⟨a3, ha2, h⟩ := h
  refine HW.pure (i := 5) hH rfl (by kernel_rfl) (Wants.free rfl) rfl (fun _ => rfl) (Rd.nil (q := a3) (by rw [← ha2]; rfl)) ?_
  refine HW.pure (i := 6) hH rfl (by kernel_rfl) (Wants.free rfl) rfl (fun _ => rfl) (Rd.fa (v := .pointer (some a3)) rfl (fun _ => by kernel_rfl)) ?_
  obtain ⟨t2, hc2, h⟩ := h
  refine HW.take (i := 7) hH rfl (by kernel_rfl) (by kernel_rfl) (Wants.free rfl) rfl (fun _ => rfl) (Rd.ld (v := .int .i64 t2) rfl (by kernel_rfl) (eqs hc2)) ?_
  refine HW.pure (i := 8) hH rfl (by kernel_rfl) (Wants.free rfl) rfl (fun _ => rfl) (Rd.bin (v := .bool (t1 == t2)) rfl rfl (fun w => by kernel_rfl)) ?_
  refine HW.pure (i := 9) hH rfl (by kernel_rfl) (Wants.free rfl) rfl (fun _ => rfl) (Rd.move (v := .bool (t1 == t2)) rfl) ?_
  obtain ⟨J3, hJ3, h1_J3, h0_J3⟩ := h
  suffices K3 : ∀ (b4 : Bool) (w8 : World), J3 b4 w8 → H 1 #[true, true, true, true, true, true, true, true, true, true, true, true, true, true, true, true, true, true, true, true, false] [(4, .bool false), (36, .bool b4)] w8 by
   rcases Bool.eq_false_or_eq_true (t1 == t2) with hb4 | hb4
   ·have h := h1_J3 hb4
    refine HW.pure (i := 10) hH rfl (by kernel_rfl) (Wants.on rfl rfl rfl rfl rfl hb4) rfl (fun _ => rfl) (Rd.move (v := .pointer a1) rfl) ?_
    refine HW.pure (i := 11) hH rfl (by kernel_rfl) (Wants.on rfl rfl rfl rfl rfl hb4) rfl (fun _ => rfl) (Rd.nil (q := a2) (by rw [← ha1]; rfl)) ?_
    refine HW.pure (i := 12) hH rfl (by kernel_rfl) (Wants.on rfl rfl rfl rfl rfl hb4) rfl (fun _ => rfl) (Rd.fa (v := .pointer (some (a2.add 1))) rfl (fun _ => by kernel_rfl)) ?_
    obtain ⟨t3, t3n, t3c, hc3, h⟩ := h
    refine HW.take (i := 13) hH rfl (by kernel_rfl) (by kernel_rfl) (Wants.on rfl rfl rfl rfl rfl hb4) rfl (fun _ => rfl) (Rd.ld (v := .slice t3 t3n t3c) rfl (by kernel_rfl) (eqs hc3)) ?_
    refine HW.pure (i := 14) hH rfl (by kernel_rfl) (Wants.on rfl rfl rfl rfl rfl hb4) rfl (fun _ => rfl) (Rd.move (v := .pointer b1) rfl) ?_
    refine HW.pure (i := 15) hH rfl (by kernel_rfl) (Wants.on rfl rfl rfl rfl rfl hb4) rfl (fun _ => rfl) (Rd.nil (q := a3) (by rw [← ha2]; rfl)) ?_
    refine HW.pure (i := 16) hH rfl (by kernel_rfl) (Wants.on rfl rfl rfl rfl rfl hb4) rfl (fun _ => rfl) (Rd.fa (v := .pointer (some (a3.add 1))) rfl (fun _ => by kernel_rfl)) ?_
    obtain ⟨t4, t4n, t4c, hc4, h⟩ := h
    refine HW.take (i := 17) hH rfl (by kernel_rfl) (by kernel_rfl) (Wants.on rfl rfl rfl rfl rfl hb4) rfl (fun _ => rfl) (Rd.ld (v := .slice t4 t4n t4c) rfl (by kernel_rfl) (eqs hc4)) ?_
    refine HW.call (i := 18) hH (by kernel_rfl) rfl (Wants.on rfl rfl rfl rfl rfl hb4) rfl (Cl.fn (f := 87) rfl Tryz.func87 (by kernel_rfl) rfl) h (fun e w9 h_ => ?_)
    clear h
    obtain ⟨r6, rfl, h⟩ := h_
    refine ⟨_, rfl, (fun hc => by cases hc), ?_⟩
    refine HW.pure (i := 19) hH rfl (by kernel_rfl) (Wants.free rfl) rfl (fun hc => by cases hc) (Rd.pickT rfl hb4 rfl) ?_
    exact HW.sub hH (by exact ⟨rfl, rfl, trivial⟩) (K3 r6 w9 h)
   ·have h := h0_J3 hb4
    refine HW.skip (i := 10) hH rfl (by kernel_rfl) (Skips.on rfl rfl rfl rfl rfl hb4) rfl (fun _ => rfl) ?_
    refine HW.skip (i := 11) hH rfl (by kernel_rfl) (Skips.on rfl rfl rfl rfl rfl hb4) rfl (fun _ => rfl) ?_
    refine HW.skip (i := 12) hH rfl (by kernel_rfl) (Skips.on rfl rfl rfl rfl rfl hb4) rfl (fun _ => rfl) ?_
    refine HW.skip (i := 13) hH rfl (by kernel_rfl) (Skips.on rfl rfl rfl rfl rfl hb4) rfl (fun _ => rfl) ?_
    refine HW.skip (i := 14) hH rfl (by kernel_rfl) (Skips.on rfl rfl rfl rfl rfl hb4) rfl (fun _ => rfl) ?_
    refine HW.skip (i := 15) hH rfl (by kernel_rfl) (Skips.on rfl rfl rfl rfl rfl hb4) rfl (fun _ => rfl) ?_
    refine HW.skip (i := 16) hH rfl (by kernel_rfl) (Skips.on rfl rfl rfl rfl rfl hb4) rfl (fun _ => rfl) ?_
    refine HW.skip (i := 17) hH rfl (by kernel_rfl) (Skips.on rfl rfl rfl rfl rfl hb4) rfl (fun _ => rfl) ?_
    refine HW.skip1 (i := 18) hH (by kernel_rfl) rfl (Skips.on rfl rfl rfl rfl rfl hb4) rfl (fun hc => by cases hc) ?_
    refine HW.pure (i := 19) hH rfl (by kernel_rfl) (Wants.free rfl) rfl (fun hc => by cases hc) (Rd.pickF rfl hb4 rfl) ?_
    exact HW.sub hH (by exact ⟨rfl, rfl, trivial⟩) (K3 false w7 h)
  intro b4 w8 h_
  have h := hJ3 b4 w8 h_; clear h_
  refine HW.pure (i := 20) hH rfl (by kernel_rfl) (Wants.free rfl) rfl (fun hc => by cases hc) (Rd.assign (v := .bool b4) rfl) ?_
  refine HW.done hH (by kernel_rfl) ?_
  refine NW.then ?_
  refine CW.ret ?_
  exact res1 rfl rfl ⟨b4, rfl, h⟩
/- maps.Equal[map[pomander/api.Place]uint32,map[pomander/api.Place]uint32,pomander/api.Place,uint32] -/
def W_maps_Equal_600 (m11 : Option Nat) (m21 : Option Nat) (w : World) (R : Bool → World → Prop) : Prop :=
 ∃ n1 : Int, (Builtin.len_ #[99] 3 #[.map m11]).run Tryz.prog w = .ok (.int .i64 n1) w ∧ (∃ n2 : Int, (Builtin.len_ #[99] 3 #[.map m21]).run Tryz.prog w = .ok (.int .i64 n2) w ∧ (((!(n1 == n2)) = true → R false w) ∧ ((!(n1 == n2)) = false → ∃ (it1 : Option Addr) (w1 : World), (Instr.range 99 (.map m11)).run Tryz.prog w = .ok (.pointer it1) w1 ∧ (∃ (I1 : Bool → World → Prop) (m1 : Bool → World → Nat), I1 false w1 ∧ ∀ (x1 : Bool) (w2 : World), I1 x1 w2 → ∃ (nx1 : Array Value) (ok1 : Bool) (w3 : World), (Instr.next (.pointer it1) false 0).run Tryz.prog w2 = .ok (.tuple nx1) w3 ∧ nx1[0]? = some (.bool ok1) ∧ ((ok1 = true → ∃ (k1 : Int) (k2 : Int) (v1 : Int), (Instr.entry (.pointer it1)).run Tryz.prog w3 = .ok (.tuple #[.agg #[.int .i64 k1, .int .i64 k2], .int .u32 v1]) w3 ∧ (∀ (b1 : Nat) (w5 : World), (w3.heap.size ≤ b1 ∧ b1 < w5.heap.size) → Chg [] w3 w5 → (∃ (v2 : Int) (ok2 : Bool), (Instr.lookup 99 (.map m21) (.agg #[.int .i64 k1, .int .i64 k2]) true).run Tryz.prog w5 = .ok (.tuple #[.int .u32 v2, .bool ok2]) w5 ∧ (((!ok2 || !(v1 == v2)) = true → R false w5) ∧ ((!ok2 || !(v1 == v2)) = false → (I1 x1 w5 ∧ m1 x1 w5 < m1 x1 w2)))))) ∧ (ok1 = false → R true w3))))))
set_option maxRecDepth 100000 in
theorem go_maps_Equal_600 (m11 : Option Nat) (m21 : Option Nat) (w : World) (R : Bool → World → Prop) (h : W_maps_Equal_600 m11 m21 w R) : Calls Tryz.prog 54 #[.map m11, .map m21] w (fun e w' => ∃ (r1 : Bool), e = .returned (.bool r1) ∧ R r1 w') := by
 unfold W_maps_Equal_600 at h
 refine enter (N := 34) Tryz.func54 rfl rfl ?_
 refine CW.seq ?_
 refine CW.region fun L hL => ?_
 refine LW.rd hL rfl (Wants.free rfl) rfl (Rd.assign (v := .bool false) rfl) ?_
 refine LW.nil hL rfl ?_
 refine NW.then ?_
 refine CW.seq ?_
 refine CW.seq ?_
 refine CW.region fun L hL => ?_
 refine LW.rd hL rfl (Wants.free rfl) rfl (Rd.move (v := .map m11) rfl) ?_
 obtain ⟨n1, hl1, h⟩ := h
 refine LW.rd hL rfl (Wants.free rfl) rfl (Rd.builtin (v := .int .i64 n1) rfl (fun _ e => e ▸ lenB hl1)) ?_
 refine LW.rd hL rfl (Wants.free rfl) rfl (Rd.move (v := .map m21) rfl) ?_
 obtain ⟨n2, hl2, h⟩ := h
 refine LW.rd hL rfl (Wants.free rfl) rfl (Rd.builtin (v := .int .i64 n2) rfl (fun _ e => e ▸ lenB hl2)) ?_
 refine LW.rd hL rfl (Wants.free rfl) rfl (Rd.bin (v := .bool (!(n1 == n2))) rfl rfl (fun w => by kernel_rfl)) ?_
 refine LW.nil hL rfl ?_
 refine NW.then ?_
 refine CW.cond rfl (fun hb1 => ?_) (fun hb1 => ?_)
 ·replace h := h.1 hb1
  refine CW.seq ?_
  refine CW.region fun L hL => ?_
  refine LW.rd hL rfl (Wants.free rfl) rfl (Rd.assign (v := .bool false) rfl) ?_
  refine LW.nil hL rfl ?_
  refine NW.then ?_
  refine CW.ret ?_
  refine RW.then ?_
  exact res1 rfl rfl ⟨false, rfl, h⟩
 ·replace h := h.2 hb1
  refine CW.skip ?_
  refine NW.then ?_
  refine CW.seq ?_
  refine CW.seq ?_
  refine CW.region fun L hL => ?_
  refine LW.rd hL rfl (Wants.free rfl) rfl (Rd.move (v := .map m11) rfl) ?_
  obtain ⟨it1, w1, hm1, h⟩ := h
  refine LW.val hL rfl (Wants.free rfl) rfl (Vl.range (v := .pointer it1) rfl hm1) ?_
  refine LW.nil hL rfl ?_
  refine NW.then ?_
  refine CW.block ?_
  obtain ⟨I1, m1, hI1, h⟩ := h
  refine CW.loop (S := Bool) (fun x1 => [(1, .map m21), (15, .pointer it1), (4, .bool x1)]) (fun x1 w2 => I1 x1 w2) (fun x1 w2 => m1 x1 w2) false (by exact ⟨rfl, rfl, rfl, trivial⟩) hI1 (fun x1 w2 hI1 => ?_)
  replace h := h x1 w2 hI1
  refine CW.seq ?_
  refine CW.region fun L hL => ?_
  obtain ⟨nx1, ok1, w3, hm2, hk1, h⟩ := h
  refine LW.val hL rfl (Wants.free rfl) rfl (Vl.next (v := .tuple nx1) rfl hm2) ?_
  refine LW.rd hL rfl (Wants.free rfl) rfl (Rd.extract (v := .bool ok1) rfl hk1) ?_
  refine LW.nil hL rfl ?_
  refine NW.then ?_
  refine CW.seq ?_
  refine CW.cond rfl (fun hb2 => ?_) (fun hb2 => ?_)
  ·replace h := h.1 hb2
   refine CW.skip ?_
   refine NW.then ?_
   refine CW.block ?_
   refine CW.seq ?_
   refine CW.region fun L hL => ?_
   obtain ⟨k1, k2, v1, hl3, h⟩ := h
   refine LW.rd hL rfl (Wants.free rfl) rfl (Rd.entry (v := .tuple #[.agg #[.int .i64 k1, .int .i64 k2], .int .u32 v1]) rfl (fun _ e => e ▸ hl3)) ?_
   refine LW.rd hL rfl (Wants.free rfl) rfl (Rd.extract (v := .agg #[.int .i64 k1, .int .i64 k2]) rfl rfl) ?_
   refine LW.rd hL rfl (Wants.free rfl) rfl (Rd.extract (v := .int .u32 v1) rfl rfl) ?_
   obtain ⟨b1, hb_b1⟩ : ∃ b1, b1 = World.size w3 := ⟨_, rfl⟩
   obtain ⟨w4, hw_w4⟩ : ∃ w4, w4 = World.alloc w3 (.cells #[.int .i64 0, .int .i64 0] 62) := ⟨_, rfl⟩
   refine LW.val hL rfl (Wants.free rfl) rfl (boxE hb_b1 hw_w4 (Vl.alloc (z := .agg #[.int .i64 0, .int .i64 0]) (by kernel_rfl))) ?_
   have hB := Boxes.alloc (cs := [.int .i64 0, .int .i64 0]) (T := 62) (Boxes.nil w3) hb_b1 hw_w4
   have hlo_b1 := sil_lo (Chg.refl [] w3) hb_b1
   have hc_w4 := sil_alloc (Chg.refl [] w3) hw_w4
   obtain ⟨w5, hw_w5⟩ : ∃ x, x = setCells w4 (⟨b1, 0, none⟩ : Addr) 0 [.int .i64 k1, .int .i64 k2] := ⟨_, rfl⟩
   refine LW.eff hL rfl (Wants.free rfl) rfl (stNE hw_w5 (Ef.stN (cs := [.int .i64 k1, .int .i64 k2]) rfl rfl (by kernel_rfl) (List.forall_mem_cons.2 ⟨rfl, (List.forall_mem_cons.2 ⟨rfl, (List.forall_mem_nil _)⟩)⟩) (has_of (hB.at (i := 0) rfl) (by simp)) (free_of' (hB.at (i := 0) rfl)))) ?_
   replace hB : Boxes w5 [(b1, [.int .i64 k1, .int .i64 k2], 62)] := Boxes.store (vs := [.int .i64 k1, .int .i64 k2]) (i := 0) (o := 0) hB rfl rfl rfl rfl hw_w5
   have hc_w5 := sil_new hc_w4 (sil_cN hw_w5) hlo_b1
   refine LW.rd hL rfl (Wants.free rfl) rfl (Rd.assign (v := .int .u32 v1) rfl) ?_
   refine LW.nil hL rfl ?_
   refine NW.then ?_
   refine CW.seq ?_
   refine CW.region fun L hL => ?_
   refine LW.rd hL rfl (Wants.free rfl) rfl (Rd.move (v := .map m21) rfl) ?_
   refine LW.rd hL rfl (Wants.free rfl) rfl (Rd.ldN (cs := [.int .i64 k1, .int .i64 k2]) rfl (by kernel_rfl) (by kernel_rfl) (cellsS (box_cells (hB.at (i := 0) rfl) rfl))) ?_
   replace h := h b1 w5 ⟨hlo_b1, lt_of_heap (hB.at (i := 0) rfl)⟩ hc_w5
   obtain ⟨v2, ok2, hl4, h⟩ := h
   refine LW.rd hL rfl (Wants.free rfl) rfl (Rd.lookup (v := .tuple #[.int .u32 v2, .bool ok2]) rfl rfl (fun _ e => e ▸ hl4)) ?_
   refine LW.rd hL rfl (Wants.free rfl) rfl (Rd.move (v := .tuple #[.int .u32 v2, .bool ok2]) rfl) ?_
   refine LW.rd hL rfl (Wants.free rfl) rfl (Rd.extract (v := .int .u32 v2) rfl rfl) ?_
   refine LW.rd hL rfl (Wants.free rfl) rfl (Rd.extract (v := .bool ok2) rfl rfl) ?_
   refine LW.rd hL rfl (Wants.free rfl) rfl (Rd.assign (v := .int .u32 v2) rfl) ?_
   refine LW.rd hL rfl (Wants.free rfl) rfl (Rd.assign (v := .bool ok2) rfl) ?_
   refine LW.nil hL rfl ?_
   refine NW.then ?_
   refine CW.seq ?_
   refine CW.region fun L hL => ?_
   refine LW.rd hL rfl (Wants.free rfl) rfl (Rd.move (v := .bool ok2) rfl) ?_
   refine LW.rd hL rfl (Wants.free rfl) rfl (Rd.un (v := .bool (!ok2)) rfl (fun _ => by kernel_rfl)) ?_
   refine LW.rd hL rfl (Wants.free rfl) rfl (Rd.move (v := .bool (!ok2)) rfl) ?_
   suffices K1 : L 7 [(1, .map m21), (4, .bool x1), (15, .pointer it1), (33, .bool (!ok2 || !(v1 == v2)))] w5 by
    rcases Bool.eq_false_or_eq_true (!ok2) with hb4 | hb4
    ·skip
     refine LW.skip hL rfl (Skips.on rfl rfl rfl rfl rfl hb4) rfl ?_
     refine LW.skip hL rfl (Skips.on rfl rfl rfl rfl rfl hb4) rfl ?_
     refine LW.skip hL rfl (Skips.on rfl rfl rfl rfl rfl hb4) rfl ?_
     refine LW.rd hL rfl (Wants.free rfl) rfl (Rd.pickT rfl hb4 rfl) ?_
     exact LW.sub hL (by exact ⟨rfl, rfl, rfl, (by rw [hb4]; rfl), trivial⟩) K1
    ·skip
     refine LW.rd hL rfl (Wants.on rfl rfl rfl rfl rfl hb4) rfl (Rd.move (v := .int .u32 v1) rfl) ?_
     refine LW.rd hL rfl (Wants.on rfl rfl rfl rfl rfl hb4) rfl (Rd.move (v := .int .u32 v2) rfl) ?_
     refine LW.rd hL rfl (Wants.on rfl rfl rfl rfl rfl hb4) rfl (Rd.bin (v := .bool (!(v1 == v2))) rfl rfl (fun w => by kernel_rfl)) ?_
     refine LW.rd hL rfl (Wants.free rfl) rfl (Rd.pickF rfl hb4 rfl) ?_
     exact LW.sub hL (by exact ⟨rfl, rfl, rfl, (by rw [hb4]; rfl), trivial⟩) K1
   refine LW.nil hL rfl ?_
   refine NW.then ?_
   refine CW.cond rfl (fun hb5 => ?_) (fun hb5 => ?_)
   ·replace h := h.1 hb5
    refine CW.seq ?_
    refine CW.region fun L hL => ?_
    refine LW.rd hL rfl (Wants.free rfl) rfl (Rd.assign (v := .bool false) rfl) ?_
    refine LW.nil hL rfl ?_
    refine NW.then ?_
    refine CW.ret ?_
    refine RW.block ?_
    refine RW.then ?_
    refine RW.block ?_
    refine RW.then ?_
    exact res1 rfl rfl ⟨false, rfl, h⟩
   ·replace h := h.2 hb5
    refine CW.skip ?_
    refine NW.block ?_
    exact NW.loop (S := Bool) (Ek := fun x1 => [(1, .map m21), (15, .pointer it1), (4, .bool x1)]) x1 (by exact ⟨rfl, rfl, rfl, trivial⟩) h
  ·replace h := h.2 hb2
   refine CW.exit ?_
   refine XW.then ?_
   refine XW.then ?_
   refine XW.hit ?_
   refine NW.then ?_
   refine CW.seq ?_
   refine CW.region fun L hL => ?_
   refine LW.rd hL rfl (Wants.free rfl) rfl (Rd.assign (v := .bool true) rfl) ?_
   refine LW.nil hL rfl ?_
   refine NW.then ?_
   refine CW.ret ?_
   exact res1 rfl rfl ⟨true, rfl, h⟩
/- slices.Equal[[]uint32,uint32] -/
def W_slices_Equal_334 (s11 : Option Addr) (s11n : Nat) (s11c : Nat) (s21 : Option Addr) (s21n : Nat) (s21c : Nat) (w : World) (R : Bool → World → Prop) : Prop :=
 ((!((s11n : Int) == (s21n : Int))) = true → R false w) ∧ ((!((s11n : Int) == (s21n : Int))) = false → ∃ (I1 : Bool → Int → World → Prop) (m1 : Bool → Int → World → Nat), I1 false 0 w ∧ ∀ (x1 : Bool) (x2 : Int) (w1 : World), I1 x1 x2 w1 → ((decide (x2 < (s11n : Int))) = true → ∃ a1 : Addr, s11 = some a1 ∧ (0 : Int) ≤ x2 ∧ x2 < (s11n : Int) ∧ (∀ (w2 : World), Chg [] w1 w2 → (∃ (t1 : Int), w2.cell? (a1.add (Int.toNat x2 * 1)) = some (.int .u32 t1) ∧ (∃ a2 : Addr, s21 = some a2 ∧ (0 : Int) ≤ x2 ∧ x2 < (s21n : Int) ∧ (∃ (t2 : Int), w2.cell? (a2.add (Int.toNat x2 * 1)) = some (.int .u32 t2) ∧ (((!(t1 == t2)) = true → R false w2) ∧ ((!(t1 == t2)) = false → (I1 x1 (IntKind.wrap .i64 (x2 + 1)) w2 ∧ m1 x1 (IntKind.wrap .i64 (x2 + 1)) w2 < m1 x1 x2 w1)))))))) ∧ ((decide (x2 < (s11n : Int))) = false → R true w1))
set_option maxRecDepth 100000 in
theorem go_slices_Equal_334 (s11 : Option Addr) (s11n : Nat) (s11c : Nat) (s21 : Option Addr) (s21n : Nat) (s21c : Nat) (w : World) (R : Bool → World → Prop) (h : W_slices_Equal_334 s11 s11n s11c s21 s21n s21c w R) : Calls Tryz.prog 87 #[.slice s11 s11n s11c, .slice s21 s21n s21c] w (fun e w' => ∃ (r1 : Bool), e = .returned (.bool r1) ∧ R r1 w') := by
 unfold W_slices_Equal_334 at h
 refine enter (N := 26) Tryz.func87 rfl rfl ?_
 refine CW.seq ?_
 refine CW.region fun L hL => ?_
 refine LW.rd hL rfl (Wants.free rfl) rfl (Rd.assign (v := .bool false) rfl) ?_
 refine LW.nil hL rfl ?_
 refine NW.then ?_
 refine CW.seq ?_
 refine CW.seq ?_
 refine CW.region fun L hL => ?_
 refine LW.rd hL rfl (Wants.free rfl) rfl (Rd.move (v := .slice s11 s11n s11c) rfl) ?_
 refine LW.rd hL rfl (Wants.free rfl) rfl (Rd.builtin (v := .int .i64 (s11n : Int)) rfl (fun _ _ => by kernel_rfl)) ?_
 refine LW.rd hL rfl (Wants.free rfl) rfl (Rd.move (v := .slice s21 s21n s21c) rfl) ?_
 refine LW.rd hL rfl (Wants.free rfl) rfl (Rd.builtin (v := .int .i64 (s21n : Int)) rfl (fun _ _ => by kernel_rfl)) ?_
 refine LW.rd hL rfl (Wants.free rfl) rfl (Rd.bin (v := .bool (!((s11n : Int) == (s21n : Int)))) rfl rfl (fun w => by kernel_rfl)) ?_
 refine LW.nil hL rfl ?_
 refine NW.then ?_
 refine CW.cond rfl (fun hb1 => ?_) (fun hb1 => ?_)
 ·replace h := h.1 hb1
  refine CW.seq ?_
  refine CW.region fun L hL => ?_
  refine LW.rd hL rfl (Wants.free rfl) rfl (Rd.assign (v := .bool false) rfl) ?_
  refine LW.nil hL rfl ?_
  refine NW.then ?_
  refine CW.ret ?_
  refine RW.then ?_
  exact res1 rfl rfl ⟨false, rfl, h⟩
 ·replace h := h.2 hb1
  refine CW.skip ?_
  refine NW.then ?_
  refine CW.seq ?_
  refine CW.seq ?_
  refine CW.region fun L hL => ?_
  refine LW.rd hL rfl (Wants.free rfl) rfl (Rd.move (v := .slice s11 s11n s11c) rfl) ?_
  refine LW.rd hL rfl (Wants.free rfl) rfl (Rd.builtin (v := .int .i64 (s11n : Int)) rfl (fun _ _ => by kernel_rfl)) ?_
  refine LW.rd hL rfl (Wants.free rfl) rfl (Rd.move (v := .int .i64 0) rfl) ?_
  refine LW.nil hL rfl ?_
  refine NW.then ?_
  refine CW.block ?_
  obtain ⟨I1, m1, hI1, h⟩ := h
  refine CW.loop (S := Bool × Int) (fun s1 => [(0, .slice s11 s11n s11c), (1, .slice s21 s21n s21c), (12, .int .i64 (s11n : Int)), (4, .bool s1.1), (13, .int .i64 s1.2)]) (fun s1 w1 => I1 s1.1 s1.2 w1) (fun s1 w1 => m1 s1.1 s1.2 w1) (false, 0) (by exact ⟨rfl, rfl, rfl, rfl, rfl, trivial⟩) hI1 (fun s1 w1 hI1 => ?_)
  obtain ⟨x1, x2⟩ := s1; replace h := h x1 x2 w1 hI1
  refine CW.seq ?_
  refine CW.region fun L hL => ?_
  refine LW.rd hL rfl (Wants.free rfl) rfl (Rd.bin (v := .bool (decide (x2 < (s11n : Int)))) rfl rfl (fun w => by kernel_rfl)) ?_
  refine LW.nil hL rfl ?_
  refine NW.then ?_
  refine CW.seq ?_
  refine CW.cond rfl (fun hb2 => ?_) (fun hb2 => ?_)
  ·replace h := h.1 hb2
   refine CW.skip ?_
   refine NW.then ?_
   refine CW.seq ?_
   refine CW.block ?_
   refine CW.seq ?_
   refine CW.region fun L hL => ?_
   refine LW.rd hL rfl (Wants.free rfl) rfl (Rd.move (v := .int .i64 x2) rfl) ?_
   refine LW.rd hL rfl (Wants.free rfl) rfl (Rd.assign (v := .int .i64 x2) rfl) ?_
   refine LW.nil hL rfl ?_
   refine NW.then ?_
   refine CW.seq ?_
   obtain ⟨w2, hw_w2⟩ : ∃ x, x = World.drew w1 := ⟨_, rfl⟩
   have hc_w2 := sil_drew (Chg.refl [] w1) hw_w2
   refine CW.drawn (fun w => w = w2) 9 (by kernel_rfl) fun H hH => ?_
   rw [← hw_w2]
   refine HW.pure (i := 0) hH rfl (by kernel_rfl) (Wants.free rfl) rfl (fun _ => rfl) (Rd.move (v := .slice s11 s11n s11c) rfl) ?_
   refine HW.pure (i := 1) hH rfl (by kernel_rfl) (Wants.free rfl) rfl (fun _ => rfl) (Rd.move (v := .int .i64 x2) rfl) ?_
   obtain ⟨a1, he1, hi1, hi2, h⟩ := h
   refine HW.pure (i := 2) hH rfl (by kernel_rfl) (Wants.free rfl) rfl (fun _ => rfl) (Rd.iaS (q := a1) (sz := 1) (by rw [← he1]; rfl) rfl Tryz.underlying38 (by kernel_rfl) hi1 hi2) ?_
   replace h := h  w2  hc_w2
   obtain ⟨t1, hc1, h⟩ := h
   refine HW.take (i := 3) hH rfl (by kernel_rfl) (by kernel_rfl) (Wants.free rfl) rfl (fun _ => rfl) (Rd.ld (v := .int .u32 t1) rfl (by kernel_rfl) (eqs hc1)) ?_
   refine HW.pure (i := 4) hH rfl (by kernel_rfl) (Wants.free rfl) rfl (fun _ => rfl) (Rd.move (v := .slice s21 s21n s21c) rfl) ?_
   refine HW.pure (i := 5) hH rfl (by kernel_rfl) (Wants.free rfl) rfl (fun _ => rfl) (Rd.move (v := .int .i64 x2) rfl) ?_
   obtain ⟨a2, he2, hi3, hi4, h⟩ := h
   refine HW.pure (i := 6) hH rfl (by kernel_rfl) (Wants.free rfl) rfl (fun _ => rfl) (Rd.iaS (q := a2) (sz := 1) (by rw [← he2]; rfl) rfl Tryz.underlying38 (by kernel_rfl) hi3 hi4) ?_
   obtain ⟨t2, hc2, h⟩ := h
   refine HW.take (i := 7) hH rfl (by kernel_rfl) (by kernel_rfl) (Wants.free rfl) rfl (fun _ => rfl) (Rd.ld (v := .int .u32 t2) rfl (by kernel_rfl) (eqs hc2)) ?_
   refine HW.pure (i := 8) hH rfl (by kernel_rfl) (Wants.free rfl) rfl (fun _ => rfl) (Rd.bin (v := .bool (!(t1 == t2))) rfl rfl (fun w => by kernel_rfl)) ?_
   refine HW.done hH (by kernel_rfl) ?_
   refine NW.then ?_
   refine CW.cond rfl (fun hb3 => ?_) (fun hb3 => ?_)
   ·replace h := h.1 hb3
    refine CW.seq ?_
    refine CW.region fun L hL => ?_
    refine LW.rd hL rfl (Wants.free rfl) rfl (Rd.assign (v := .bool false) rfl) ?_
    refine LW.nil hL rfl ?_
    refine NW.then ?_
    refine CW.ret ?_
    refine RW.block ?_
    refine RW.then ?_
    refine RW.then ?_
    refine RW.block ?_
    refine RW.then ?_
    exact res1 rfl rfl ⟨false, rfl, h⟩
   ·replace h := h.2 hb3
    refine CW.skip ?_
    refine NW.block ?_
    refine NW.then ?_
    refine CW.region fun L hL => ?_
    refine LW.rd hL rfl (Wants.free rfl) rfl (Rd.bin (v := .int .i64 (IntKind.wrap .i64 (x2 + 1))) rfl rfl (fun w => by kernel_rfl)) ?_
    refine LW.rd hL rfl (Wants.free rfl) rfl (Rd.move (v := .int .i64 (IntKind.wrap .i64 (x2 + 1))) rfl) ?_
    refine LW.nil hL rfl ?_
    exact NW.loop (S := Bool × Int) (Ek := fun s1 => [(0, .slice s11 s11n s11c), (1, .slice s21 s21n s21c), (12, .int .i64 (s11n : Int)), (4, .bool s1.1), (13, .int .i64 s1.2)]) (x1, IntKind.wrap .i64 (x2 + 1)) (by exact ⟨rfl, rfl, rfl, rfl, rfl, trivial⟩) h
  ·replace h := h.2 hb2
   refine CW.exit ?_
   refine XW.then ?_
   refine XW.then ?_
   refine XW.hit ?_
   refine NW.then ?_
   refine CW.seq ?_
   refine CW.region fun L hL => ?_
   refine LW.rd hL rfl (Wants.free rfl) rfl (Rd.assign (v := .bool true) rfl) ?_
   refine LW.nil hL rfl ?_
   refine NW.then ?_
   refine CW.ret ?_
   exact res1 rfl rfl ⟨true, rfl, h⟩
end Go.Proofs.YtfcfkhbkkfpehaaGreat
end
section
/- Flows that are the same: slices.Equal, labels.Same, maps.Equal, flow.Same. -/
namespace Go.Proofs.YtfcfkhbkkfpehaaGreat
open Go Go.RowKit Go.X Go.XR
theorem take_eq_of {α : Type} {xs ys : List α} {k : Nat} (h : xs.take k = ys.take k) {x y : α} (hx : xs[k]? = some x) (hy : ys[k]? = some y) : x = y ↔ xs.take (k + 1) = ys.take (k + 1) := by
 rw [take_snoc hx, take_snoc hy, h]
 simp
theorem slices_equal {w : World} {e : TypeId} {p q : Option Addr} {n c m d : Nat} {xs ys : List Int} (h1 : RowAt w e 1 p n c (xs.map (Value.int .u32))) (h2 : RowAt w e 1 q m d (ys.map (Value.int .u32))) (hn : n ≤ 1000000) :
  Calls Tryz.prog 87 #[.slice p n c, .slice q m d] w fun e w' => ∃ r : Bool, e = .returned (.bool r) ∧ (r = decide (xs = ys) ∧ Chg [] w w') := by
 have l1 := h1.length
 have l2 := h2.length
 simp at l1 l2
 refine go_slices_Equal_334 _ _ _ _ _ _ _ _ ?_
 unfold W_slices_Equal_334
 refine ⟨fun hne => ⟨?_, Chg.refl _ _⟩, fun he => ?_⟩
 ·symm; rw [decide_eq_false_iff_not]; intro e; subst e; simp at hne; omega
 have hnm : n = m := by simp at he; omega
 subst hnm
 refine ⟨fun _ j w' => ∃ k : Nat, j = k ∧ k ≤ n ∧ xs.take k = ys.take k ∧ Chg [] w w', fun _ j _ => n - j.toNat, ⟨0, rfl, Nat.zero_le _, rfl, Chg.refl _ _⟩, ?_⟩
 rintro x1 _ w1 ⟨k, rfl, hk, htk, c1⟩
 refine ⟨fun hlt => ?_, fun hge => ?_⟩
 ·have hlt' : k < n := by have := of_decide_eq_true hlt; omega
  obtain ⟨x, hx⟩ := get_of (l := xs) (j := k) (by omega)
  obtain ⟨y, hy⟩ := get_of (l := ys) (j := k) (by omega)
  obtain ⟨a, rfl, ha⟩ := h1.at (j := k) (u := .int .u32 x) (by simp [hx])
  obtain ⟨b, rfl, hb⟩ := h2.at (j := k) (u := .int .u32 y) (by simp [hy])
  refine ⟨a, rfl, by omega, by omega, fun w2 c2 => ⟨x, ?_, b, rfl, by omega, by omega, y, ?_, fun hne => ⟨?_, c1.trans0 c2⟩, fun heq => ?_⟩⟩
  ·simpa using (c1.trans0 c2).cell (by simp) ha
  ·simpa using (c1.trans0 c2).cell (by simp) hb
  ·symm; rw [decide_eq_false_iff_not]; intro e; subst e; rw [hx] at hy; cases hy; simp at hne
  ·have hxy : x = y := by simpa using heq
   rw [wr (by omega) (by omega)]
   exact ⟨⟨k + 1, by omega, by omega, (take_eq_of htk hx hy).1 hxy, c1.trans0 c2⟩, by simp only []; omega⟩
 ·have hge' : ¬ k < n := by have := of_decide_eq_false hge; omega
  refine ⟨?_, c1⟩
  rw [List.take_of_length_le (by omega), List.take_of_length_le (by omega)] at htk
  symm; rw [decide_eq_true_eq]; exact htk
theorem table_same {w : World} {b b' : Nat} {most most' : Int} {sets sets' : List Int} {fp fp' : List Nat} (h : TableAt w b most sets fp) (h' : TableAt w b' most' sets' fp') :
  Calls Tryz.prog 53 #[.pointer (some ⟨b, 0, none⟩), .pointer (some ⟨b', 0, none⟩)] w fun e w' => ∃ r : Bool, e = .returned (.bool r) ∧ (r = decide (most = most' ∧ sets = sets') ∧ Chg [] w w') := by
 refine go_labels_Same _ _ _ _ ?_
 unfold W_labels_Same
 refine (table_none h).mono ?_
 rintro _ w1 ⟨_, rfl, rfl, hw⟩
 subst w1
 refine ⟨_, rfl, fun b2 w' => b2 = false ∧ w' = w, ?_, fun _ => ?_, fun hf => by simp at hf⟩
 rotate_left
 ·refine (table_none h').mono ?_
  rintro _ w1 ⟨_, rfl, rfl, hw⟩
  subst w1
  exact ⟨_, rfl, rfl, rfl⟩
 rintro _ w2 ⟨rfl, hw⟩
 subst w2
 refine ⟨fun h => by simp at h, fun _ => ⟨_, rfl, fun w7 c7 => ?_⟩⟩
 obtain ⟨p, c, r, j, clk, a1, a2, _⟩ := (h.chg c7 (by simp)).there
 obtain ⟨p', c', r', j', clk', b1, b2, _⟩ := (h'.chg c7 (by simp)).there
 refine ⟨most, by rw [cell_of a1]; rfl, _, rfl, most', by rw [cell_of b1]; rfl, fun b4 w8 => b4 = decide (most = most' ∧ sets = sets') ∧ Chg [] w w8, fun _ _ h => h, fun he => ?_, fun hne => ?_⟩
 ·have he' : most = most' := by simpa using he
  refine ⟨p, _, c, by rw [add_at, cell_of a1]; rfl, p', _, c', by rw [add_at, cell_of b1]; rfl, ?_⟩
  have hl := h.few
  have hm := h.most2
  refine (slices_equal a2 b2 (by omega)).mono ?_
  rintro _ w9 ⟨_, rfl, rfl, c9⟩
  exact ⟨_, rfl, by simp [he'], c7.trans0 c9⟩
 ·have hne' : most ≠ most' := by simpa using hne
  exact ⟨by simp [hne'], c7⟩
theorem map_lenP {w : World} {r : Nat} {l : List ((Int × Int) × Int)} (h : MapIs w r encP (fun n : Int => .int .u32 n) l) (T : TypeId) : (Builtin.len_ #[99] T #[.map (some r)]).run Tryz.prog w = .ok (.int .i64 (l.length : Int)) w := by
 obtain ⟨es, clk, hb, he, _⟩ := h
 have : es.size = l.length := by
  have := congrArg List.length he
  simpa using this
 simp [Builtin.len_, run_underlying u143, MapKept.run_getObj_map hb, Result.andThen, this, go_sem]
theorem look_all {K V : Type} [DecidableEq K] {l1 l2 : List (K × V)} (n1 : (l1.map Prod.fst).Nodup) (n2 : (l2.map Prod.fst).Nodup) (hl : l1.length = l2.length) (h : ∀ x ∈ l1, lookK x.1 l2 = some x.2) (k : K) : lookK k l1 = lookK k l2 := by
 cases h1 : lookK k l1 with
 | some v => exact (h _ (lookK_mem h1)).symm
 | none =>
  cases h2 : lookK k l2 with
  | none => rfl
  | some v =>
   exfalso
   have := nodup_sub_length (a := k :: l1.map Prod.fst) (b := l2.map Prod.fst) (List.nodup_cons.2 ⟨fun hm => by
    obtain ⟨x, hx, e⟩ := List.mem_map.1 hm
    exact lookK_none.1 h1 x hx e, n1⟩) (fun y hy => by
    rcases List.mem_cons.1 hy with rfl | hy
    ·exact List.mem_map.2 ⟨_, lookK_mem h2, rfl⟩
    ·obtain ⟨x, hx, rfl⟩ := List.mem_map.1 hy
     exact List.mem_map.2 ⟨_, lookK_mem (h x hx), rfl⟩)
   simp at this; omega
theorem look_length {K V : Type} [DecidableEq K] {l1 l2 : List (K × V)} (n1 : (l1.map Prod.fst).Nodup) (n2 : (l2.map Prod.fst).Nodup) (h : ∀ k, lookK k l1 = lookK k l2) : l1.length = l2.length := by
 have key : ∀ (a b : List (K × V)), (a.map Prod.fst).Nodup → (∀ k, lookK k a = lookK k b) → a.length ≤ b.length := fun a b na hab => by
  have := nodup_sub_length (a := a.map Prod.fst) (b := b.map Prod.fst) na (fun y hy => by
   obtain ⟨x, hx, rfl⟩ := List.mem_map.1 hy
   have := (lookK_iff na).2 (show (x.1, x.2) ∈ a from hx)
   rw [hab] at this
   exact List.mem_map.2 ⟨_, lookK_mem this, rfl⟩)
  simpa using this
 exact Nat.le_antisymm (key _ _ n1 h) (key _ _ n2 fun k => (h k).symm)
theorem maps_equal {w : World} {r1 r2 : Nat} {l1 l2 : List ((Int × Int) × Int)} (h1 : MapIs w r1 encP (fun n : Int => .int .u32 n) l1) (h2 : MapIs w r2 encP (fun n : Int => .int .u32 n) l2) :
  Calls Tryz.prog 54 #[.map (some r1), .map (some r2)] w fun e w' => ∃ r : Bool, e = .returned (.bool r) ∧ ((r = true ↔ ∀ k, lookK k l1 = lookK k l2) ∧ Chg [] w w') := by
 have nd1 : (l1.map Prod.fst).Nodup := by obtain ⟨_, _, _, _, nd, _⟩ := h1; exact nd
 have nd2 : (l2.map Prod.fst).Nodup := by obtain ⟨_, _, _, _, nd, _⟩ := h2; exact nd
 refine go_maps_Equal_600 _ _ _ _ ?_
 unfold W_maps_Equal_600
 refine ⟨_, map_lenP h1 _, _, map_lenP h2 _, fun hb => ?_, fun hb => ?_⟩
 ·have : ¬ l1.length = l2.length := by simp at hb; omega
  exact ⟨⟨fun h => (by cases h), fun h => absurd (look_length nd1 nd2 h) this⟩, Chg.refl _ _⟩
 have hlen : l1.length = l2.length := by simp at hb; omega
 obtain ⟨it, w1, hrg, c1, hit, hI1⟩ := iter_range (P := Tryz.prog) (T := 99) h1 u143
 have hlr := h1.lt
 have hlr2 := h2.lt
 have hne : it ≠ r1 := by omega
 have s1 := c1.size
 refine ⟨some ⟨it, 0, none⟩, w1, hrg, fun x w2 => x = false ∧ ∃ done, IterAt w2 it r1 encP (fun n : Int => .int .u32 n) l1 done ∧ Chg [] w w2 ∧ (∀ x ∈ done, lookK x.1 l2 = some x.2), fun _ w2 => l1.length - seenN w2 it, ⟨rfl, [], hI1, c1, by simp⟩, ?_⟩
 rintro _ w2 ⟨rfl, done, hIt, c2, hd⟩
 rcases iter_next (P := Tryz.prog) hIt hne keyPlace.inj 0 with ⟨hnx, hall⟩ | ⟨k, v, w3, hkl, hnew, hrun, c3, hI3, hent⟩
 ·exact ⟨_, false, w2, hnx, rfl, fun h => by simp at h, fun _ => ⟨⟨fun _ => look_all nd1 nd2 hlen fun x hx => hd x (hall x hx), fun _ => rfl⟩, c2⟩⟩
 have c03 : Chg [] w w3 := c2.trans c3 (fun i hi hlt => by simp at hi; omega)
 have a1 := hIt.count
 have a2 := hI3.count
 have a3 := hIt.more hkl hnew
 simp at a2
 refine ⟨_, true, w3, hrun, rfl, fun _ => ⟨k.1, k.2, v, hent, fun b1 w5 hb5 c5 => ?_⟩, fun h => by simp at h⟩
 have c05 := c03.trans0 c5
 have hlk := (h2.chg c05 (by simp)).lookup (P := Tryz.prog) (T := 99) u143 keyPlace (z := .int .u32 0) zero22 k true
 refine ⟨(lookK k l2).getD 0, (lookK k l2).isSome, ?_, fun hne => ⟨⟨fun h => (by cases h), fun h => ?_⟩, c05⟩, fun heq => ?_⟩
 ·rw [show (Value.agg #[.int .i64 k.1, .int .i64 k.2]) = encP k from rfl, hlk]
  cases lookK k l2 <;> rfl
 ·have := (lookK_iff nd1).2 hkl
  rw [h] at this
  rw [this] at hne
  simp at hne
 ·have hv : lookK k l2 = some v := by
   cases hl : lookK k l2 with
   | none => rw [hl] at heq; simp at heq
   | some u => rw [hl] at heq; simp at heq; rw [heq]
  have hlt : it < w3.heap.size := hI3.lt
  have a4 : seenN w5 it = seenN w3 it := by unfold seenN; rw [c5.block it hlt (by simp)]
  refine ⟨⟨rfl, done ++ [(k, v)], hI3.chg c5 (by simp) (by simp), c05, fun x hx => ?_⟩, by simp only []; omega⟩
  rcases List.mem_append.1 hx with h | h
  ·exact hd x h
  ·simp at h; subst h; exact hv
def sameF (F G : Fl) : Prop := F.fr = G.fr ∧ F.se = G.se ∧ F.most = G.most ∧ F.sets = G.sets ∧ ∀ p, F.g p = G.g p
theorem allIs_look {w w' : World} {m m' : Nat} {F G : Fl} {L M : List ((Int × Int) × Int)} (h : AllIs w m F L) (h' : AllIs w' m' G M) : (∀ k, lookK k L = lookK k M) ↔ ∀ p, F.g p = G.g p := by
 constructor
 ·intro hk p
  have := hk p
  rw [h.look, h'.look] at this
  split at this <;> split at this <;> simp_all
 ·intro hp k
  rw [h.look, h'.look, hp]
theorem flow_same {w : World} {a b : Nat} {F G : Fl} {fa fb : List Nat} (ha : FlowAt w a F fa) (hb : FlowAt w b G fb) :
  Calls Tryz.prog 23 #[.pointer (some ⟨a, 0, none⟩), .pointer (some ⟨b, 0, none⟩)] w fun e w' => ∃ r : Bool, e = .returned (.bool r) ∧ ((r = true ↔ sameF F G) ∧ Chg [] w w') := by
 refine go_flow_Same _ _ _ _ ?_
 unfold W_flow_Same
 refine (flow_none ha).mono ?_
 rintro _ w1 ⟨_, rfl, rfl, hw⟩
 subst w1
 refine ⟨_, rfl, fun b2 w' => b2 = false ∧ w' = w, ?_, fun _ => ?_, fun hf => by simp at hf⟩
 rotate_left
 ·refine (flow_none hb).mono ?_
  rintro _ w1 ⟨_, rfl, rfl, hw⟩
  subst w1
  exact ⟨_, rfl, rfl, rfl⟩
 rintro _ w2 ⟨rfl, hw⟩
 subst w2
 refine ⟨fun h => by simp at h, fun _ w7 c7 => ?_⟩
 have ha7 := ha.chg c7 (by simp)
 have hb7 := hb.chg c7 (by simp)
 obtain ⟨T, m, d, r, l, fpT, fpm, fpd, gm, gd, h1, h2, _⟩ := ha7.there
 obtain ⟨T', m', d', r', l', fpT', fpm', fpd', gm', gd', k1, k2, _⟩ := hb7.there
 have K : ∀ {W : World}, Chg [] w7 W → (CellsAt W ⟨a, 0, none⟩ 0 [.int .i64 F.fr, .int .i64 F.se] ∧ CellsAt W ⟨b, 0, none⟩ 0 [.int .i64 G.fr, .int .i64 G.se] ∧ W.cell? ((⟨a, 0, none⟩ : Addr).add 2) = some (.pointer (some ⟨T, 0, none⟩)) ∧ W.cell? ((⟨b, 0, none⟩ : Addr).add 2) = some (.pointer (some ⟨T', 0, none⟩))) := fun hc => by
  have q1 := hc.obj (by simp) h1
  have q2 := hc.obj (by simp) k1
  refine ⟨?_, ?_, by rw [add_at, cell_of q1]; rfl, by rw [add_at, cell_of q2]; rfl⟩
  ·exact ⟨by rw [add_at, cell_of q1]; rfl, by rw [add_at, cell_of q1]; rfl, trivial⟩
  ·exact ⟨by rw [add_at, cell_of q2]; rfl, by rw [add_at, cell_of q2]; rfl, trivial⟩
 obtain ⟨z1, z2, z3, z4⟩ := K (Chg.refl _ _)
 refine ⟨_, rfl, _, _, z1, _, rfl, _, _, z2, _, z3, _, z4, fun b4 w8 => (b4 = true ↔ F.fr = G.fr ∧ F.se = G.se ∧ F.most = G.most ∧ F.sets = G.sets) ∧ Chg [] w7 w8, ?_, fun he => ?_, fun hne => ?_⟩
 ·rintro b4 w8 ⟨hb4, c8⟩
  refine ⟨fun b5 w10 => (b5 = true ↔ sameF F G) ∧ Chg [] w w10, fun _ _ h => h, fun ht => ?_, fun hf => ?_⟩
  ·have h4 := hb4.1 ht
   refine (flow_all_map (ha7.chg c8 (by simp))).mono ?_
   rintro _ w11 ⟨_, rfl, m1, L1, rfl, hA1, c11, _⟩
   refine ⟨_, rfl, K (c8.trans0 c11), ?_⟩
   refine (flow_all_map ((hb7.chg c8 (by simp)).chg c11 (by simp))).mono ?_
   rintro _ w12 ⟨_, rfl, m2, L2, rfl, hA2, c12, _⟩
   refine ⟨_, rfl, K ((c8.trans0 c11).trans0 c12), ?_⟩
   refine (maps_equal (hA1.map.chg c12 (by simp)) hA2.map).mono ?_
   rintro _ w13 ⟨r9, rfl, hr, c13⟩
   refine ⟨r9, rfl, ?_, (((c7.trans0 c8).trans0 c11).trans0 c12).trans0 c13⟩
   rw [hr, allIs_look hA1 hA2]
   unfold sameF
   exact ⟨fun h => ⟨h4.1, h4.2.1, h4.2.2.1, h4.2.2.2, h⟩, fun h => h.2.2.2.2⟩
  ·refine ⟨⟨fun h => (by cases h), fun h => ?_⟩, c7.trans0 c8⟩
   have := hb4.2 ⟨h.1, h.2.1, h.2.2.1, h.2.2.2.1⟩
   rw [hf] at this; cases this
 ·have he' : F.fr = G.fr ∧ F.se = G.se := by simpa using he
  refine (table_same h2 k2).mono ?_
  rintro _ w9 ⟨_, rfl, rfl, c9⟩
  exact ⟨_, rfl, K c9, by simp [he'.1, he'.2], c9⟩
 ·refine ⟨⟨fun h => (by cases h), fun h => ?_⟩, Chg.refl _ _⟩
  simp [h.1, h.2.1] at hne
end Go.Proofs.YtfcfkhbkkfpehaaGreat
end
