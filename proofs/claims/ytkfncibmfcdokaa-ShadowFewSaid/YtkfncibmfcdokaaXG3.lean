import Derived.Test.YtkfncibmfcdokaaXIter
import Derived.Test.YtkfncibmfcdokaaProg
import Derived.Test.YtkfncibmfcdokaaXEq
import Derived.Test.YtkfncibmfcdokaaXLoc
import Derived.Test.YtkfncibmfcdokaaXRange
set_option linter.unusedVariables false
set_option linter.unusedSimpArgs false
namespace Go.Proofs.Ytkfncibmfcdokaa
open Go Go.X

def z181_XG3 : List Value := List.replicate 1 (Value.int .i64 0) ++ List.replicate 64 (Value.int .u32 0)
/- (*pomander/shadow.Shadow).Copy -/
def W_shadow_Shadow_Copy (s1 : Option Addr) (w : World) (R : (Option Addr) → World → Prop) : Prop :=
  Calls Try.prog 90 #[.pointer s1] w fun e w1 => ∃ (r2 : Bool), e = .returned (.bool r2) ∧ ((r2 = true → R none w1) ∧ (r2 = false → ∃ a1 : Addr, s1 = some a1 ∧ (∃ (t1 : Int), w1.cell? a1 = some (.int .i64 t1) ∧ (∀ b1 : Nat, b1 = World.size w1 → ∀ w2 : World, w2 = World.alloc w1 (.map #[] 0) → (∀ b2 : Nat, b2 = World.size w2 → ∀ w3 : World, w3 = World.alloc w2 (.cells #[.int .i64 t1, .map (some b1)] 176) → (∀ b3 : Nat, b3 = World.size w3 → ∀ w4 : World, w4 = World.alloc w3 (.cells #[.pointer none] 90) → ((∃ o : Value, w4.cell? (⟨b3, 0, none⟩ : Addr) = some o) ∧ w4.frozen? (⟨b3, 0, none⟩ : Addr) = false ∧ ∀ w5 : World, w5 = World.setCell w4 (⟨b3, 0, none⟩ : Addr) (.pointer (some (⟨b2, 0, none⟩ : Addr))) → (∃ (t2 : Option Nat), w5.cell? (a1.add 1) = some (.map t2) ∧ (Calls Try.prog 98 #[.map t2] w5 fun e w6 => ∃ (r3 : Value), e = .returned (r3) ∧ (∃ (S1 Sp1 : List (Int × (Option Addr)) → Prop) (keep1 : List Nat), XR.IsFn Try.prog r3 ∧ XR.Iterates Try.prog r3 (fun x : Int × (Option Addr) => #[.int .i64 x.1, .pointer x.2]) S1 Sp1 keep1 w6 ∧ (∀ i_ ∈ keep1, i_ < w6.heap.size) ∧ ∃ (I1 : List Nat → List (Int × (Option Addr)) → World → Prop), (∀ (pre_ : List (Int × (Option Addr))), XR.Stab w6 (fun O_ w_ => I1 O_ pre_ w_)) ∧ (∀ (O1 : List Nat) (w7 : World), Chg [] w6 w7 → XR.InO w6 O1 w7 → I1 O1 ([]) w7) ∧ (∀ (l1 : Nat) (O1 : List Nat) (pre1 : List (Int × (Option Addr))) (x1 : Int) (x2 : Option Addr) (w7 : World), XR.InO w6 O1 w7 → l1 ∈ O1 → Sp1 (pre1 ++ [(x1, x2)]) → I1 O1 pre1 w7 → (∀ (w8 : World), Chg [l1] w7 w8 → (∃ a2 : Addr, x2 = some a2 ∧ (∃ (t3 : List Value), t3.length = 65 ∧ CellsAt w8 a2 0 t3 ∧ (∀ b4 : Nat, b4 = World.size w8 → ∀ w9 : World, w9 = World.alloc w8 (.cells (z181_XG3).toArray 181) → ((∀ v ∈ t3, Value.oneCell' v = true) ∧ Has w9 (⟨b4, 0, none⟩ : Addr) 65 ∧ Free w9 (⟨b4, 0, none⟩ : Addr) 65 ∧ ∀ w10 : World, w10 = setCells w9 (⟨b4, 0, none⟩ : Addr) 0 t3 → (∃ (t4 : Option Addr), w10.cell? (⟨b3, 0, none⟩ : Addr) = some (.pointer t4) ∧ (∃ a3 : Addr, t4 = some a3 ∧ (∃ (t5 : Option Nat), w10.cell? (a3.add 1) = some (.map t5) ∧ (∃ w11 : World, (Instr.mapUpdate 173 (.map t5) (.int .i64 x1) (.pointer (some (⟨b4, 0, none⟩ : Addr)))).run Try.prog w10 = .ok () w11 ∧ ((w8.heap.size ≤ w11.heap.size ∧ I1 O1 (pre1 ++ [(x1, x2)]) w11 ∧ Same w8 w11 (keep1 ++ O1))))))))))))) ∧ (∀ (d1 : Nat) (O2 : List Nat) (xs1 : List (Int × (Option Addr))) (w12 : World), XR.InO w6 O2 w12 → d1 ∈ O2 → S1 xs1 → I1 O2 xs1 w12 → (∃ (t6 : Option Addr), w12.cell? (⟨b3, 0, none⟩ : Addr) = some (.pointer t6) ∧ (∀ w13 : World, Chg [d1] w12 w13 → (R t6 w13))))))))))))))
set_option maxRecDepth 100000 in
theorem go_shadow_Shadow_Copy (s1 : Option Addr) (w : World) (R : (Option Addr) → World → Prop) (h : W_shadow_Shadow_Copy s1 w R) : Calls Try.prog 57 #[.pointer s1] w (fun e w' => ∃ (r1 : Option Addr), e = .returned (.pointer r1) ∧ R r1 w') := by
  unfold W_shadow_Shadow_Copy at h
  refine XR.enterM (N := 32) Try.func57 rfl rfl ?_
  refine CW.seq ?_
  refine CW.region fun L hL => ?_
  refine LW.rd hL rfl (Wants.free rfl) rfl (Rd.assign (v := .pointer none) rfl) ?_
  refine LW.nil hL rfl ?_
  refine NW.then ?_
  refine CW.seq ?_
  refine CW.seq ?_
  refine CW.region fun L hL => ?_
  refine LW.rd hL rfl (Wants.free rfl) rfl (Rd.move (v := .pointer s1) rfl) ?_
  refine LW.call hL rfl (Wants.free rfl) rfl (Cl.fn (f := 90) rfl Try.func90 (by kernel_rfl) rfl) h (fun e w1 h_ => ?_)
  clear h
  obtain ⟨r2, rfl, h⟩ := h_
  refine ⟨_, rfl, ?_⟩
  refine LW.nil hL rfl ?_
  refine NW.then ?_
  refine CW.cond rfl (fun hb1 => ?_) (fun hb1 => ?_)
  · replace h := h.1 hb1
    refine CW.seq ?_
    refine CW.region fun L hL => ?_
    refine LW.rd hL rfl (Wants.free rfl) rfl (Rd.assign (v := .pointer none) rfl) ?_
    refine LW.nil hL rfl ?_
    refine NW.then ?_
    refine CW.ret ?_
    refine RW.then ?_
    exact XR.res0M (vs := [.pointer none]) (by exact (ResOK.t rfl ResOK.nil)) rfl ⟨none, rfl, h⟩
  · replace h := h.2 hb1
    refine CW.skip ?_
    refine NW.then ?_
    refine CW.seq ?_
    refine CW.region fun L hL => ?_
    refine LW.rd hL rfl (Wants.free rfl) rfl (Rd.move (v := .pointer s1) rfl) ?_
    obtain ⟨a1, ha1, h⟩ := h
    refine LW.rd hL rfl (Wants.free rfl) rfl (Rd.nil (q := a1) (by rw [← ha1]; rfl)) ?_
    refine LW.rd hL rfl (Wants.free rfl) rfl (Rd.fa (v := .pointer (some a1)) rfl (fun _ => by kernel_rfl)) ?_
    obtain ⟨t1, hc1, h⟩ := h
    refine LW.rd hL rfl (Wants.free rfl) rfl (Rd.ld (v := .int .i64 t1) rfl (by kernel_rfl) (eqs hc1)) ?_
    obtain ⟨b1, hb_b1⟩ : ∃ b1, b1 = World.size w1 := ⟨_, rfl⟩
    obtain ⟨w2, hw_w2⟩ : ∃ w2, w2 = World.alloc w1 (.map #[] 0) := ⟨_, rfl⟩
    replace h := h b1 hb_b1 w2 hw_w2
    refine LW.val hL rfl (Wants.free rfl) rfl (mapE hb_b1 hw_w2 Vl.makeMap) ?_
    refine LW.rd hL rfl (Wants.free rfl) rfl (Rd.build (v := .agg #[.int .i64 t1, .map (some b1)]) rfl (fun _ => by kernel_rfl)) ?_
    obtain ⟨b2, hb_b2⟩ : ∃ b2, b2 = World.size w2 := ⟨_, rfl⟩
    obtain ⟨w3, hw_w3⟩ : ∃ w3, w3 = World.alloc w2 (.cells #[.int .i64 t1, .map (some b1)] 176) := ⟨_, rfl⟩
    replace h := h b2 hb_b2 w3 hw_w3
    refine LW.val hL rfl (Wants.free rfl) rfl (boxE hb_b2 hw_w3 (Vl.box (v := .agg #[.int .i64 t1, .map (some b1)]) rfl)) ?_
    obtain ⟨b3, hb_b3⟩ : ∃ b3, b3 = World.size w3 := ⟨_, rfl⟩
    obtain ⟨w4, hw_w4⟩ : ∃ w4, w4 = World.alloc w3 (.cells #[.pointer none] 90) := ⟨_, rfl⟩
    replace h := h b3 hb_b3 w4 hw_w4
    refine LW.val hL rfl (Wants.free rfl) rfl (boxE hb_b3 hw_w4 (Vl.alloc (z := .pointer none) (by kernel_rfl))) ?_
    obtain ⟨⟨o_w5, ho1⟩, hf1, h⟩ := h
    obtain ⟨w5, hw_w5⟩ : ∃ w5, w5 = World.setCell w4 (⟨b3, 0, none⟩ : Addr) (.pointer (some (⟨b2, 0, none⟩ : Addr))) := ⟨_, rfl⟩
    replace h := h w5 hw_w5
    refine LW.eff hL rfl (Wants.free rfl) rfl (stE hw_w5 (Ef.st rfl rfl rfl (by kernel_rfl) ho1 hf1)) ?_
    refine LW.nil hL rfl ?_
    refine NW.then ?_
    refine CW.seq ?_
    refine CW.seq ?_
    refine CW.region fun L hL => ?_
    refine LW.rd hL rfl (Wants.free rfl) rfl (Rd.move (v := .pointer s1) rfl) ?_
    refine LW.rd hL rfl (Wants.free rfl) rfl (Rd.nil (q := a1) (by rw [← ha1]; rfl)) ?_
    refine LW.rd hL rfl (Wants.free rfl) rfl (Rd.fa (v := .pointer (some (a1.add 1))) rfl (fun _ => by kernel_rfl)) ?_
    obtain ⟨t2, hc2, h⟩ := h
    refine LW.rd hL rfl (Wants.free rfl) rfl (Rd.ld (v := .map t2) rfl (by kernel_rfl) (eqs hc2)) ?_
    refine LW.call hL rfl (Wants.free rfl) rfl (Cl.fn (f := 98) rfl Try.func98 (by kernel_rfl) rfl) h (fun e w6 h_ => ?_)
    clear h
    obtain ⟨r3, rfl, h⟩ := h_
    refine ⟨_, rfl, ?_⟩
    refine LW.nil hL rfl ?_
    refine NW.then ?_
    refine CW.block ?_
    obtain ⟨S1, Sp1, keep1, hfn_, hit_, hkp_, I1, hst_I1, h0_, hrd_, hdn_⟩ := h
    refine XR.CW.rangeV (α := Int × (Option Addr)) (enc := (fun x : Int × (Option Addr) => #[.int .i64 x.1, .pointer x.2])) (S := S1) (Sp := Sp1) (keep := keep1) rfl hfn_ (fun _ => rfl) (by decide) hit_ (fun (O_ : List Nat) (pre_ : List (Int × (Option Addr))) (w_ : World) => I1 O_ pre_ w_) (fun (c_ : Code) (O_ : List Nat) (pre_ : List (Int × (Option Addr))) (w_ : World) => False) ?_ ?_ ?_ hkp_ ?_ ?_ ?_
    · intro pre_ O_ O2_ A_ B_ hi_ hO_ hc_ hO2_ hg_
      exact hst_I1  pre_ O_ O2_ A_ B_ hi_ hO_ hc_ hO2_ hg_
    · intro c_ pre_ O_ O2_ A_ B_ hi_ hO_ hc_ hO2_ hg_
      exact hi_.elim
    · intro O_ A_ hc_ hO_
      exact h0_ O_ A_ hc_ hO_
    · intro l1 O1 pre1 x_ w7 hO_ hl_ hSp_ hi_
      obtain ⟨x1, x2⟩ := x_
      have h := hrd_ l1 O1 pre1 x1 x2 w7 hO_ hl_ hSp_ hi_
      refine XR.CW.seq ?_
      refine XR.CW.region fun L hL => ?_
      refine XR.LW.rd hL rfl (Wants.free rfl) rfl (Rd.assign (v := .int .i64 x1) rfl) ?_
      refine XR.LW.nil hL rfl ?_
      refine XR.NW.then ?_
      refine XR.CW.region fun L hL => ?_
      refine XR.LW.rd hL rfl (Wants.free rfl) rfl (Rd.assign (v := .pointer x2) rfl) ?_
      refine XR.LW.nil hL rfl ?_
      refine XR.NW.begin (Chg.refl [] w7) (fun w8 hcb_w8 hlp_ hib_ => ?_)
      have hc_w8 : Chg [l1] w7 w8 := sil_more (Chg.refl [] w7) hcb_w8
      replace h := h  w8  hc_w8
      refine XR.CW.block ?_
      refine XR.CW.seq ?_
      refine XR.CW.region fun L hL => ?_
      refine XR.LW.rd hL rfl (Wants.free rfl) rfl (Rd.move (v := .pointer x2) rfl) ?_
      obtain ⟨a2, ha2, h⟩ := h
      refine XR.LW.rd hL rfl (Wants.free rfl) rfl (Rd.nil (q := a2) (by rw [← ha2]; rfl)) ?_
      obtain ⟨t3, hl1, hc3, h⟩ := h
      refine XR.LW.rd hL rfl (Wants.free rfl) rfl (Rd.ldN (cs := t3) rfl (by kernel_rfl) (by rw [hl1]; kernel_rfl) (cellsS hc3)) ?_
      obtain ⟨b4, hb_b4⟩ : ∃ b4, b4 = World.size w8 := ⟨_, rfl⟩
      obtain ⟨w9, hw_w9⟩ : ∃ w9, w9 = World.alloc w8 (.cells (z181_XG3).toArray 181) := ⟨_, rfl⟩
      replace h := h b4 hb_b4 w9 hw_w9
      refine XR.LW.val hL rfl (Wants.free rfl) rfl (boxE hb_b4 hw_w9 (Vl.alloc (z := .agg ((z181_XG3)).toArray) (by kernel_rfl))) ?_
      obtain ⟨hv1, ho2, hf2, h⟩ := h
      obtain ⟨w10, hw_w10⟩ : ∃ w10, w10 = setCells w9 (⟨b4, 0, none⟩ : Addr) 0 t3 := ⟨_, rfl⟩
      replace h := h w10 hw_w10
      refine XR.LW.eff hL rfl (Wants.free rfl) rfl (stNE hw_w10 (Ef.stN (cs := t3) rfl rfl (by rw [hl1]; kernel_rfl) hv1 (hl1 ▸ ho2) (hl1 ▸ hf2))) ?_
      refine XR.LW.nil hL rfl ?_
      refine XR.NW.then ?_
      refine XR.CW.region fun L hL => ?_
      obtain ⟨t4, hc4, h⟩ := h
      refine XR.LW.rd hL rfl (Wants.free rfl) rfl (Rd.ld (v := .pointer t4) rfl (by kernel_rfl) (eqs hc4)) ?_
      obtain ⟨a3, ha3, h⟩ := h
      refine XR.LW.rd hL rfl (Wants.free rfl) rfl (Rd.nil (q := a3) (by rw [← ha3]; rfl)) ?_
      refine XR.LW.rd hL rfl (Wants.free rfl) rfl (Rd.fa (v := .pointer (some (a3.add 1))) rfl (fun _ => by kernel_rfl)) ?_
      obtain ⟨t5, hc5, h⟩ := h
      refine XR.LW.rd hL rfl (Wants.free rfl) rfl (Rd.ld (v := .map t5) rfl (by kernel_rfl) (eqs hc5)) ?_
      refine XR.LW.rd hL rfl (Wants.free rfl) rfl (Rd.move (v := .int .i64 x1) rfl) ?_
      obtain ⟨w11, hm1, h⟩ := h
      refine XR.LW.eff hL rfl (Wants.free rfl) rfl (Ef.mapUpdate rfl rfl rfl hm1) ?_
      refine XR.LW.nil hL rfl ?_
      refine NW.block ?_
      exact fun a_ ha_ => ⟨h.1, h.2.1, h.2.2⟩
    · intro d1 O2 xs1 w12 hO_ hd_ hdh_ hS_ hi_
      have h := hdn_ d1 O2 xs1 w12 hO_ hd_ hS_ hi_
      have hK := XR.Marks.cons (XR.Marks.nil _) hdh_ (by simp)
      refine NW.block ?_
      refine NW.then ?_
      refine CW.seq ?_
      refine CW.region fun L hL => ?_
      obtain ⟨t6, hc6, h⟩ := h
      refine LW.rd hL rfl (Wants.free rfl) rfl (Rd.ld (v := .pointer t6) rfl (by kernel_rfl) (eqs hc6)) ?_
      refine LW.rd hL rfl (Wants.free rfl) rfl (Rd.assign (v := .pointer t6) rfl) ?_
      refine LW.nil hL rfl ?_
      refine NW.then ?_
      refine CW.ret ?_
      exact XR.resM (ms := [d1]) (vs := [.pointer t6]) hK rfl (fun w_ hc_ => ⟨(ResOK.t rfl ResOK.nil), t6, rfl, h w_ hc_⟩)
    · intro d2 c_ O3 xs2 w14 hO_ hd_ hdh_ hS_ hi_
      exact hi_.elim

/- maps.All[map[int]*pomander/shadow.page,int,*pomander/shadow.page] -/
def W_maps_All_0 (m1 : Option Nat) (w : World) (R : Value → World → Prop) : Prop :=
  ∀ b1 : Nat, b1 = World.size w → ∀ w1 : World, w1 = World.alloc w (.cells #[.map m1] 173) → (R (.func (.func 118) #[] #[.pointer (some (⟨b1, 0, none⟩ : Addr))]) w1)
set_option maxRecDepth 100000 in
theorem go_maps_All_0 (m1 : Option Nat) (w : World) (R : Value → World → Prop) (h : W_maps_All_0 m1 w R) : Calls Try.prog 98 #[.map m1] w (fun e w' => ∃ (r1 : Value), e = .returned (r1) ∧ R r1 w') := by
  unfold W_maps_All_0 at h
  refine enter (N := 4) Try.func98 rfl rfl ?_
  refine CW.seq ?_
  refine CW.region fun L hL => ?_
  obtain ⟨b1, hb_b1⟩ : ∃ b1, b1 = World.size w := ⟨_, rfl⟩
  obtain ⟨w1, hw_w1⟩ : ∃ w1, w1 = World.alloc w (.cells #[.map m1] 173) := ⟨_, rfl⟩
  replace h := h b1 hb_b1 w1 hw_w1
  refine LW.val hL rfl (Wants.free rfl) rfl (boxE hb_b1 hw_w1 (Vl.box (v := .map m1) rfl)) ?_
  refine LW.rd hL rfl (Wants.free rfl) rfl (Rd.assign (v := .nilFunc) rfl) ?_
  refine LW.nil hL rfl ?_
  refine NW.then ?_
  refine CW.seq ?_
  refine CW.region fun L hL => ?_
  refine LW.rd hL rfl (Wants.free rfl) rfl (Rd.makeFunc rfl) ?_
  refine LW.rd hL rfl (Wants.free rfl) rfl (Rd.assign (v := .func (.func 118) #[] #[.pointer (some (⟨b1, 0, none⟩ : Addr))]) rfl) ?_
  refine LW.nil hL rfl ?_
  refine NW.then ?_
  refine CW.ret ?_
  exact res1 rfl rfl ⟨.func (.func 118) #[] #[.pointer (some (⟨b1, 0, none⟩ : Addr))], rfl, h⟩

/- maps.Keys[map[int]*pomander/shadow.page,int,*pomander/shadow.page]$1 -/
def W_maps_Keys_0_1 (yield1 : Value) (cap1 : Addr) (w : World) (R : World → Prop) : Prop :=
  ∃ (t1 : Option Nat), w.cell? cap1 = some (.map t1) ∧ (∃ (it1 : Option Addr) (w1 : World), (Instr.range 173 (.map t1)).run Try.prog w = .ok (.pointer it1) w1 ∧ (∃ (I1 : World → Prop) (m1 : World → Nat), I1 w1 ∧ ∀ (w2 : World), I1 w2 → ∃ (nx1 : Array Value) (ok1 : Bool) (w3 : World), (Instr.next (.pointer it1) false 0).run Try.prog w2 = .ok (.tuple nx1) w3 ∧ nx1[0]? = some (.bool ok1) ∧ ((ok1 = true → ∃ (k1 : Int) (v1 : Option Addr), (Instr.entry (.pointer it1)).run Try.prog w3 = .ok (.tuple #[.int .i64 k1, .pointer v1]) w3 ∧ (XR.CallsY Try.prog yield1 #[.int .i64 k1] w3 fun e w4 => ∃ (r1 : Bool), e = .returned (.bool r1) ∧ (((!r1) = true → R w4) ∧ ((!r1) = false → (I1 w4 ∧ m1 w4 < m1 w2))))) ∧ (ok1 = false → R w3))))
set_option maxRecDepth 100000 in
theorem go_maps_Keys_0_1 (yield1 : Value) (cap1 : Addr) (w : World) (R : World → Prop) (h : W_maps_Keys_0_1 yield1 cap1 w R) : Calls Try.prog 117 #[yield1, .pointer (some cap1)] w (fun e w' => e = .returned (.tuple #[]) ∧ R w') := by
  unfold W_maps_Keys_0_1 at h
  refine enter (N := 14) Try.func117 rfl rfl ?_
  refine CW.seq ?_
  refine CW.region fun L hL => ?_
  obtain ⟨t1, hc1, h⟩ := h
  refine LW.rd hL rfl (Wants.free rfl) rfl (Rd.ld (v := .map t1) rfl (by kernel_rfl) (eqs hc1)) ?_
  obtain ⟨it1, w1, hm1, h⟩ := h
  refine LW.val hL rfl (Wants.free rfl) rfl (Vl.range (v := .pointer it1) rfl hm1) ?_
  refine LW.nil hL rfl ?_
  refine NW.then ?_
  refine CW.block ?_
  obtain ⟨I1, m1, hI1, h⟩ := h
  refine CW.loop (S := Unit) (fun s1 => [(0, yield1), (5, .pointer it1)]) (fun s1 w2 => I1 w2) (fun s1 w2 => m1 w2) () (by exact ⟨rfl, rfl, trivial⟩) hI1 (fun s1 w2 hI1 => ?_)
  replace h := h w2 hI1
  refine CW.seq ?_
  refine CW.region fun L hL => ?_
  obtain ⟨nx1, ok1, w3, hm2, hk1, h⟩ := h
  refine LW.val hL rfl (Wants.free rfl) rfl (Vl.next (v := .tuple nx1) rfl hm2) ?_
  refine LW.rd hL rfl (Wants.free rfl) rfl (Rd.extract (v := .bool ok1) rfl hk1) ?_
  refine LW.nil hL rfl ?_
  refine NW.then ?_
  refine CW.seq ?_
  refine CW.cond rfl (fun hb1 => ?_) (fun hb1 => ?_)
  · replace h := h.1 hb1
    refine CW.skip ?_
    refine NW.then ?_
    refine CW.block ?_
    refine CW.seq ?_
    refine CW.region fun L hL => ?_
    obtain ⟨k1, v1, hl1, h⟩ := h
    refine LW.rd hL rfl (Wants.free rfl) rfl (Rd.entry (v := .tuple #[.int .i64 k1, .pointer v1]) rfl (fun _ e => e ▸ hl1)) ?_
    refine LW.rd hL rfl (Wants.free rfl) rfl (Rd.extract (v := .int .i64 k1) rfl rfl) ?_
    refine LW.rd hL rfl (Wants.free rfl) rfl (Rd.assign (v := .int .i64 k1) rfl) ?_
    refine LW.nil hL rfl ?_
    refine NW.then ?_
    refine CW.seq ?_
    refine XR.CW.un ?_
    refine XR.CW.region fun L hL => ?_
    refine XR.LW.rd hL rfl (Wants.free rfl) rfl (Rd.move (v := yield1) rfl) ?_
    refine XR.LW.rd hL rfl (Wants.free rfl) rfl (Rd.move (v := .int .i64 k1) rfl) ?_
    refine XR.LW.callY hL rfl (Wants.free rfl) rfl rfl rfl h (fun e w4 h_ => ?_)
    clear h
    obtain ⟨r1, rfl, h⟩ := h_
    refine ⟨_, rfl, ?_⟩
    refine XR.LW.rd hL rfl (Wants.free rfl) rfl (Rd.un (v := .bool (!r1)) rfl (fun _ => by kernel_rfl)) ?_
    refine XR.LW.nil hL rfl ?_
    refine NW.then ?_
    refine CW.cond rfl (fun hb2 => ?_) (fun hb2 => ?_)
    · replace h := h.1 hb2
      refine CW.ret ?_
      refine RW.block ?_
      refine RW.then ?_
      refine RW.block ?_
      exact res0 rfl ⟨rfl, h⟩
    · replace h := h.2 hb2
      refine CW.skip ?_
      refine NW.block ?_
      exact NW.loop (S := Unit) (Ek := fun s1 => [(0, yield1), (5, .pointer it1)]) () (by exact ⟨rfl, rfl, trivial⟩) h
  · replace h := h.2 hb1
    refine CW.exit ?_
    refine XW.then ?_
    refine XW.then ?_
    refine XW.hit ?_
    exact res0n rfl (by exact ⟨rfl, h⟩)

/- maps.All[map[int]*pomander/shadow.page,int,*pomander/shadow.page]$1 -/
def W_maps_All_0_1 (yield1 : Value) (cap1 : Addr) (w : World) (R : World → Prop) : Prop :=
  ∃ (t1 : Option Nat), w.cell? cap1 = some (.map t1) ∧ (∃ (it1 : Option Addr) (w1 : World), (Instr.range 173 (.map t1)).run Try.prog w = .ok (.pointer it1) w1 ∧ (∃ (I1 : World → Prop) (m1 : World → Nat), I1 w1 ∧ ∀ (w2 : World), I1 w2 → ∃ (nx1 : Array Value) (ok1 : Bool) (w3 : World), (Instr.next (.pointer it1) false 0).run Try.prog w2 = .ok (.tuple nx1) w3 ∧ nx1[0]? = some (.bool ok1) ∧ ((ok1 = true → ∃ (k1 : Int) (v1 : Option Addr), (Instr.entry (.pointer it1)).run Try.prog w3 = .ok (.tuple #[.int .i64 k1, .pointer v1]) w3 ∧ (XR.CallsY Try.prog yield1 #[.int .i64 k1, .pointer v1] w3 fun e w4 => ∃ (r1 : Bool), e = .returned (.bool r1) ∧ (((!r1) = true → R w4) ∧ ((!r1) = false → (I1 w4 ∧ m1 w4 < m1 w2))))) ∧ (ok1 = false → R w3))))
set_option maxRecDepth 100000 in
theorem go_maps_All_0_1 (yield1 : Value) (cap1 : Addr) (w : World) (R : World → Prop) (h : W_maps_All_0_1 yield1 cap1 w R) : Calls Try.prog 118 #[yield1, .pointer (some cap1)] w (fun e w' => e = .returned (.tuple #[]) ∧ R w') := by
  unfold W_maps_All_0_1 at h
  refine enter (N := 17) Try.func118 rfl rfl ?_
  refine CW.seq ?_
  refine CW.region fun L hL => ?_
  obtain ⟨t1, hc1, h⟩ := h
  refine LW.rd hL rfl (Wants.free rfl) rfl (Rd.ld (v := .map t1) rfl (by kernel_rfl) (eqs hc1)) ?_
  obtain ⟨it1, w1, hm1, h⟩ := h
  refine LW.val hL rfl (Wants.free rfl) rfl (Vl.range (v := .pointer it1) rfl hm1) ?_
  refine LW.nil hL rfl ?_
  refine NW.then ?_
  refine CW.block ?_
  obtain ⟨I1, m1, hI1, h⟩ := h
  refine CW.loop (S := Unit) (fun s1 => [(0, yield1), (6, .pointer it1)]) (fun s1 w2 => I1 w2) (fun s1 w2 => m1 w2) () (by exact ⟨rfl, rfl, trivial⟩) hI1 (fun s1 w2 hI1 => ?_)
  replace h := h w2 hI1
  refine CW.seq ?_
  refine CW.region fun L hL => ?_
  obtain ⟨nx1, ok1, w3, hm2, hk1, h⟩ := h
  refine LW.val hL rfl (Wants.free rfl) rfl (Vl.next (v := .tuple nx1) rfl hm2) ?_
  refine LW.rd hL rfl (Wants.free rfl) rfl (Rd.extract (v := .bool ok1) rfl hk1) ?_
  refine LW.nil hL rfl ?_
  refine NW.then ?_
  refine CW.seq ?_
  refine CW.cond rfl (fun hb1 => ?_) (fun hb1 => ?_)
  · replace h := h.1 hb1
    refine CW.skip ?_
    refine NW.then ?_
    refine CW.block ?_
    refine CW.seq ?_
    refine CW.region fun L hL => ?_
    obtain ⟨k1, v1, hl1, h⟩ := h
    refine LW.rd hL rfl (Wants.free rfl) rfl (Rd.entry (v := .tuple #[.int .i64 k1, .pointer v1]) rfl (fun _ e => e ▸ hl1)) ?_
    refine LW.rd hL rfl (Wants.free rfl) rfl (Rd.extract (v := .int .i64 k1) rfl rfl) ?_
    refine LW.rd hL rfl (Wants.free rfl) rfl (Rd.extract (v := .pointer v1) rfl rfl) ?_
    refine LW.rd hL rfl (Wants.free rfl) rfl (Rd.assign (v := .int .i64 k1) rfl) ?_
    refine LW.rd hL rfl (Wants.free rfl) rfl (Rd.assign (v := .pointer v1) rfl) ?_
    refine LW.nil hL rfl ?_
    refine NW.then ?_
    refine CW.seq ?_
    refine XR.CW.un ?_
    refine XR.CW.region fun L hL => ?_
    refine XR.LW.rd hL rfl (Wants.free rfl) rfl (Rd.move (v := yield1) rfl) ?_
    refine XR.LW.rd hL rfl (Wants.free rfl) rfl (Rd.move (v := .int .i64 k1) rfl) ?_
    refine XR.LW.rd hL rfl (Wants.free rfl) rfl (Rd.move (v := .pointer v1) rfl) ?_
    refine XR.LW.callY hL rfl (Wants.free rfl) rfl rfl rfl h (fun e w4 h_ => ?_)
    clear h
    obtain ⟨r1, rfl, h⟩ := h_
    refine ⟨_, rfl, ?_⟩
    refine XR.LW.rd hL rfl (Wants.free rfl) rfl (Rd.un (v := .bool (!r1)) rfl (fun _ => by kernel_rfl)) ?_
    refine XR.LW.nil hL rfl ?_
    refine NW.then ?_
    refine CW.cond rfl (fun hb2 => ?_) (fun hb2 => ?_)
    · replace h := h.1 hb2
      refine CW.ret ?_
      refine RW.block ?_
      refine RW.then ?_
      refine RW.block ?_
      exact res0 rfl ⟨rfl, h⟩
    · replace h := h.2 hb2
      refine CW.skip ?_
      refine NW.block ?_
      exact NW.loop (S := Unit) (Ek := fun s1 => [(0, yield1), (6, .pointer it1)]) () (by exact ⟨rfl, rfl, trivial⟩) h
  · replace h := h.2 hb1
    refine CW.exit ?_
    refine XW.then ?_
    refine XW.then ?_
    refine XW.hit ?_
    exact res0n rfl (by exact ⟨rfl, h⟩)

end Go.Proofs.Ytkfncibmfcdokaa
