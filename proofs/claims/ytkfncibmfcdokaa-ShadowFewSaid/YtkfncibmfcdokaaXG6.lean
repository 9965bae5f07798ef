import Derived.Test.YtkfncibmfcdokaaProg
import Derived.Test.YtkfncibmfcdokaaXEq
import Derived.Test.YtkfncibmfcdokaaXLoc
import Derived.Test.YtkfncibmfcdokaaXRange
set_option linter.unusedVariables false
set_option linter.unusedSimpArgs false
namespace Go.Proofs.Ytkfncibmfcdokaa
open Go Go.X

/- slices.Collect[int] -/
def W_slices_Collect_61 (seq1 : Value) (w : World) (R : (Option Addr) → Nat → Nat → World → Prop) : Prop :=
  Calls Try.prog 134 #[.slice none 0 0, seq1] w fun e w1 => ∃ (r2 : Option Addr) (r2n : Nat) (r2c : Nat), e = .returned (.slice r2 r2n r2c) ∧ (R r2 r2n r2c w1)
set_option maxRecDepth 100000 in
theorem go_slices_Collect_61 (seq1 : Value) (w : World) (R : (Option Addr) → Nat → Nat → World → Prop) (h : W_slices_Collect_61 seq1 w R) : Calls Try.prog 115 #[seq1] w (fun e w' => ∃ (r1 : Option Addr) (r1n : Nat) (r1c : Nat), e = .returned (.slice r1 r1n r1c) ∧ R r1 r1n r1c w') := by
  unfold W_slices_Collect_61 at h
  refine enter (N := 5) Try.func115 rfl rfl ?_
  refine CW.seq ?_
  refine CW.region fun L hL => ?_
  refine LW.rd hL rfl (Wants.free rfl) rfl (Rd.assign (v := .slice none 0 0) rfl) ?_
  refine LW.nil hL rfl ?_
  refine NW.then ?_
  refine CW.seq ?_
  refine CW.region fun L hL => ?_
  refine LW.rd hL rfl (Wants.free rfl) rfl (Rd.move (v := seq1) rfl) ?_
  refine LW.call hL rfl (Wants.free rfl) rfl (Cl.fn (f := 134) rfl Try.func134 (by kernel_rfl) rfl) h (fun e w1 h_ => ?_)
  clear h
  obtain ⟨r2, r2n, r2c, rfl, h⟩ := h_
  refine ⟨_, rfl, ?_⟩
  refine LW.rd hL rfl (Wants.free rfl) rfl (Rd.assign (v := .slice r2 r2n r2c) rfl) ?_
  refine LW.nil hL rfl ?_
  refine NW.then ?_
  refine CW.ret ?_
  exact res1 rfl rfl ⟨r2, r2n, r2c, rfl, h⟩

/- slices.AppendSeq[[]int,int] -/
def W_slices_AppendSeq_577 (s1 : Option Addr) (s1n : Nat) (s1c : Nat) (seq1 : Value) (w : World) (R : (Option Addr) → Nat → Nat → World → Prop) : Prop :=
  ∀ (b1 : Nat) (w1 : World), (w.heap.size ≤ b1 ∧ b1 < w1.heap.size) → Chg [] w w1 → (∃ (S1 Sp1 : List (Int) → Prop) (keep1 : List Nat), XR.IsFn Try.prog seq1 ∧ XR.Iterates Try.prog seq1 (fun x : Int => #[.int .i64 x]) S1 Sp1 keep1 w1 ∧ (∀ i_ ∈ keep1, i_ < w1.heap.size) ∧ ∃ (I1 : (Option Addr) → Nat → Nat → List Nat → List (Int) → World → Prop), (∀ (c1 : Option Addr) (c1n : Nat) (c1c : Nat) (pre_ : List (Int)), XR.Stab w1 (fun O_ w_ => I1 c1 c1n c1c O_ pre_ w_)) ∧ (∀ (O1 : List Nat) (w2 : World), Chg [] w1 w2 → XR.InO w1 O1 w2 → I1 s1 s1n s1c O1 ([]) w2) ∧ (∀ (l1 : Nat) (O1 : List Nat) (pre1 : List (Int)) (x1 : Int) (c1 : Option Addr) (c1n : Nat) (c1c : Nat) (w2 : World), XR.InO w1 O1 w2 → l1 ∈ O1 → Sp1 (pre1 ++ [x1]) → I1 c1 c1n c1c O1 pre1 w2 → (∀ (w3 : World), Chg [l1] w2 w3 → (∀ b2 : Nat, b2 = World.size w3 → ∀ w4 : World, w4 = World.alloc w3 (.cells #[.int .i64 x1] 3) → (∃ (l2 : Option Addr) (l2n : Nat) (l2c : Nat) (w5 : World), (Builtin.append_ #[168, 168] 168 #[.slice c1 c1n c1c, .slice (some (⟨b2, 0, none⟩ : Addr)) 1 1]).run Try.prog w4 = .ok (.slice l2 l2n l2c) w5 ∧ (Same w4 w5 [b1] ∧ (∀ (w6 : World), Chg [b1] w5 w6 → ((w3.heap.size ≤ w6.heap.size ∧ I1 l2 l2n l2c O1 (pre1 ++ [x1]) w6 ∧ Same w3 w6 (keep1 ++ O1))))))))) ∧ (∀ (d1 : Nat) (O2 : List Nat) (xs1 : List (Int)) (c1 : Option Addr) (c1n : Nat) (c1c : Nat) (w7 : World), XR.InO w1 O2 w7 → d1 ∈ O2 → S1 xs1 → I1 c1 c1n c1c O2 xs1 w7 → (∀ w8 : World, Chg [d1] w7 w8 → (R c1 c1n c1c w8))))
set_option maxRecDepth 100000 in
theorem go_slices_AppendSeq_577 (s1 : Option Addr) (s1n : Nat) (s1c : Nat) (seq1 : Value) (w : World) (R : (Option Addr) → Nat → Nat → World → Prop) (h : W_slices_AppendSeq_577 s1 s1n s1c seq1 w R) : Calls Try.prog 134 #[.slice s1 s1n s1c, seq1] w (fun e w' => ∃ (r1 : Option Addr) (r1n : Nat) (r1c : Nat), e = .returned (.slice r1 r1n r1c) ∧ R r1 r1n r1c w') := by
  unfold W_slices_AppendSeq_577 at h
  refine XR.enterM (N := 13) Try.func134 rfl rfl ?_
  refine CW.seq ?_
  refine CW.region fun L hL => ?_
  obtain ⟨b1, hb_b1⟩ : ∃ b1, b1 = World.size w := ⟨_, rfl⟩
  obtain ⟨w1, hw_w1⟩ : ∃ w1, w1 = World.alloc w (.cells #[.slice s1 s1n s1c] 168) := ⟨_, rfl⟩
  refine LW.val hL rfl (Wants.free rfl) rfl (boxE hb_b1 hw_w1 (Vl.box (v := .slice s1 s1n s1c) rfl)) ?_
  have hB := Boxes.alloc (cs := [.slice s1 s1n s1c]) (T := 168) (Boxes.nil w) hb_b1 hw_w1
  have hlo_b1 := sil_lo (Chg.refl [] w) hb_b1
  have hc_w1 := sil_alloc (Chg.refl [] w) hw_w1
  refine LW.rd hL rfl (Wants.free rfl) rfl (Rd.assign (v := .slice none 0 0) rfl) ?_
  refine LW.nil hL rfl ?_
  refine NW.then ?_
  refine CW.seq ?_
  refine CW.seq ?_
  refine CW.region fun L hL => ?_
  refine LW.rd hL rfl (Wants.free rfl) rfl (Rd.move (v := seq1) rfl) ?_
  refine LW.nil hL rfl ?_
  refine NW.then ?_
  refine CW.block ?_
  replace h := h b1 w1 ⟨hlo_b1, lt_of_heap (hB.at (i := 0) rfl)⟩ hc_w1
  obtain ⟨S1, Sp1, keep1, hfn_, hit_, hkp_, I1, hst_I1, h0_, hrd_, hdn_⟩ := h
  refine XR.CW.rangeV (α := Int) (enc := (fun x : Int => #[.int .i64 x])) (S := S1) (Sp := Sp1) (keep := keep1) rfl hfn_ (fun _ => rfl) (by decide) hit_ (fun (O_ : List Nat) (pre_ : List (Int)) (w_ : World) => ∃ (c1 : Option Addr) (c1n : Nat) (c1c : Nat), I1 c1 c1n c1c O_ pre_ w_ ∧ Boxes w_ [(b1, [.slice c1 c1n c1c], 168)]) (fun (c_ : Code) (O_ : List Nat) (pre_ : List (Int)) (w_ : World) => False) ?_ ?_ ?_ hkp_ ?_ ?_ ?_
  · intro pre_ O_ O2_ A_ B_ hi_ hO_ hc_ hO2_ hg_
    have hB0_ := hB
    obtain ⟨c1, c1n, c1c, hi_, hB⟩ := hi_
    exact ⟨c1, c1n, c1c, hst_I1 c1 c1n c1c pre_ O_ O2_ A_ B_ hi_ hO_ hc_ hO2_ hg_, hB.stab hB0_ rfl hO_ hc_⟩
  · intro c_ pre_ O_ O2_ A_ B_ hi_ hO_ hc_ hO2_ hg_
    exact hi_.elim
  · intro O_ A_ hc_ hO_
    exact ⟨s1, s1n, s1c, h0_ O_ A_ hc_ hO_, Boxes.chg hB hc_ (by simp)⟩
  · intro l1 O1 pre1 x_ w2 hO_ hl_ hSp_ hi_
    obtain ⟨x1, rfl⟩ : ∃ y, y = x_ := ⟨_, rfl⟩
    obtain ⟨c1, c1n, c1c, hi_, hB⟩ := hi_
    have h := hrd_ l1 O1 pre1 x1 c1 c1n c1c w2 hO_ hl_ hSp_ hi_
    refine XR.CW.region fun L hL => ?_
    refine XR.LW.rd hL rfl (Wants.free rfl) rfl (Rd.assign (v := .int .i64 x1) rfl) ?_
    refine XR.LW.nil hL rfl ?_
    refine XR.NW.begin (Chg.refl [] w2) (fun w3 hcb_w3 hlp_ hib_ => ?_)
    have hc_w3 : Chg [l1] w2 w3 := sil_more (Chg.refl [] w2) hcb_w3
    replace hB := hB.notloop hlp_ hcb_w3
    replace h := h  w3  hc_w3
    refine XR.CW.block ?_
    refine XR.CW.region fun L hL => ?_
    refine XR.LW.rd hL rfl (Wants.free rfl) rfl (Rd.ld (v := .slice c1 c1n c1c) rfl (by kernel_rfl) (eqs (box_cell (hB.at (i := 0) rfl) rfl))) ?_
    refine XR.LW.rd hL rfl (Wants.free rfl) rfl (Rd.move (v := .int .i64 x1) rfl) ?_
    obtain ⟨b2, hb_b2⟩ : ∃ b2, b2 = World.size w3 := ⟨_, rfl⟩
    obtain ⟨w4, hw_w4⟩ : ∃ w4, w4 = World.alloc w3 (.cells #[.int .i64 x1] 3) := ⟨_, rfl⟩
    replace h := h b2 hb_b2 w4 hw_w4
    refine XR.LW.val hL rfl (Wants.free rfl) rfl (sliceE (n := 1) hb_b2 hw_w4 (fun w => Vl.buildSlice (vs := [(0, .int .i64 x1)]) rfl (by kernel_rfl))) ?_
    replace hB := hB.grow hw_w4
    obtain ⟨l2, l2n, l2c, w5, ha1, h⟩ := h
    refine XR.LW.val hL rfl (Wants.free rfl) rfl (Vl.builtin (v := .slice l2 l2n l2c) rfl (valB ha1)) ?_
    obtain ⟨hsm1, h⟩ := h
    replace hB := Boxes.sameS hB hsm1 (by simp)
    obtain ⟨w6, hw_w6⟩ : ∃ x, x = World.setCell w5 (⟨b1, 0, none⟩ : Addr) (.slice l2 l2n l2c) := ⟨_, rfl⟩
    refine XR.LW.eff hL rfl (Wants.free rfl) rfl (stE hw_w6 (Ef.st rfl rfl rfl (by kernel_rfl) (box_cell (v := .slice c1 c1n c1c) (hB.at (i := 0) rfl) rfl) (free_of (hB.at (i := 0) rfl) 0))) ?_
    replace hB : Boxes w6 [(b1, [.slice l2 l2n l2c], 168)] := Boxes.store1  (i := 0) (o := 0) hB rfl rfl rfl rfl hw_w6
    have hc_w6 : Chg [b1] w5 w6 := sil_more (Chg.refl [] w5) (sil_c1 hw_w6)
    refine XR.LW.nil hL rfl ?_
    refine NW.block ?_
    replace h := h  w6  hc_w6
    exact fun a_ ha_ => ⟨h.1, ⟨l2, l2n, l2c, h.2.1, hB⟩, h.2.2⟩
  · intro d1 O2 xs1 w7 hO_ hd_ hdh_ hS_ hi_
    obtain ⟨c1, c1n, c1c, hi_, hB⟩ := hi_
    have h := hdn_ d1 O2 xs1 c1 c1n c1c w7 hO_ hd_ hS_ hi_
    have hK := XR.Marks.cons (XR.Marks.nil _) hdh_ (by simp)
    refine NW.block ?_
    refine NW.then ?_
    refine CW.seq ?_
    refine CW.region fun L hL => ?_
    refine LW.rd hL rfl (Wants.free rfl) rfl (Rd.ld (v := .slice c1 c1n c1c) rfl (by kernel_rfl) (eqs (box_cell (hB.at (i := 0) rfl) rfl))) ?_
    refine LW.rd hL rfl (Wants.free rfl) rfl (Rd.assign (v := .slice c1 c1n c1c) rfl) ?_
    refine LW.nil hL rfl ?_
    refine NW.then ?_
    refine CW.ret ?_
    exact XR.resM (ms := [d1]) (vs := [.slice c1 c1n c1c]) hK rfl (fun w_ hc_ => ⟨(ResOK.t rfl ResOK.nil), c1, c1n, c1c, rfl, h w_ hc_⟩)
  · intro d2 c_ O3 xs2 w9 hO_ hd_ hdh_ hS_ hi_
    exact hi_.elim

/- slices.Sorted[int] -/
def W_slices_Sorted_61 (seq1 : Value) (w : World) (R : (Option Addr) → Nat → Nat → World → Prop) : Prop :=
  Calls Try.prog 115 #[seq1] w fun e w1 => ∃ (r2 : Option Addr) (r2n : Nat) (r2c : Nat), e = .returned (.slice r2 r2n r2c) ∧ (Calls Try.prog 116 #[.slice r2 r2n r2c] w1 fun e w2 => e = .returned (.tuple #[]) ∧ (R r2 r2n r2c w2))
set_option maxRecDepth 100000 in
theorem go_slices_Sorted_61 (seq1 : Value) (w : World) (R : (Option Addr) → Nat → Nat → World → Prop) (h : W_slices_Sorted_61 seq1 w R) : Calls Try.prog 94 #[seq1] w (fun e w' => ∃ (r1 : Option Addr) (r1n : Nat) (r1c : Nat), e = .returned (.slice r1 r1n r1c) ∧ R r1 r1n r1c w') := by
  unfold W_slices_Sorted_61 at h
  refine enter (N := 9) Try.func94 rfl rfl ?_
  refine CW.seq ?_
  refine CW.region fun L hL => ?_
  refine LW.rd hL rfl (Wants.free rfl) rfl (Rd.assign (v := .slice none 0 0) rfl) ?_
  refine LW.nil hL rfl ?_
  refine NW.then ?_
  refine CW.seq ?_
  refine CW.region fun L hL => ?_
  refine LW.rd hL rfl (Wants.free rfl) rfl (Rd.move (v := seq1) rfl) ?_
  refine LW.call hL rfl (Wants.free rfl) rfl (Cl.fn (f := 115) rfl Try.func115 (by kernel_rfl) rfl) h (fun e w1 h_ => ?_)
  clear h
  obtain ⟨r2, r2n, r2c, rfl, h⟩ := h_
  refine ⟨_, rfl, ?_⟩
  refine LW.rd hL rfl (Wants.free rfl) rfl (Rd.assign (v := .slice r2 r2n r2c) rfl) ?_
  refine LW.nil hL rfl ?_
  refine NW.then ?_
  refine CW.seq ?_
  refine CW.region fun L hL => ?_
  refine LW.rd hL rfl (Wants.free rfl) rfl (Rd.move (v := .slice r2 r2n r2c) rfl) ?_
  refine LW.call hL rfl (Wants.free rfl) rfl (Cl.fn (f := 116) rfl Try.func116 (by kernel_rfl) rfl) h (fun e w2 h_ => ?_)
  clear h
  obtain ⟨rfl, h⟩ := h_
  refine ⟨_, rfl, ?_⟩
  refine LW.nil hL rfl ?_
  refine NW.then ?_
  refine CW.seq ?_
  refine CW.region fun L hL => ?_
  refine LW.rd hL rfl (Wants.free rfl) rfl (Rd.move (v := .slice r2 r2n r2c) rfl) ?_
  refine LW.rd hL rfl (Wants.free rfl) rfl (Rd.assign (v := .slice r2 r2n r2c) rfl) ?_
  refine LW.nil hL rfl ?_
  refine NW.then ?_
  refine CW.ret ?_
  exact res1 rfl rfl ⟨r2, r2n, r2c, rfl, h⟩

/- (*pomander/shadow.Shadow).All -/
def W_shadow_Shadow_All (s1 : Option Addr) (w : World) (R : Value → World → Prop) : Prop :=
  ∀ b1 : Nat, b1 = World.size w → ∀ w1 : World, w1 = World.alloc w (.cells #[.pointer s1] 90) → (∃ (t1 : Option Addr), w1.cell? (⟨b1, 0, none⟩ : Addr) = some (.pointer t1) ∧ (Calls Try.prog 57 #[.pointer t1] w1 fun e w2 => ∃ (r2 : Option Addr), e = .returned (.pointer r2) ∧ ((∃ o : Value, w2.cell? (⟨b1, 0, none⟩ : Addr) = some o) ∧ w2.frozen? (⟨b1, 0, none⟩ : Addr) = false ∧ ∀ w3 : World, w3 = World.setCell w2 (⟨b1, 0, none⟩ : Addr) (.pointer r2) → (R (.func (.func 93) #[] #[.pointer (some (⟨b1, 0, none⟩ : Addr))]) w3))))
set_option maxRecDepth 100000 in
theorem go_shadow_Shadow_All (s1 : Option Addr) (w : World) (R : Value → World → Prop) (h : W_shadow_Shadow_All s1 w R) : Calls Try.prog 50 #[.pointer s1] w (fun e w' => ∃ (r1 : Value), e = .returned (r1) ∧ R r1 w') := by
  unfold W_shadow_Shadow_All at h
  refine enter (N := 6) Try.func50 rfl rfl ?_
  refine CW.seq ?_
  refine CW.region fun L hL => ?_
  obtain ⟨b1, hb_b1⟩ : ∃ b1, b1 = World.size w := ⟨_, rfl⟩
  obtain ⟨w1, hw_w1⟩ : ∃ w1, w1 = World.alloc w (.cells #[.pointer s1] 90) := ⟨_, rfl⟩
  replace h := h b1 hb_b1 w1 hw_w1
  refine LW.val hL rfl (Wants.free rfl) rfl (boxE hb_b1 hw_w1 (Vl.box (v := .pointer s1) rfl)) ?_
  refine LW.rd hL rfl (Wants.free rfl) rfl (Rd.assign (v := .nilFunc) rfl) ?_
  refine LW.nil hL rfl ?_
  refine NW.then ?_
  refine CW.seq ?_
  refine CW.region fun L hL => ?_
  obtain ⟨t1, hc1, h⟩ := h
  refine LW.rd hL rfl (Wants.free rfl) rfl (Rd.ld (v := .pointer t1) rfl (by kernel_rfl) (eqs hc1)) ?_
  refine LW.call hL rfl (Wants.free rfl) rfl (Cl.fn (f := 57) rfl Try.func57 (by kernel_rfl) rfl) h (fun e w2 h_ => ?_)
  clear h
  obtain ⟨r2, rfl, h⟩ := h_
  refine ⟨_, rfl, ?_⟩
  obtain ⟨⟨o_w3, ho1⟩, hf1, h⟩ := h
  obtain ⟨w3, hw_w3⟩ : ∃ w3, w3 = World.setCell w2 (⟨b1, 0, none⟩ : Addr) (.pointer r2) := ⟨_, rfl⟩
  replace h := h w3 hw_w3
  refine LW.eff hL rfl (Wants.free rfl) rfl (stE hw_w3 (Ef.st rfl rfl rfl (by kernel_rfl) ho1 hf1)) ?_
  refine LW.nil hL rfl ?_
  refine NW.then ?_
  refine CW.seq ?_
  refine CW.region fun L hL => ?_
  refine LW.rd hL rfl (Wants.free rfl) rfl (Rd.makeFunc rfl) ?_
  refine LW.rd hL rfl (Wants.free rfl) rfl (Rd.assign (v := .func (.func 93) #[] #[.pointer (some (⟨b1, 0, none⟩ : Addr))]) rfl) ?_
  refine LW.nil hL rfl ?_
  refine NW.then ?_
  refine CW.ret ?_
  exact res1 rfl rfl ⟨.func (.func 93) #[] #[.pointer (some (⟨b1, 0, none⟩ : Addr))], rfl, h⟩

/- (*pomander/shadow.Shadow).All$1 -/
def W_shadow_Shadow_All_1 (yield1 : Value) (cap1 : Addr) (w : World) (R : World → Prop) : Prop :=
  ∃ (t1 : Option Addr), w.cell? cap1 = some (.pointer t1) ∧ (Calls Try.prog 90 #[.pointer t1] w fun e w1 => ∃ (r1 : Bool), e = .returned (.bool r1) ∧ ((r1 = true → R w1) ∧ (r1 = false → ∃ (t2 : Option Addr), w1.cell? cap1 = some (.pointer t2) ∧ (∃ a1 : Addr, t2 = some a1 ∧ (∃ (t3 : Option Nat), w1.cell? (a1.add 1) = some (.map t3) ∧ (Calls Try.prog 95 #[.map t3] w1 fun e w2 => ∃ (r2 : Value), e = .returned (r2) ∧ (Calls Try.prog 94 #[r2] w2 fun e w3 => ∃ (r3 : Option Addr) (r3n : Nat) (r3c : Nat), e = .returned (.slice r3 r3n r3c) ∧ (∃ (I1 : Int → World → Prop) (m1 : Int → World → Nat), I1 0 w3 ∧ ∀ (x1 : Int) (w4 : World), I1 x1 w4 → ((decide (x1 < (r3n : Int))) = true → ∃ a2 : Addr, r3 = some a2 ∧ (0 : Int) ≤ x1 ∧ x1 < (r3n : Int) ∧ (∃ (t4 : Int), w4.cell? (a2.add (Int.toNat x1 * 1)) = some (.int .i64 t4) ∧ (∃ (t5 : Option Addr), w4.cell? cap1 = some (.pointer t5) ∧ (∃ a3 : Addr, t5 = some a3 ∧ (∃ (t6 : Option Nat), w4.cell? (a3.add 1) = some (.map t6) ∧ (∃ (v1 : Option Addr), (Instr.lookup 173 (.map t6) (.int .i64 t4) false).run Try.prog w4 = .ok (.pointer v1) w4 ∧ (∃ a4 : Addr, v1 = some a4 ∧ (∃ (t7 : List Value), t7.length = 64 ∧ CellsAt w4 (a4.add 1) 0 t7 ∧ (∃ (I2 : Int → World → Prop) (m2 : Int → World → Nat), I2 0 w4 ∧ ∀ (x2 : Int) (w5 : World), I2 x2 w5 → ((decide (x2 < 64)) = true → ∃ (x3 : Int), (∀ w : World, (Instr.index 179 (.agg (t7).toArray) (.int .i64 x2)).run Try.prog w = .ok (.int .u32 x3) w) ∧ (∃ J1 : Bool → World → Prop, (∀ (b1 : Bool) (w6 : World), J1 b1 w6 → (b1 = true → R w6) ∧ (b1 = false → (I2 (IntKind.wrap .i64 (x2 + 1)) w6 ∧ m2 (IntKind.wrap .i64 (x2 + 1)) w6 < m2 x2 w5))) ∧ (((!(x3 == 0)) = true → XR.CallsY Try.prog yield1 #[.int .i64 (IntKind.wrap .i64 ((IntKind.wrap .i64 (t4 * 64)) + x2)), .int .u32 x3] w5 fun e w7 => ∃ (r4 : Bool), e = .returned (.bool r4) ∧ (J1 (!r4) w7)) ∧ ((!(x3 == 0)) = false → J1 false w5)))) ∧ ((decide (x2 < 64)) = false → (I1 (IntKind.wrap .i64 (x1 + 1)) w5 ∧ m1 (IntKind.wrap .i64 (x1 + 1)) w5 < m1 x1 w4))))))))))) ∧ ((decide (x1 < (r3n : Int))) = false → R w4)))))))))
set_option maxRecDepth 100000 in
theorem go_shadow_Shadow_All_1 (yield1 : Value) (cap1 : Addr) (w : World) (R : World → Prop) (h : W_shadow_Shadow_All_1 yield1 cap1 w R) : Calls Try.prog 93 #[yield1, .pointer (some cap1)] w (fun e w' => e = .returned (.tuple #[]) ∧ R w') := by
  unfold W_shadow_Shadow_All_1 at h
  refine enter (N := 47) Try.func93 rfl rfl ?_
  refine CW.scope0 ?_
  refine CW.seq ?_
  refine CW.seq ?_
  refine CW.region fun L hL => ?_
  obtain ⟨t1, hc1, h⟩ := h
  refine LW.rd hL rfl (Wants.free rfl) rfl (Rd.ld (v := .pointer t1) rfl (by kernel_rfl) (eqs hc1)) ?_
  refine LW.call hL rfl (Wants.free rfl) rfl (Cl.fn (f := 90) rfl Try.func90 (by kernel_rfl) rfl) h (fun e w1 h_ => ?_)
  clear h
  obtain ⟨r1, rfl, h⟩ := h_
  refine ⟨_, rfl, ?_⟩
  refine LW.nil hL rfl ?_
  refine NW.then ?_
  refine CW.cond rfl (fun hb1 => ?_) (fun hb1 => ?_)
  · replace h := h.1 hb1
    refine CW.ret ?_
    refine RW.then ?_
    refine RW.noGoto ?_
    exact res0 rfl ⟨rfl, h⟩
  · replace h := h.2 hb1
    refine CW.skip ?_
    refine NW.then ?_
    refine CW.seq ?_
    refine CW.label ?_
    refine NW.then ?_
    refine CW.seq ?_
    refine CW.region fun L hL => ?_
    obtain ⟨t2, hc2, h⟩ := h
    refine LW.rd hL rfl (Wants.free rfl) rfl (Rd.ld (v := .pointer t2) rfl (by kernel_rfl) (eqs hc2)) ?_
    obtain ⟨a1, ha1, h⟩ := h
    refine LW.rd hL rfl (Wants.free rfl) rfl (Rd.nil (q := a1) (by rw [← ha1]; rfl)) ?_
    refine LW.rd hL rfl (Wants.free rfl) rfl (Rd.fa (v := .pointer (some (a1.add 1))) rfl (fun _ => by kernel_rfl)) ?_
    obtain ⟨t3, hc3, h⟩ := h
    refine LW.rd hL rfl (Wants.free rfl) rfl (Rd.ld (v := .map t3) rfl (by kernel_rfl) (eqs hc3)) ?_
    refine LW.call hL rfl (Wants.free rfl) rfl (Cl.fn (f := 95) rfl Try.func95 (by kernel_rfl) rfl) h (fun e w2 h_ => ?_)
    clear h
    obtain ⟨r2, rfl, h⟩ := h_
    refine ⟨_, rfl, ?_⟩
    refine LW.call hL rfl (Wants.free rfl) rfl (Cl.fn (f := 94) rfl Try.func94 (by kernel_rfl) rfl) h (fun e w3 h_ => ?_)
    clear h
    obtain ⟨r3, r3n, r3c, rfl, h⟩ := h_
    refine ⟨_, rfl, ?_⟩
    refine LW.rd hL rfl (Wants.free rfl) rfl (Rd.builtin (v := .int .i64 (r3n : Int)) rfl (fun _ _ => by kernel_rfl)) ?_
    refine LW.rd hL rfl (Wants.free rfl) rfl (Rd.move (v := .int .i64 0) rfl) ?_
    refine LW.nil hL rfl ?_
    refine NW.then ?_
    refine CW.block ?_
    obtain ⟨I1, m1, hI1, h⟩ := h
    refine CW.loop (S := Int) (fun x1 => [(0, yield1), (1, .pointer (some cap1)), (14, .slice r3 r3n r3c), (15, .int .i64 (r3n : Int)), (16, .int .i64 x1)]) (fun x1 w4 => I1 x1 w4) (fun x1 w4 => m1 x1 w4) 0 (by exact ⟨rfl, rfl, rfl, rfl, rfl, trivial⟩) hI1 (fun x1 w4 hI1 => ?_)
    replace h := h x1 w4 hI1
    refine CW.seq ?_
    refine CW.region fun L hL => ?_
    refine LW.rd hL rfl (Wants.free rfl) rfl (Rd.bin (v := .bool (decide (x1 < (r3n : Int)))) rfl rfl (fun w => by kernel_rfl)) ?_
    refine LW.nil hL rfl ?_
    refine NW.then ?_
    refine CW.seq ?_
    refine CW.cond rfl (fun hb2 => ?_) (fun hb2 => ?_)
    · replace h := h.1 hb2
      refine CW.skip ?_
      refine NW.then ?_
      refine CW.seq ?_
      refine CW.block ?_
      refine CW.seq ?_
      refine CW.region fun L hL => ?_
      obtain ⟨a2, he1, hi1, hi2, h⟩ := h
      refine LW.rd hL rfl (Wants.free rfl) rfl (Rd.iaS (q := a2) (sz := 1) (by rw [← he1]; rfl) rfl Try.underlying168 (by kernel_rfl) hi1 hi2) ?_
      obtain ⟨t4, hc4, h⟩ := h
      refine LW.rd hL rfl (Wants.free rfl) rfl (Rd.ld (v := .int .i64 t4) rfl (by kernel_rfl) (eqs hc4)) ?_
      refine LW.rd hL rfl (Wants.free rfl) rfl (Rd.assign (v := .int .i64 t4) rfl) ?_
      refine LW.nil hL rfl ?_
      refine NW.then ?_
      refine CW.seq ?_
      refine CW.region fun L hL => ?_
      obtain ⟨t5, hc5, h⟩ := h
      refine LW.rd hL rfl (Wants.free rfl) rfl (Rd.ld (v := .pointer t5) rfl (by kernel_rfl) (eqs hc5)) ?_
      obtain ⟨a3, ha2, h⟩ := h
      refine LW.rd hL rfl (Wants.free rfl) rfl (Rd.nil (q := a3) (by rw [← ha2]; rfl)) ?_
      refine LW.rd hL rfl (Wants.free rfl) rfl (Rd.fa (v := .pointer (some (a3.add 1))) rfl (fun _ => by kernel_rfl)) ?_
      obtain ⟨t6, hc6, h⟩ := h
      refine LW.rd hL rfl (Wants.free rfl) rfl (Rd.ld (v := .map t6) rfl (by kernel_rfl) (eqs hc6)) ?_
      refine LW.rd hL rfl (Wants.free rfl) rfl (Rd.move (v := .int .i64 t4) rfl) ?_
      obtain ⟨v1, hl1, h⟩ := h
      refine LW.rd hL rfl (Wants.free rfl) rfl (Rd.lookup (v := .pointer v1) rfl rfl (fun _ e => e ▸ hl1)) ?_
      obtain ⟨a4, ha3, h⟩ := h
      refine LW.rd hL rfl (Wants.free rfl) rfl (Rd.nil (q := a4) (by rw [← ha3]; rfl)) ?_
      refine LW.rd hL rfl (Wants.free rfl) rfl (Rd.fa (v := .pointer (some (a4.add 1))) rfl (fun _ => by kernel_rfl)) ?_
      obtain ⟨t7, hl2, hc7, h⟩ := h
      refine LW.rd hL rfl (Wants.free rfl) rfl (Rd.ldN (cs := t7) rfl (by kernel_rfl) (by rw [hl2]; kernel_rfl) (cellsS hc7)) ?_
      refine LW.rd hL rfl (Wants.free rfl) rfl (Rd.move (v := .int .i64 0) rfl) ?_
      refine LW.nil hL rfl ?_
      refine NW.then ?_
      refine CW.block ?_
      obtain ⟨I2, m2, hI2, h⟩ := h
      refine CW.loop (S := Int) (fun x2 => [(0, yield1), (1, .pointer (some cap1)), (4, .int .i64 t4), (14, .slice r3 r3n r3c), (15, .int .i64 (r3n : Int)), (16, .int .i64 x1), (28, .agg (t7).toArray), (29, .int .i64 x2)]) (fun x2 w5 => I2 x2 w5) (fun x2 w5 => m2 x2 w5) 0 (by exact ⟨rfl, rfl, rfl, rfl, rfl, rfl, rfl, rfl, trivial⟩) hI2 (fun x2 w5 hI2 => ?_)
      replace h := h x2 w5 hI2
      refine CW.seq ?_
      refine CW.region fun L hL => ?_
      refine LW.rd hL rfl (Wants.free rfl) rfl (Rd.bin (v := .bool (decide (x2 < 64))) rfl rfl (fun w => by kernel_rfl)) ?_
      refine LW.nil hL rfl ?_
      refine NW.then ?_
      refine CW.seq ?_
      refine CW.cond rfl (fun hb3 => ?_) (fun hb3 => ?_)
      · replace h := h.1 hb3
        refine CW.skip ?_
        refine NW.then ?_
        refine CW.seq ?_
        refine CW.block ?_
        refine CW.seq ?_
        refine CW.region fun L hL => ?_
        refine LW.rd hL rfl (Wants.free rfl) rfl (Rd.move (v := .int .i64 x2) rfl) ?_
        obtain ⟨x3, hx1, h⟩ := h
        refine LW.rd hL rfl (Wants.free rfl) rfl (Rd.index (v := .int .u32 x3) rfl rfl hx1) ?_
        refine LW.rd hL rfl (Wants.free rfl) rfl (Rd.assign (v := .int .i64 x2) rfl) ?_
        refine LW.rd hL rfl (Wants.free rfl) rfl (Rd.assign (v := .int .u32 x3) rfl) ?_
        refine LW.nil hL rfl ?_
        refine NW.then ?_
        refine CW.seq ?_
        refine XR.CW.un ?_
        refine XR.CW.region fun L hL => ?_
        refine XR.LW.rd hL rfl (Wants.free rfl) rfl (Rd.move (v := .int .u32 x3) rfl) ?_
        refine XR.LW.rd hL rfl (Wants.free rfl) rfl (Rd.bin (v := .bool (!(x3 == 0))) rfl rfl (fun w => by kernel_rfl)) ?_
        refine XR.LW.rd hL rfl (Wants.free rfl) rfl (Rd.move (v := .bool (!(x3 == 0))) rfl) ?_
        obtain ⟨J1, hJ1, h1_J1, h0_J1⟩ := h
        suffices K1 : ∀ (b1 : Bool) (w6 : World), J1 b1 w6 → L 12 [(0, yield1), (1, .pointer (some cap1)), (4, .int .i64 t4), (14, .slice r3 r3n r3c), (15, .int .i64 (r3n : Int)), (16, .int .i64 x1), (28, .agg (t7).toArray), (29, .int .i64 x2), (44, .bool b1)] w6 by
          rcases Bool.eq_false_or_eq_true (!(x3 == 0)) with hb4 | hb4
          · have h := h1_J1 hb4
            refine XR.LW.rd hL rfl (Wants.on rfl rfl rfl rfl rfl hb4) rfl (Rd.move (v := yield1) rfl) ?_
            refine XR.LW.rd hL rfl (Wants.on rfl rfl rfl rfl rfl hb4) rfl (Rd.move (v := .int .i64 t4) rfl) ?_
            refine XR.LW.rd hL rfl (Wants.on rfl rfl rfl rfl rfl hb4) rfl (Rd.bin (v := .int .i64 (IntKind.wrap .i64 (t4 * 64))) rfl rfl (fun w => by kernel_rfl)) ?_
            refine XR.LW.rd hL rfl (Wants.on rfl rfl rfl rfl rfl hb4) rfl (Rd.move (v := .int .i64 x2) rfl) ?_
            refine XR.LW.rd hL rfl (Wants.on rfl rfl rfl rfl rfl hb4) rfl (Rd.bin (v := .int .i64 (IntKind.wrap .i64 ((IntKind.wrap .i64 (t4 * 64)) + x2))) rfl rfl (fun w => by kernel_rfl)) ?_
            refine XR.LW.rd hL rfl (Wants.on rfl rfl rfl rfl rfl hb4) rfl (Rd.move (v := .int .u32 x3) rfl) ?_
            refine XR.LW.callY hL rfl (Wants.on rfl rfl rfl rfl rfl hb4) rfl rfl rfl h (fun e w7 h_ => ?_)
            clear h
            obtain ⟨r4, rfl, h⟩ := h_
            refine ⟨_, rfl, ?_⟩
            refine XR.LW.rd hL rfl (Wants.on rfl rfl rfl rfl rfl hb4) rfl (Rd.un (v := .bool (!r4)) rfl (fun _ => by kernel_rfl)) ?_
            refine XR.LW.rd hL rfl (Wants.free rfl) rfl (Rd.pickT rfl hb4 rfl) ?_
            exact XR.LW.sub hL (by exact ⟨rfl, rfl, rfl, rfl, rfl, rfl, rfl, rfl, rfl, trivial⟩) (K1 (!r4) w7 h)
          · have h := h0_J1 hb4
            refine XR.LW.skip hL rfl (Skips.on rfl rfl rfl rfl rfl hb4) rfl ?_
            refine XR.LW.skip hL rfl (Skips.on rfl rfl rfl rfl rfl hb4) rfl ?_
            refine XR.LW.skip hL rfl (Skips.on rfl rfl rfl rfl rfl hb4) rfl ?_
            refine XR.LW.skip hL rfl (Skips.on rfl rfl rfl rfl rfl hb4) rfl ?_
            refine XR.LW.skip hL rfl (Skips.on rfl rfl rfl rfl rfl hb4) rfl ?_
            refine XR.LW.skip hL rfl (Skips.on rfl rfl rfl rfl rfl hb4) rfl ?_
            refine XR.LW.skip hL rfl (Skips.on rfl rfl rfl rfl rfl hb4) rfl ?_
            refine XR.LW.skip hL rfl (Skips.on rfl rfl rfl rfl rfl hb4) rfl ?_
            refine XR.LW.rd hL rfl (Wants.free rfl) rfl (Rd.pickF rfl hb4 rfl) ?_
            exact XR.LW.sub hL (by exact ⟨rfl, rfl, rfl, rfl, rfl, rfl, rfl, rfl, rfl, trivial⟩) (K1 false w5 h)
        intro b1 w6 h_
        have h := hJ1 b1 w6 h_; clear h_
        refine XR.LW.nil hL rfl ?_
        refine NW.then ?_
        refine CW.cond rfl (fun hb5 => ?_) (fun hb5 => ?_)
        · replace h := h.1 hb5
          refine CW.exit ?_
          refine XW.miss rfl ?_
          refine XW.then ?_
          refine XW.then ?_
          refine XW.miss rfl ?_
          refine XW.miss rfl ?_
          refine XW.then ?_
          refine XW.then ?_
          refine XW.hit ?_
          refine NW.noGoto ?_
          exact res0n rfl (by exact ⟨rfl, h⟩)
        · replace h := h.2 hb5
          refine CW.skip ?_
          refine NW.block ?_
          refine NW.then ?_
          refine CW.region fun L hL => ?_
          refine LW.rd hL rfl (Wants.free rfl) rfl (Rd.bin (v := .int .i64 (IntKind.wrap .i64 (x2 + 1))) rfl rfl (fun w => by kernel_rfl)) ?_
          refine LW.rd hL rfl (Wants.free rfl) rfl (Rd.move (v := .int .i64 (IntKind.wrap .i64 (x2 + 1))) rfl) ?_
          refine LW.nil hL rfl ?_
          exact NW.loop (S := Int) (Ek := fun x2 => [(0, yield1), (1, .pointer (some cap1)), (4, .int .i64 t4), (14, .slice r3 r3n r3c), (15, .int .i64 (r3n : Int)), (16, .int .i64 x1), (28, .agg (t7).toArray), (29, .int .i64 x2)]) (IntKind.wrap .i64 (x2 + 1)) (by exact ⟨rfl, rfl, rfl, rfl, rfl, rfl, rfl, rfl, trivial⟩) h
      · replace h := h.2 hb3
        refine CW.exit ?_
        refine XW.then ?_
        refine XW.then ?_
        refine XW.hit ?_
        refine NW.block ?_
        refine NW.then ?_
        refine CW.region fun L hL => ?_
        refine LW.rd hL rfl (Wants.free rfl) rfl (Rd.bin (v := .int .i64 (IntKind.wrap .i64 (x1 + 1))) rfl rfl (fun w => by kernel_rfl)) ?_
        refine LW.rd hL rfl (Wants.free rfl) rfl (Rd.move (v := .int .i64 (IntKind.wrap .i64 (x1 + 1))) rfl) ?_
        refine LW.nil hL rfl ?_
        exact NW.loop (S := Int) (Ek := fun x1 => [(0, yield1), (1, .pointer (some cap1)), (14, .slice r3 r3n r3c), (15, .int .i64 (r3n : Int)), (16, .int .i64 x1)]) (IntKind.wrap .i64 (x1 + 1)) (by exact ⟨rfl, rfl, rfl, rfl, rfl, trivial⟩) h
    · replace h := h.2 hb2
      refine CW.exit ?_
      refine XW.then ?_
      refine XW.then ?_
      refine XW.hit ?_
      refine NW.noGoto ?_
      exact res0n rfl (by exact ⟨rfl, h⟩)

/- maps.Keys[map[int]*pomander/shadow.page,int,*pomander/shadow.page] -/
def W_maps_Keys_0 (m1 : Option Nat) (w : World) (R : Value → World → Prop) : Prop :=
  ∀ b1 : Nat, b1 = World.size w → ∀ w1 : World, w1 = World.alloc w (.cells #[.map m1] 173) → (R (.func (.func 117) #[] #[.pointer (some (⟨b1, 0, none⟩ : Addr))]) w1)
set_option maxRecDepth 100000 in
theorem go_maps_Keys_0 (m1 : Option Nat) (w : World) (R : Value → World → Prop) (h : W_maps_Keys_0 m1 w R) : Calls Try.prog 95 #[.map m1] w (fun e w' => ∃ (r1 : Value), e = .returned (r1) ∧ R r1 w') := by
  unfold W_maps_Keys_0 at h
  refine enter (N := 4) Try.func95 rfl rfl ?_
  refine CW.seq ?_
  refine CW.region fun L hL => ?_
  obtain ⟨b1, hb_b1⟩ : ∃ b1, b1 = World.size w := ⟨_, rfl⟩
  obtain ⟨w1, hw_w1⟩ : ∃ w1, w1 = World.alloc w (.cells #[.map m1] 173) := ⟨_, rfl⟩
  replace h := h b1 hb_b1 w1 hw_w1
  refine LW.val hL rfl (Wants.free rfl) rfl (boxE hb_b1 hw_w1 (Vl.box (v := .map m1) rfl)) ?_
  refine LW.rd hL rfl (Wants.free rfl) rfl (Rd.assign (v := .nilFunc) rfl) ?_
  refine LW.nil hL rfl ?_
  refine NW.then ?_
  refine CW.seq ?_
  refine CW.region fun L hL => ?_
  refine LW.rd hL rfl (Wants.free rfl) rfl (Rd.makeFunc rfl) ?_
  refine LW.rd hL rfl (Wants.free rfl) rfl (Rd.assign (v := .func (.func 117) #[] #[.pointer (some (⟨b1, 0, none⟩ : Addr))]) rfl) ?_
  refine LW.nil hL rfl ?_
  refine NW.then ?_
  refine CW.ret ?_
  exact res1 rfl rfl ⟨.func (.func 117) #[] #[.pointer (some (⟨b1, 0, none⟩ : Addr))], rfl, h⟩

end Go.Proofs.Ytkfncibmfcdokaa
