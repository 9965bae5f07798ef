/- Texts of the claim, merged: XFt2 XFt3 XTable XFlow1 XFt1 XFlow2 XG4 XG5 XClone XGall XFlowAll XG10 XOrder. -/
import Derived.Test.YtfcfkhbkkfpehaaGreatXMfn1
import Derived.Test.YtfcfkhbkkfpehaaGreatProg
import Derived.Laws.Externs
import Derived.Laws.Cover3
import Derived.MapKept
import Derived.Shelf.SlSortCmp.WholeK
import Derived.Sort.OwnSortedInts

/- XFt2 -/
section
set_option linter.unusedVariables false
set_option linter.unusedSimpArgs false
namespace Go.Proofs.YtfcfkhbkkfpehaaGreat
open Go.X

/- (*pomander/flow.Flow).Decides -/
def V_flow_Flow_Decides (f1 : Option Addr) (l1 : Option Addr) (l1n : Nat) (l1c : Nat) (w : World) (R : Int → Int → World → Prop) : Prop :=
  Calls Tryz.prog 43 #[.pointer f1] w fun e w1 => ∃ (r3 : Bool), e = .returned (.bool r3) ∧ ((r3 = true → R 0 1 w1) ∧ (r3 = false → Calls Tryz.prog 66 #[.pointer f1, .slice l1 l1n l1c] w1 fun e w2 => ∃ (r4 : Bool), e = .returned (.bool r4) ∧ (((!r4) = true → R 0 2 w2) ∧ ((!r4) = false → ∃ (I1 : Int × Int → World → Prop) (m1 : Int × Int → World → Nat), I1 (0, 0) w2 ∧ ∀ (s1 : Int × Int) (w3 : World), I1 s1 w3 → ((decide (s1.2 < (l1n : Int))) = true → ∃ J1 : Int → World → Prop, (∀ (s2 : Int) (w4 : World), J1 s2 w4 → (I1 (s2, IntKind.wrap .i64 (s1.2 + 1)) w4 ∧ m1 (s2, IntKind.wrap .i64 (s1.2 + 1)) w4 < m1 s1 w3)) ∧ (∃ a1 : Addr, l1 = some a1 ∧ (0 : Int) ≤ s1.2 ∧ s1.2 < (l1n : Int) ∧ (∃ (t1 : Int) (t2 : Int) (t3 : Option Addr) (t3n : Nat) (t3c : Nat), CellsAt w3 (a1.add (Int.toNat s1.2 * 3)) 0 [.int .i64 t1, .int .i64 t2, .slice t3 t3n t3c] ∧ (∀ b1 : Nat, b1 = World.size w3 → ∀ w5 : World, w5 = World.alloc w3 (.cells #[.int .i64 0, .int .i64 0, .slice none 0 0] 65) → (Has w5 (⟨b1, 0, none⟩ : Addr) 3 ∧ Free w5 (⟨b1, 0, none⟩ : Addr) 3 ∧ ∀ w6 : World, w6 = setCells w5 (⟨b1, 0, none⟩ : Addr) 0 [.int .i64 t1, .int .i64 t2, .slice t3 t3n t3c] → (∃ (t4 : Int) (t5 : Int), CellsAt w6 (⟨b1, 0, none⟩ : Addr) 0 [.int .i64 t4, .int .i64 t5] ∧ ((((t4 == 0) && (t5 == 0)) = true → ∃ (t6 : Option Addr) (t6n : Nat) (t6c : Nat), w6.cell? (⟨b1, 2, none⟩ : Addr) = some (.slice t6 t6n t6c) ∧ (Calls Tryz.prog 67 #[.pointer f1, .slice t6 t6n t6c] w6 fun e w7 => ∃ (r5 : Int), e = .returned (.int .u32 r5) ∧ (J1 (bits .or .u32 s1.1 r5) w7))) ∧ (((t4 == 0) && (t5 == 0)) = false → J1 s1.1 w6)))))))) ∧ ((decide (s1.2 < (l1n : Int))) = false → R s1.1 0 w3)))))
set_option maxRecDepth 100000 in
theorem ok_flow_Flow_Decides (f1 : Option Addr) (l1 : Option Addr) (l1n : Nat) (l1c : Nat) (w : World) (R : Int → Int → World → Prop) (h : V_flow_Flow_Decides f1 l1 l1n l1c w R) : Calls Tryz.prog 38 #[.pointer f1, .slice l1 l1n l1c] w (fun e w' => ∃ (r1 : Int) (r2 : Int), e = .returned (.tuple #[.int .u32 r1, .int .i64 r2]) ∧ R r1 r2 w') := by
  unfold V_flow_Flow_Decides at h
  refine enter (N := 35) Tryz.func38 rfl rfl ?_
  refine CW.seq ?_
  refine CW.region fun L hL => ?_
  refine LW.rd hL rfl (Wants.free rfl) rfl (Rd.assign (v := .int .u32 0) rfl) ?_
  refine LW.rd hL rfl (Wants.free rfl) rfl (Rd.assign (v := .int .i64 0) rfl) ?_
  refine LW.nil hL rfl ?_
  refine NW.then ?_
  refine CW.seq ?_
  refine CW.block ?_
  refine CW.seq ?_
  refine CW.region fun L hL => ?_
  refine LW.rd hL rfl (Wants.free rfl) rfl (Rd.move (v := .pointer f1) rfl) ?_
  refine LW.call hL rfl (Wants.free rfl) rfl (Cl.fn (f := 43) rfl Tryz.func43 (by kernel_rfl) rfl) h (fun e w1 h_ => ?_)
  clear h
  obtain ⟨r3, rfl, h⟩ := h_
  refine ⟨_, rfl, ?_⟩
  refine LW.rd hL rfl (Wants.free rfl) rfl (Rd.assign (v := .bool r3) rfl) ?_
  refine LW.nil hL rfl ?_
  refine NW.then ?_
  refine CW.cond rfl (fun hb1 => ?_) (fun hb1 => ?_)
  · replace h := h.1 hb1
    refine CW.seq ?_
    refine CW.region fun L hL => ?_
    refine LW.rd hL rfl (Wants.free rfl) rfl (Rd.assign (v := .int .u32 0) rfl) ?_
    refine LW.rd hL rfl (Wants.free rfl) rfl (Rd.assign (v := .int .i64 1) rfl) ?_
    refine LW.nil hL rfl ?_
    refine NW.then ?_
    refine CW.ret ?_
    refine RW.block ?_
    refine RW.then ?_
    exact res2 rfl rfl rfl ⟨0, 1, rfl, h⟩
  · replace h := h.2 hb1
    refine CW.seq ?_
    refine CW.region fun L hL => ?_
    refine LW.rd hL rfl (Wants.free rfl) rfl (Rd.move (v := .pointer f1) rfl) ?_
    refine LW.rd hL rfl (Wants.free rfl) rfl (Rd.move (v := .slice l1 l1n l1c) rfl) ?_
    refine LW.call hL rfl (Wants.free rfl) rfl (Cl.fn (f := 66) rfl Tryz.func66 (by kernel_rfl) rfl) h (fun e w2 h_ => ?_)
    clear h
    obtain ⟨r4, rfl, h⟩ := h_
    refine ⟨_, rfl, ?_⟩
    refine LW.rd hL rfl (Wants.free rfl) rfl (Rd.un (v := .bool (!r4)) rfl (fun _ => by kernel_rfl)) ?_
    refine LW.rd hL rfl (Wants.free rfl) rfl (Rd.assign (v := .bool (!r4)) rfl) ?_
    refine LW.nil hL rfl ?_
    refine NW.then ?_
    refine CW.cond rfl (fun hb2 => ?_) (fun hb2 => ?_)
    · replace h := h.1 hb2
      refine CW.seq ?_
      refine CW.region fun L hL => ?_
      refine LW.rd hL rfl (Wants.free rfl) rfl (Rd.assign (v := .int .u32 0) rfl) ?_
      refine LW.rd hL rfl (Wants.free rfl) rfl (Rd.assign (v := .int .i64 2) rfl) ?_
      refine LW.nil hL rfl ?_
      refine NW.then ?_
      refine CW.ret ?_
      refine RW.block ?_
      refine RW.then ?_
      exact res2 rfl rfl rfl ⟨0, 2, rfl, h⟩
    · replace h := h.2 hb2
      refine CW.skip ?_
      refine NW.block ?_
      refine NW.then ?_
      refine CW.seq ?_
      refine CW.region fun L hL => ?_
      refine LW.rd hL rfl (Wants.free rfl) rfl (Rd.assign (v := .int .u32 0) rfl) ?_
      refine LW.nil hL rfl ?_
      refine NW.then ?_
      refine CW.seq ?_
      refine CW.seq ?_
      refine CW.region fun L hL => ?_
      refine LW.rd hL rfl (Wants.free rfl) rfl (Rd.move (v := .slice l1 l1n l1c) rfl) ?_
      refine LW.rd hL rfl (Wants.free rfl) rfl (Rd.builtin (v := .int .i64 (l1n : Int)) rfl (fun _ _ => by kernel_rfl)) ?_
      refine LW.rd hL rfl (Wants.free rfl) rfl (Rd.move (v := .int .i64 0) rfl) ?_
      refine LW.nil hL rfl ?_
      refine NW.then ?_
      refine CW.block ?_
      obtain ⟨I1, m1, hI1, h⟩ := h
      refine CW.loop (S := Int × Int) (fun s1 => [(0, .pointer f1), (4, .int .u32 0), (5, .int .i64 0), (17, .slice l1 l1n l1c), (18, .int .i64 (l1n : Int)), (6, .int .u32 s1.1), (19, .int .i64 s1.2)]) I1 m1 (0, 0) (by exact ⟨rfl, rfl, rfl, rfl, rfl, rfl, rfl, trivial⟩) hI1 (fun s1 w3 hI1 => ?_)
      replace h := h s1 w3 hI1
      refine CW.seq ?_
      refine CW.region fun L hL => ?_
      refine LW.rd hL rfl (Wants.free rfl) rfl (Rd.bin (v := .bool (decide (s1.2 < (l1n : Int)))) rfl rfl (fun w => by kernel_rfl)) ?_
      refine LW.nil hL rfl ?_
      refine NW.then ?_
      refine CW.seq ?_
      refine CW.cond rfl (fun hb3 => ?_) (fun hb3 => ?_)
      · replace h := h.1 hb3
        refine CW.skip ?_
        refine NW.then ?_
        obtain ⟨J1, hJ1, h⟩ := h
        refine CW.cut (S := Int) (fun s2 => [(0, .pointer f1), (4, .int .u32 0), (5, .int .i64 0), (17, .slice l1 l1n l1c), (18, .int .i64 (l1n : Int)), (19, .int .i64 s1.2), (6, .int .u32 s2)]) J1 (fun s2 w4 h_ => ?_) ?_
        · replace h := hJ1 s2 w4 h_; clear h_
          refine CW.region fun L hL => ?_
          refine LW.rd hL rfl (Wants.free rfl) rfl (Rd.bin (v := .int .i64 (IntKind.wrap .i64 (s1.2 + 1))) rfl rfl (fun w => by kernel_rfl)) ?_
          refine LW.rd hL rfl (Wants.free rfl) rfl (Rd.move (v := .int .i64 (IntKind.wrap .i64 (s1.2 + 1))) rfl) ?_
          refine LW.nil hL rfl ?_
          exact NW.loop (S := Int × Int) (Ek := fun s1 => [(0, .pointer f1), (4, .int .u32 0), (5, .int .i64 0), (17, .slice l1 l1n l1c), (18, .int .i64 (l1n : Int)), (6, .int .u32 s1.1), (19, .int .i64 s1.2)]) (s2, IntKind.wrap .i64 (s1.2 + 1)) (by exact ⟨rfl, rfl, rfl, rfl, rfl, rfl, rfl, trivial⟩) h
        · skip
          refine CW.block ?_
          refine CW.seq ?_
          refine CW.region fun L hL => ?_
          obtain ⟨a1, he1, hi1, hi2, h⟩ := h
          refine LW.rd hL rfl (Wants.free rfl) rfl (Rd.iaS (q := a1) (sz := 3) (by rw [← he1]; rfl) rfl Tryz.underlying27 (by kernel_rfl) hi1 hi2) ?_
          obtain ⟨t1, t2, t3, t3n, t3c, hc1, h⟩ := h
          refine LW.rd hL rfl (Wants.free rfl) rfl (Rd.ldN (cs := [.int .i64 t1, .int .i64 t2, .slice t3 t3n t3c]) rfl (by kernel_rfl) (by kernel_rfl) (cellsS hc1)) ?_
          obtain ⟨b1, hb_b1⟩ : ∃ b1, b1 = World.size w3 := ⟨_, rfl⟩
          obtain ⟨w5, hw_w5⟩ : ∃ w5, w5 = World.alloc w3 (.cells #[.int .i64 0, .int .i64 0, .slice none 0 0] 65) := ⟨_, rfl⟩
          replace h := h b1 hb_b1 w5 hw_w5
          refine LW.val hL rfl (Wants.free rfl) rfl (boxE hb_b1 hw_w5 (Vl.alloc (z := .agg #[.int .i64 0, .int .i64 0, .slice none 0 0]) (by kernel_rfl))) ?_
          obtain ⟨ho1, hf1, h⟩ := h
          obtain ⟨w6, hw_w6⟩ : ∃ w6, w6 = setCells w5 (⟨b1, 0, none⟩ : Addr) 0 [.int .i64 t1, .int .i64 t2, .slice t3 t3n t3c] := ⟨_, rfl⟩
          replace h := h w6 hw_w6
          refine LW.eff hL rfl (Wants.free rfl) rfl (stNE hw_w6 (Ef.stN (cs := [.int .i64 t1, .int .i64 t2, .slice t3 t3n t3c]) rfl rfl (by kernel_rfl) (List.forall_mem_cons.2 ⟨rfl, (List.forall_mem_cons.2 ⟨rfl, (List.forall_mem_cons.2 ⟨rfl, (List.forall_mem_nil _)⟩)⟩)⟩) ho1 hf1)) ?_
          refine LW.nil hL rfl ?_
          refine NW.then ?_
          refine CW.seq ?_
          refine CW.region fun L hL => ?_
          refine LW.rd hL rfl (Wants.free rfl) rfl (Rd.fa (v := .pointer (some (⟨b1, 0, none⟩ : Addr))) rfl (fun _ => by kernel_rfl)) ?_
          obtain ⟨t4, t5, hc2, h⟩ := h
          refine LW.rd hL rfl (Wants.free rfl) rfl (Rd.ldN (cs := [.int .i64 t4, .int .i64 t5]) rfl (by kernel_rfl) (by kernel_rfl) (cellsS hc2)) ?_
          refine LW.rd hL rfl (Wants.free rfl) rfl (Rd.build (v := .agg #[.int .i64 0, .int .i64 0]) rfl (fun _ => by kernel_rfl)) ?_
          refine LW.rd hL rfl (Wants.free rfl) rfl (Rd.bin (v := .bool ((t4 == 0) && (t5 == 0))) rfl rfl (fun w => eqS_62 _ _ _ _ w)) ?_
          refine LW.nil hL rfl ?_
          refine NW.then ?_
          refine CW.cond rfl (fun hb4 => ?_) (fun hb4 => ?_)
          · replace h := h.1 hb4
            refine CW.region fun L hL => ?_
            refine LW.rd hL rfl (Wants.free rfl) rfl (Rd.move (v := .int .u32 s1.1) rfl) ?_
            refine LW.rd hL rfl (Wants.free rfl) rfl (Rd.move (v := .pointer f1) rfl) ?_
            refine LW.rd hL rfl (Wants.free rfl) rfl (Rd.fa (v := .pointer (some (⟨b1, 2, none⟩ : Addr))) rfl (fun _ => by kernel_rfl)) ?_
            obtain ⟨t6, t6n, t6c, hc3, h⟩ := h
            refine LW.rd hL rfl (Wants.free rfl) rfl (Rd.ld (v := .slice t6 t6n t6c) rfl (by kernel_rfl) (eqs hc3)) ?_
            refine LW.call hL rfl (Wants.free rfl) rfl (Cl.fn (f := 67) rfl Tryz.func67 (by kernel_rfl) rfl) h (fun e w7 h_ => ?_)
            clear h
            obtain ⟨r5, rfl, h⟩ := h_
            refine ⟨_, rfl, ?_⟩
            refine LW.rd hL rfl (Wants.free rfl) rfl (Rd.bin (v := .int .u32 (bits .or .u32 s1.1 r5)) rfl rfl (fun w => by kernel_rfl)) ?_
            refine LW.rd hL rfl (Wants.free rfl) rfl (Rd.assign (v := .int .u32 (bits .or .u32 s1.1 r5)) rfl) ?_
            refine LW.nil hL rfl ?_
            refine NW.block ?_
            exact NW.cut (S := Int) (Ek := fun s2 => [(0, .pointer f1), (4, .int .u32 0), (5, .int .i64 0), (17, .slice l1 l1n l1c), (18, .int .i64 (l1n : Int)), (19, .int .i64 s1.2), (6, .int .u32 s2)]) (bits .or .u32 s1.1 r5) (by exact ⟨rfl, rfl, rfl, rfl, rfl, rfl, rfl, trivial⟩) h
          · replace h := h.2 hb4
            refine CW.skip ?_
            refine NW.block ?_
            exact NW.cut (S := Int) (Ek := fun s2 => [(0, .pointer f1), (4, .int .u32 0), (5, .int .i64 0), (17, .slice l1 l1n l1c), (18, .int .i64 (l1n : Int)), (19, .int .i64 s1.2), (6, .int .u32 s2)]) s1.1 (by exact ⟨rfl, rfl, rfl, rfl, rfl, rfl, rfl, trivial⟩) h
      · replace h := h.2 hb3
        refine CW.exit ?_
        refine XW.then ?_
        refine XW.then ?_
        refine XW.hit ?_
        refine NW.then ?_
        refine CW.seq ?_
        refine CW.region fun L hL => ?_
        refine LW.rd hL rfl (Wants.free rfl) rfl (Rd.move (v := .int .u32 s1.1) rfl) ?_
        refine LW.rd hL rfl (Wants.free rfl) rfl (Rd.assign (v := .int .u32 s1.1) rfl) ?_
        refine LW.rd hL rfl (Wants.free rfl) rfl (Rd.assign (v := .int .i64 0) rfl) ?_
        refine LW.nil hL rfl ?_
        refine NW.then ?_
        refine CW.ret ?_
        exact res2 rfl rfl rfl ⟨s1.1, 0, rfl, h⟩

/- pomander/labels.New -/
def V_labels_New (most1 : Int) (w : World) (R : (Option Addr) → Int → World → Prop) : Prop :=
  ((decide (most1 < 1) || decide (most1 > 65536)) = true → R none 2 w) ∧ ((decide (most1 < 1) || decide (most1 > 65536)) = false → ∀ b1 : Nat, b1 = World.size w → ∀ w1 : World, w1 = World.alloc w (.cells #[.int .u32 0] 22) → (∀ b2 : Nat, b2 = World.size w1 → ∀ w2 : World, w2 = World.alloc w1 (.map #[] 0) → (∃ w3 : World, (Instr.mapUpdate 147 (.map (some b2)) (.int .u32 0) (.int .i64 0)).run Tryz.prog w2 = .ok () w3 ∧ (∀ b3 : Nat, b3 = World.size w3 → ∀ w4 : World, w4 = World.alloc w3 (.map #[] 0) → (∀ b4 : Nat, b4 = World.size w4 → ∀ w5 : World, w5 = World.alloc w4 (.cells #[.int .i64 most1, .slice (some (⟨b1, 0, none⟩ : Addr)) 1 1, .map (some b2), .map (some b3)] 150) → (R (some (⟨b4, 0, none⟩ : Addr)) 0 w5))))))
set_option maxRecDepth 100000 in
theorem ok_labels_New (most1 : Int) (w : World) (R : (Option Addr) → Int → World → Prop) (h : V_labels_New most1 w R) : Calls Tryz.prog 57 #[.int .i64 most1] w (fun e w' => ∃ (r1 : Option Addr) (r2 : Int), e = .returned (.tuple #[.pointer r1, .int .i64 r2]) ∧ R r1 r2 w') := by
  unfold V_labels_New at h
  refine enter (N := 17) Tryz.func57 rfl rfl ?_
  refine CW.seq ?_
  refine CW.region fun L hL => ?_
  refine LW.rd hL rfl (Wants.free rfl) rfl (Rd.assign (v := .pointer none) rfl) ?_
  refine LW.rd hL rfl (Wants.free rfl) rfl (Rd.assign (v := .int .i64 0) rfl) ?_
  refine LW.nil hL rfl ?_
  refine NW.then ?_
  refine CW.seq ?_
  refine CW.seq ?_
  refine CW.region fun L hL => ?_
  refine LW.rd hL rfl (Wants.free rfl) rfl (Rd.move (v := .int .i64 most1) rfl) ?_
  refine LW.rd hL rfl (Wants.free rfl) rfl (Rd.bin (v := .bool (decide (most1 < 1))) rfl rfl (fun w => by kernel_rfl)) ?_
  refine LW.rd hL rfl (Wants.free rfl) rfl (Rd.move (v := .bool (decide (most1 < 1))) rfl) ?_
  suffices K1 : L 6 [(0, .int .i64 most1), (2, .pointer none), (3, .int .i64 0), (9, .bool (decide (most1 < 1) || decide (most1 > 65536)))] w by
    rcases Bool.eq_false_or_eq_true (decide (most1 < 1)) with hb2 | hb2
    · skip
      refine LW.skip hL rfl (Skips.on rfl rfl rfl rfl rfl hb2) rfl ?_
      refine LW.skip hL rfl (Skips.on rfl rfl rfl rfl rfl hb2) rfl ?_
      refine LW.rd hL rfl (Wants.free rfl) rfl (Rd.pickT rfl hb2 rfl) ?_
      exact LW.sub hL (by exact ⟨rfl, rfl, rfl, (by rw [hb2]; rfl), trivial⟩) K1
    · skip
      refine LW.rd hL rfl (Wants.on rfl rfl rfl rfl rfl hb2) rfl (Rd.move (v := .int .i64 most1) rfl) ?_
      refine LW.rd hL rfl (Wants.on rfl rfl rfl rfl rfl hb2) rfl (Rd.bin (v := .bool (decide (most1 > 65536))) rfl rfl (fun w => by kernel_rfl)) ?_
      refine LW.rd hL rfl (Wants.free rfl) rfl (Rd.pickF rfl hb2 rfl) ?_
      exact LW.sub hL (by exact ⟨rfl, rfl, rfl, (by rw [hb2]; rfl), trivial⟩) K1
  refine LW.nil hL rfl ?_
  refine NW.then ?_
  refine CW.cond rfl (fun hb3 => ?_) (fun hb3 => ?_)
  · replace h := h.1 hb3
    refine CW.seq ?_
    refine CW.region fun L hL => ?_
    refine LW.rd hL rfl (Wants.free rfl) rfl (Rd.assign (v := .pointer none) rfl) ?_
    refine LW.rd hL rfl (Wants.free rfl) rfl (Rd.assign (v := .int .i64 2) rfl) ?_
    refine LW.nil hL rfl ?_
    refine NW.then ?_
    refine CW.ret ?_
    refine RW.then ?_
    exact res2 rfl rfl rfl ⟨none, 2, rfl, h⟩
  · replace h := h.2 hb3
    refine CW.skip ?_
    refine NW.then ?_
    refine CW.seq ?_
    refine CW.region fun L hL => ?_
    refine LW.rd hL rfl (Wants.free rfl) rfl (Rd.move (v := .int .i64 most1) rfl) ?_
    obtain ⟨b1, hb_b1⟩ : ∃ b1, b1 = World.size w := ⟨_, rfl⟩
    obtain ⟨w1, hw_w1⟩ : ∃ w1, w1 = World.alloc w (.cells #[.int .u32 0] 22) := ⟨_, rfl⟩
    replace h := h b1 hb_b1 w1 hw_w1
    refine LW.val hL rfl (Wants.free rfl) rfl (sliceE (n := 1) hb_b1 hw_w1 (fun w => Vl.buildSlice (vs := [(0, .int .u32 0)]) rfl (by kernel_rfl))) ?_
    obtain ⟨b2, hb_b2⟩ : ∃ b2, b2 = World.size w1 := ⟨_, rfl⟩
    obtain ⟨w2, hw_w2⟩ : ∃ w2, w2 = World.alloc w1 (.map #[] 0) := ⟨_, rfl⟩
    replace h := h b2 hb_b2 w2 hw_w2
    refine LW.val hL rfl (Wants.free rfl) rfl (mapE hb_b2 hw_w2 Vl.makeMap) ?_
    obtain ⟨w3, hm1, h⟩ := h
    refine LW.eff hL rfl (Wants.free rfl) rfl (Ef.insert rfl rfl rfl hm1) ?_
    refine LW.rd hL rfl (Wants.free rfl) rfl (Rd.move (v := .map (some b2)) rfl) ?_
    obtain ⟨b3, hb_b3⟩ : ∃ b3, b3 = World.size w3 := ⟨_, rfl⟩
    obtain ⟨w4, hw_w4⟩ : ∃ w4, w4 = World.alloc w3 (.map #[] 0) := ⟨_, rfl⟩
    replace h := h b3 hb_b3 w4 hw_w4
    refine LW.val hL rfl (Wants.free rfl) rfl (mapE hb_b3 hw_w4 Vl.makeMap) ?_
    refine LW.rd hL rfl (Wants.free rfl) rfl (Rd.build (v := .agg #[.int .i64 most1, .slice (some (⟨b1, 0, none⟩ : Addr)) 1 1, .map (some b2), .map (some b3)]) rfl (fun _ => by kernel_rfl)) ?_
    obtain ⟨b4, hb_b4⟩ : ∃ b4, b4 = World.size w4 := ⟨_, rfl⟩
    obtain ⟨w5, hw_w5⟩ : ∃ w5, w5 = World.alloc w4 (.cells #[.int .i64 most1, .slice (some (⟨b1, 0, none⟩ : Addr)) 1 1, .map (some b2), .map (some b3)] 150) := ⟨_, rfl⟩
    replace h := h b4 hb_b4 w5 hw_w5
    refine LW.val hL rfl (Wants.free rfl) rfl (boxE hb_b4 hw_w5 (Vl.box (v := .agg #[.int .i64 most1, .slice (some (⟨b1, 0, none⟩ : Addr)) 1 1, .map (some b2), .map (some b3)]) rfl)) ?_
    refine LW.rd hL rfl (Wants.free rfl) rfl (Rd.assign (v := .pointer (some (⟨b4, 0, none⟩ : Addr))) rfl) ?_
    refine LW.rd hL rfl (Wants.free rfl) rfl (Rd.assign (v := .int .i64 0) rfl) ?_
    refine LW.nil hL rfl ?_
    refine NW.then ?_
    refine CW.ret ?_
    exact res2 rfl rfl rfl ⟨some (⟨b4, 0, none⟩ : Addr), 0, rfl, h⟩

/- (*pomander/flow.Flow).none -/
def V_flow_Flow_none (f1 : Option Addr) (w : World) (R : Bool → World → Prop) : Prop :=
  ∃ J1 : Bool → World → Prop, (∀ (b1 : Bool) (w1 : World), J1 b1 w1 → R b1 w1) ∧ (((Option.isNone f1) = false → ∃ a1 : Addr, f1 = some a1 ∧ (∃ (t1 : Option Addr), w.cell? (a1.add 2) = some (.pointer t1) ∧ (J1 (Option.isNone t1) w))) ∧ ((Option.isNone f1) = true → J1 true w))
set_option maxRecDepth 100000 in
theorem ok_flow_Flow_none (f1 : Option Addr) (w : World) (R : Bool → World → Prop) (h : V_flow_Flow_none f1 w R) : Calls Tryz.prog 43 #[.pointer f1] w (fun e w' => ∃ (r1 : Bool), e = .returned (.bool r1) ∧ R r1 w') := by
  unfold V_flow_Flow_none at h
  refine enter (N := 12) Tryz.func43 rfl rfl ?_
  refine CW.seq ?_
  refine CW.region fun L hL => ?_
  refine LW.rd hL rfl (Wants.free rfl) rfl (Rd.assign (v := .bool false) rfl) ?_
  refine LW.nil hL rfl ?_
  refine NW.then ?_
  refine CW.seq ?_
  refine CW.region fun L hL => ?_
  refine LW.rd hL rfl (Wants.free rfl) rfl (Rd.move (v := .pointer f1) rfl) ?_
  refine LW.rd hL rfl (Wants.free rfl) rfl (Rd.bin (v := .bool (Option.isNone f1)) rfl rfl (fun w => ptr_nil_eq (by kernel_rfl) f1 w)) ?_
  refine LW.rd hL rfl (Wants.free rfl) rfl (Rd.move (v := .bool (Option.isNone f1)) rfl) ?_
  obtain ⟨J1, hJ1, h1_J1, h0_J1⟩ := h
  suffices K1 : ∀ (b1 : Bool) (w1 : World), J1 b1 w1 → L 9 [(2, .bool false), (11, .bool b1)] w1 by
    rcases Bool.eq_false_or_eq_true (Option.isNone f1) with hb1 | hb1
    · have h := h0_J1 hb1
      refine LW.skip hL rfl (Skips.on rfl rfl rfl rfl rfl hb1) rfl ?_
      refine LW.skip hL rfl (Skips.on rfl rfl rfl rfl rfl hb1) rfl ?_
      refine LW.skip hL rfl (Skips.on rfl rfl rfl rfl rfl hb1) rfl ?_
      refine LW.skip hL rfl (Skips.on rfl rfl rfl rfl rfl hb1) rfl ?_
      refine LW.skip hL rfl (Skips.on rfl rfl rfl rfl rfl hb1) rfl ?_
      refine LW.rd hL rfl (Wants.free rfl) rfl (Rd.pickT rfl hb1 rfl) ?_
      exact LW.sub hL (by exact ⟨rfl, rfl, trivial⟩) (K1 true w h)
    · have h := h1_J1 hb1
      refine LW.rd hL rfl (Wants.on rfl rfl rfl rfl rfl hb1) rfl (Rd.move (v := .pointer f1) rfl) ?_
      obtain ⟨a1, ha1, h⟩ := h
      refine LW.rd hL rfl (Wants.on rfl rfl rfl rfl rfl hb1) rfl (Rd.nil (q := a1) (by rw [← ha1]; rfl)) ?_
      refine LW.rd hL rfl (Wants.on rfl rfl rfl rfl rfl hb1) rfl (Rd.fa (v := .pointer (some (a1.add 2))) rfl (fun _ => by kernel_rfl)) ?_
      obtain ⟨t1, hc1, h⟩ := h
      refine LW.rd hL rfl (Wants.on rfl rfl rfl rfl rfl hb1) rfl (Rd.ld (v := .pointer t1) rfl (by kernel_rfl) (eqs hc1)) ?_
      refine LW.rd hL rfl (Wants.on rfl rfl rfl rfl rfl hb1) rfl (Rd.bin (v := .bool (Option.isNone t1)) rfl rfl (fun w => ptr_nil_eq (by kernel_rfl) t1 w)) ?_
      refine LW.rd hL rfl (Wants.free rfl) rfl (Rd.pickF rfl hb1 rfl) ?_
      exact LW.sub hL (by exact ⟨rfl, rfl, trivial⟩) (K1 (Option.isNone t1) w h)
  intro b1 w1 h_
  have h := hJ1 b1 w1 h_; clear h_
  refine LW.rd hL rfl (Wants.free rfl) rfl (Rd.assign (v := .bool b1) rfl) ?_
  refine LW.nil hL rfl ?_
  refine NW.then ?_
  refine CW.ret ?_
  exact res1 rfl rfl ⟨b1, rfl, h⟩

/- (*pomander/flow.Flow).may -/
def V_flow_Flow_may (f1 : Option Addr) (p1 : Int) (p2 : Int) (w : World) (R : Bool → World → Prop) : Prop :=
  ∀ b1 : Nat, b1 = World.size w → ∀ w1 : World, w1 = World.alloc w (.cells #[.int .i64 p1, .int .i64 p2] 62) → (∀ w2 : World, w2 = World.drew w1 → ∃ (t1 : Int), w2.cell? (⟨b1, 0, none⟩ : Addr) = some (.int .i64 t1) ∧ (∃ (t2 : Int), w2.cell? (⟨b1, 1, none⟩ : Addr) = some (.int .i64 t2) ∧ (∃ J1 : Bool → World → Prop, (∀ (b2 : Bool) (w3 : World), J1 b2 w3 → ∃ J2 : Bool → World → Prop, (∀ (b3 : Bool) (w4 : World), J2 b3 w4 → ∃ J3 : Bool → World → Prop, (∀ (b4 : Bool) (w5 : World), J3 b4 w5 → R b4 w5) ∧ ((b3 = true → Calls Tryz.prog 89 #[.pointer f1] w4 fun e w6 => ∃ (r2 : Value) (r3 : Value) (r4 : Value) (r5 : Value) (r6 : Value) (r7 : Value) (r8 : Value) (r9 : Value) (r10 : Value) (r11 : Value) (r12 : Value) (r13 : Value) (r14 : Value) (r15 : Value) (r16 : Value) (r17 : Value) (r18 : Value) (r19 : Value), e = .returned (.agg #[r2, r3, r4, r5, r6, r7, r8, r9, r10, r11, r12, r13, r14, r15, r16, r17, r18, r19]) ∧ ((w6.cell? (⟨b1, 0, none⟩ : Addr) = some (.int .i64 t1) ∧ w6.cell? (⟨b1, 1, none⟩ : Addr) = some (.int .i64 t2) ∧ True) ∧ (∃ (x1 : Value), (∀ w : World, (Instr.index 174 (.agg #[r2, r3, r4, r5, r6, r7, r8, r9, r10, r11, r12, r13, r14, r15, r16, r17, r18, r19]) (.int .i64 t1)).run Tryz.prog w = .ok (x1) w) ∧ (CallsV Tryz.prog x1 #[] w6 fun e w7 => ∃ (r20 : Int), e = .returned (.int .i64 r20) ∧ ((w7.cell? (⟨b1, 0, none⟩ : Addr) = some (.int .i64 t1) ∧ w7.cell? (⟨b1, 1, none⟩ : Addr) = some (.int .i64 t2) ∧ True) ∧ (J3 (decide (t2 < r20)) w7)))))) ∧ (b3 = false → J3 false w4))) ∧ ((b2 = true → J2 (decide (t2 ≥ 0)) w3) ∧ (b2 = false → J2 false w3))) ∧ (((decide (t1 ≥ 1)) = true → J1 (decide (t1 ≤ 17)) w2) ∧ ((decide (t1 ≥ 1)) = false → J1 false w2)))))
set_option maxRecDepth 100000 in
theorem ok_flow_Flow_may (f1 : Option Addr) (p1 : Int) (p2 : Int) (w : World) (R : Bool → World → Prop) (h : V_flow_Flow_may f1 p1 p2 w R) : Calls Tryz.prog 63 #[.pointer f1, .agg #[.int .i64 p1, .int .i64 p2]] w (fun e w' => ∃ (r1 : Bool), e = .returned (.bool r1) ∧ R r1 w') := by
  unfold V_flow_Flow_may at h
  refine enter (N := 29) Tryz.func63 rfl rfl ?_
  refine CW.seq ?_
  refine CW.region fun L hL => ?_
  obtain ⟨b1, hb_b1⟩ : ∃ b1, b1 = World.size w := ⟨_, rfl⟩
  obtain ⟨w1, hw_w1⟩ : ∃ w1, w1 = World.alloc w (.cells #[.int .i64 p1, .int .i64 p2] 62) := ⟨_, rfl⟩
  replace h := h b1 hb_b1 w1 hw_w1
  refine LW.val hL rfl (Wants.free rfl) rfl (boxE hb_b1 hw_w1 (Vl.box (v := .agg #[.int .i64 p1, .int .i64 p2]) rfl)) ?_
  refine LW.rd hL rfl (Wants.free rfl) rfl (Rd.assign (v := .bool false) rfl) ?_
  refine LW.nil hL rfl ?_
  refine NW.then ?_
  refine CW.seq ?_
  replace h := h _ rfl
  obtain ⟨t1, hc1, h⟩ := h
  obtain ⟨t2, hc2, h⟩ := h
  refine CW.drawn (fun w => w.cell? (⟨b1, 0, none⟩ : Addr) = some (.int .i64 t1) ∧ w.cell? (⟨b1, 1, none⟩ : Addr) = some (.int .i64 t2) ∧ True) 25 (by kernel_rfl) fun H hH => ?_
  generalize World.drew _ = w2 at *
  have hS1 : w2.cell? (⟨b1, 0, none⟩ : Addr) = some (.int .i64 t1) ∧ w2.cell? (⟨b1, 1, none⟩ : Addr) = some (.int .i64 t2) ∧ True := ⟨hc1, hc2, trivial⟩
  refine HW.pure (i := 0) hH rfl (by kernel_rfl) (Wants.free rfl) rfl (fun _ => hS1) (Rd.fa (v := .pointer (some (⟨b1, 0, none⟩ : Addr))) rfl (fun _ => by kernel_rfl)) ?_
  refine HW.take (i := 1) hH rfl (by kernel_rfl) (by kernel_rfl) (Wants.free rfl) rfl (fun _ => hS1) (Rd.ld (v := .int .i64 t1) rfl (by kernel_rfl) (fun w h => h.1)) ?_
  refine HW.pure (i := 2) hH rfl (by kernel_rfl) (Wants.free rfl) rfl (fun _ => hS1) (Rd.bin (v := .bool (decide (t1 ≥ 1))) rfl rfl (fun w => by kernel_rfl)) ?_
  refine HW.pure (i := 3) hH rfl (by kernel_rfl) (Wants.free rfl) rfl (fun _ => hS1) (Rd.move (v := .bool (decide (t1 ≥ 1))) rfl) ?_
  obtain ⟨J1, hJ1, h1_J1, h0_J1⟩ := h
  suffices K1 : ∀ (b2 : Bool) (w3 : World), (w3.cell? (⟨b1, 0, none⟩ : Addr) = some (.int .i64 t1) ∧ w3.cell? (⟨b1, 1, none⟩ : Addr) = some (.int .i64 t2) ∧ True) → J1 b2 w3 → H 17 #[true, true, true, true, true, true, true, true, false, false, false, false, false, false, false, false, false, false, false, false, false, false, false, false, false] [(0, .pointer f1), (3, .pointer (some (⟨b1, 0, none⟩ : Addr))), (4, .bool false), (12, .bool b2)] w3 by
    rcases Bool.eq_false_or_eq_true (decide (t1 ≥ 1)) with hb1 | hb1
    · have h := h1_J1 hb1
      refine HW.pure (i := 4) hH rfl (by kernel_rfl) (Wants.on rfl rfl rfl rfl rfl hb1) rfl (fun _ => hS1) (Rd.fa (v := .pointer (some (⟨b1, 0, none⟩ : Addr))) rfl (fun _ => by kernel_rfl)) ?_
      refine HW.take (i := 5) hH rfl (by kernel_rfl) (by kernel_rfl) (Wants.on rfl rfl rfl rfl rfl hb1) rfl (fun _ => hS1) (Rd.ld (v := .int .i64 t1) rfl (by kernel_rfl) (fun w h => h.1)) ?_
      refine HW.pure (i := 6) hH rfl (by kernel_rfl) (Wants.on rfl rfl rfl rfl rfl hb1) rfl (fun _ => hS1) (Rd.bin (v := .bool (decide (t1 ≤ 17))) rfl rfl (fun w => by kernel_rfl)) ?_
      refine HW.pure (i := 7) hH rfl (by kernel_rfl) (Wants.free rfl) rfl (fun _ => hS1) (Rd.pickT rfl hb1 rfl) ?_
      exact HW.sub hH (by exact ⟨rfl, rfl, rfl, rfl, trivial⟩) (K1 (decide (t1 ≤ 17)) w2 hS1 h)
    · have h := h0_J1 hb1
      refine HW.skip (i := 4) hH rfl (by kernel_rfl) (Skips.on rfl rfl rfl rfl rfl hb1) rfl (fun _ => hS1) ?_
      refine HW.skip (i := 5) hH rfl (by kernel_rfl) (Skips.on rfl rfl rfl rfl rfl hb1) rfl (fun _ => hS1) ?_
      refine HW.skip (i := 6) hH rfl (by kernel_rfl) (Skips.on rfl rfl rfl rfl rfl hb1) rfl (fun _ => hS1) ?_
      refine HW.pure (i := 7) hH rfl (by kernel_rfl) (Wants.free rfl) rfl (fun _ => hS1) (Rd.pickF rfl hb1 rfl) ?_
      exact HW.sub hH (by exact ⟨rfl, rfl, rfl, rfl, trivial⟩) (K1 false w2 hS1 h)
  intro b2 w3 hS2 h_
  have h := hJ1 b2 w3 h_; clear h_
  refine HW.pure (i := 8) hH rfl (by kernel_rfl) (Wants.free rfl) rfl (fun _ => hS2) (Rd.move (v := .bool b2) rfl) ?_
  obtain ⟨J2, hJ2, h1_J2, h0_J2⟩ := h
  suffices K2 : ∀ (b3 : Bool) (w4 : World), (w4.cell? (⟨b1, 0, none⟩ : Addr) = some (.int .i64 t1) ∧ w4.cell? (⟨b1, 1, none⟩ : Addr) = some (.int .i64 t2) ∧ True) → J2 b3 w4 → H 12 #[true, true, true, true, true, true, true, true, true, true, true, true, true, false, false, false, false, false, false, false, false, false, false, false, false] [(0, .pointer f1), (3, .pointer (some (⟨b1, 0, none⟩ : Addr))), (4, .bool false), (17, .bool b3)] w4 by
    rcases Bool.eq_false_or_eq_true b2 with hb2 | hb2
    · have h := h1_J2 hb2
      refine HW.pure (i := 9) hH rfl (by kernel_rfl) (Wants.on rfl rfl rfl rfl rfl hb2) rfl (fun _ => hS2) (Rd.fa (v := .pointer (some (⟨b1, 1, none⟩ : Addr))) rfl (fun _ => by kernel_rfl)) ?_
      refine HW.take (i := 10) hH rfl (by kernel_rfl) (by kernel_rfl) (Wants.on rfl rfl rfl rfl rfl hb2) rfl (fun _ => hS2) (Rd.ld (v := .int .i64 t2) rfl (by kernel_rfl) (fun w h => h.2.1)) ?_
      refine HW.pure (i := 11) hH rfl (by kernel_rfl) (Wants.on rfl rfl rfl rfl rfl hb2) rfl (fun _ => hS2) (Rd.bin (v := .bool (decide (t2 ≥ 0))) rfl rfl (fun w => by kernel_rfl)) ?_
      refine HW.pure (i := 12) hH rfl (by kernel_rfl) (Wants.free rfl) rfl (fun _ => hS2) (Rd.pickT rfl hb2 rfl) ?_
      exact HW.sub hH (by exact ⟨rfl, rfl, rfl, rfl, trivial⟩) (K2 (decide (t2 ≥ 0)) w3 hS2 h)
    · have h := h0_J2 hb2
      refine HW.skip (i := 9) hH rfl (by kernel_rfl) (Skips.on rfl rfl rfl rfl rfl hb2) rfl (fun _ => hS2) ?_
      refine HW.skip (i := 10) hH rfl (by kernel_rfl) (Skips.on rfl rfl rfl rfl rfl hb2) rfl (fun _ => hS2) ?_
      refine HW.skip (i := 11) hH rfl (by kernel_rfl) (Skips.on rfl rfl rfl rfl rfl hb2) rfl (fun _ => hS2) ?_
      refine HW.pure (i := 12) hH rfl (by kernel_rfl) (Wants.free rfl) rfl (fun _ => hS2) (Rd.pickF rfl hb2 rfl) ?_
      exact HW.sub hH (by exact ⟨rfl, rfl, rfl, rfl, trivial⟩) (K2 false w3 hS2 h)
  intro b3 w4 hS3 h_
  have h := hJ2 b3 w4 h_; clear h_
  refine HW.pure (i := 13) hH rfl (by kernel_rfl) (Wants.free rfl) rfl (fun _ => hS3) (Rd.move (v := .bool b3) rfl) ?_
  obtain ⟨J3, hJ3, h1_J3, h0_J3⟩ := h
  suffices K3 : ∀ (b4 : Bool) (w5 : World), (w5.cell? (⟨b1, 0, none⟩ : Addr) = some (.int .i64 t1) ∧ w5.cell? (⟨b1, 1, none⟩ : Addr) = some (.int .i64 t2) ∧ True) → J3 b4 w5 → H 1 #[true, true, true, true, true, true, true, true, true, true, true, true, true, true, true, true, true, true, true, true, true, true, true, true, false] [(4, .bool false), (28, .bool b4)] w5 by
    rcases Bool.eq_false_or_eq_true b3 with hb3 | hb3
    · have h := h1_J3 hb3
      refine HW.pure (i := 14) hH rfl (by kernel_rfl) (Wants.on rfl rfl rfl rfl rfl hb3) rfl (fun _ => hS3) (Rd.fa (v := .pointer (some (⟨b1, 1, none⟩ : Addr))) rfl (fun _ => by kernel_rfl)) ?_
      refine HW.take (i := 15) hH rfl (by kernel_rfl) (by kernel_rfl) (Wants.on rfl rfl rfl rfl rfl hb3) rfl (fun _ => hS3) (Rd.ld (v := .int .i64 t2) rfl (by kernel_rfl) (fun w h => h.2.1)) ?_
      refine HW.pure (i := 16) hH rfl (by kernel_rfl) (Wants.on rfl rfl rfl rfl rfl hb3) rfl (fun _ => hS3) (Rd.move (v := .pointer f1) rfl) ?_
      refine HW.pure (i := 18) hH rfl (by kernel_rfl) (Wants.on rfl rfl rfl rfl rfl hb3) rfl (fun _ => hS3) (Rd.fa (v := .pointer (some (⟨b1, 0, none⟩ : Addr))) rfl (fun _ => by kernel_rfl)) ?_
      refine HW.take (i := 19) hH rfl (by kernel_rfl) (by kernel_rfl) (Wants.on rfl rfl rfl rfl rfl hb3) rfl (fun _ => hS3) (Rd.ld (v := .int .i64 t1) rfl (by kernel_rfl) (fun w h => h.1)) ?_
      refine HW.call (i := 17) hH (by kernel_rfl) rfl (Wants.on rfl rfl rfl rfl rfl hb3) rfl (Cl.fn (f := 89) rfl Tryz.func89 (by kernel_rfl) rfl) h (fun e w6 h_ => ?_)
      clear h
      obtain ⟨r2, r3, r4, r5, r6, r7, r8, r9, r10, r11, r12, r13, r14, r15, r16, r17, r18, r19, rfl, hS4, h⟩ := h_
      refine ⟨_, rfl, (fun _ => hS4), ?_⟩
      obtain ⟨x1, hx1, h⟩ := h
      refine HW.pure (i := 20) hH rfl (by kernel_rfl) (Wants.on rfl rfl rfl rfl rfl hb3) rfl (fun _ => hS4) (Rd.index (v := x1) rfl rfl hx1) ?_
      obtain ⟨f2, cap_f2, fn_f2, he_f2, hf_f2, hn_f2, hb_f2, h⟩ := h
      refine HW.call (i := 21) hH (by kernel_rfl) rfl (Wants.on rfl rfl rfl rfl rfl hb3) rfl (Cl.fv (f := f2) (cap := cap_f2) (by rw [← he_f2]; rfl) rfl hf_f2 hn_f2 hb_f2) h (fun e w7 h_ => ?_)
      clear h
      obtain ⟨r20, rfl, hS5, h⟩ := h_
      refine ⟨_, rfl, (fun _ => hS5), ?_⟩
      refine HW.pure (i := 22) hH rfl (by kernel_rfl) (Wants.on rfl rfl rfl rfl rfl hb3) rfl (fun _ => hS5) (Rd.bin (v := .bool (decide (t2 < r20))) rfl rfl (fun w => by kernel_rfl)) ?_
      refine HW.pure (i := 23) hH rfl (by kernel_rfl) (Wants.free rfl) rfl (fun _ => hS5) (Rd.pickT rfl hb3 rfl) ?_
      exact HW.sub hH (by exact ⟨rfl, rfl, trivial⟩) (K3 (decide (t2 < r20)) w7 hS5 h)
    · have h := h0_J3 hb3
      refine HW.skip (i := 14) hH rfl (by kernel_rfl) (Skips.on rfl rfl rfl rfl rfl hb3) rfl (fun _ => hS3) ?_
      refine HW.skip (i := 15) hH rfl (by kernel_rfl) (Skips.on rfl rfl rfl rfl rfl hb3) rfl (fun _ => hS3) ?_
      refine HW.skip (i := 16) hH rfl (by kernel_rfl) (Skips.on rfl rfl rfl rfl rfl hb3) rfl (fun _ => hS3) ?_
      refine HW.skip (i := 17) hH rfl (by kernel_rfl) (Skips.on rfl rfl rfl rfl rfl hb3) rfl (fun _ => hS3) ?_
      refine HW.skip (i := 18) hH rfl (by kernel_rfl) (Skips.on rfl rfl rfl rfl rfl hb3) rfl (fun _ => hS3) ?_
      refine HW.skip (i := 19) hH rfl (by kernel_rfl) (Skips.on rfl rfl rfl rfl rfl hb3) rfl (fun _ => hS3) ?_
      refine HW.skip (i := 20) hH rfl (by kernel_rfl) (Skips.on rfl rfl rfl rfl rfl hb3) rfl (fun _ => hS3) ?_
      refine HW.skip (i := 21) hH rfl (by kernel_rfl) (Skips.on rfl rfl rfl rfl rfl hb3) rfl (fun _ => hS3) ?_
      refine HW.skip (i := 22) hH rfl (by kernel_rfl) (Skips.on rfl rfl rfl rfl rfl hb3) rfl (fun _ => hS3) ?_
      refine HW.pure (i := 23) hH rfl (by kernel_rfl) (Wants.free rfl) rfl (fun _ => hS3) (Rd.pickF rfl hb3 rfl) ?_
      exact HW.sub hH (by exact ⟨rfl, rfl, trivial⟩) (K3 false w4 hS3 h)
  intro b4 w5 hS6 h_
  have h := hJ3 b4 w5 h_; clear h_
  refine HW.pure (i := 24) hH rfl (by kernel_rfl) (Wants.free rfl) rfl (fun _ => hS6) (Rd.assign (v := .bool b4) rfl) ?_
  refine HW.done hH (by kernel_rfl) ?_
  refine NW.then ?_
  refine CW.ret ?_
  exact res1 rfl rfl ⟨b4, rfl, h⟩

/- (*pomander/flow.Flow).get -/
def V_flow_Flow_get (f1 : Option Addr) (p1 : Int) (p2 : Int) (w : World) (R : Int → World → Prop) : Prop :=
  ∀ b1 : Nat, b1 = World.size w → ∀ w1 : World, w1 = World.alloc w (.cells #[.int .i64 p1, .int .i64 p2] 62) → (∃ (t1 : Int), w1.cell? (⟨b1, 0, none⟩ : Addr) = some (.int .i64 t1) ∧ (((t1 == 10) = true → ∀ w2 : World, w2 = World.drew w1 → ∃ a1 : Addr, f1 = some a1 ∧ (∃ (t2 : Option Addr), w2.cell? (a1.add 3) = some (.pointer t2) ∧ (∃ (t3 : Int), w2.cell? (⟨b1, 1, none⟩ : Addr) = some (.int .i64 t3) ∧ (Calls Tryz.prog 97 #[.pointer t2, .int .i64 t3] w2 fun e w3 => ∃ (r2 : Int) (r3 : Int), e = .returned (.tuple #[.int .u32 r2, .int .i64 r3]) ∧ (R r2 w3))))) ∧ ((t1 == 10) = false → ((t1 == 12) = true → ∀ w4 : World, w4 = World.drew w1 → ∃ a2 : Addr, f1 = some a2 ∧ (∃ (t4 : Option Addr), w4.cell? (a2.add 4) = some (.pointer t4) ∧ (∃ (t5 : Int), w4.cell? (⟨b1, 1, none⟩ : Addr) = some (.int .i64 t5) ∧ (Calls Tryz.prog 97 #[.pointer t4, .int .i64 t5] w4 fun e w5 => ∃ (r4 : Int) (r5 : Int), e = .returned (.tuple #[.int .u32 r4, .int .i64 r5]) ∧ (R r4 w5))))) ∧ ((t1 == 12) = false → ∀ w6 : World, w6 = World.drew w1 → ∃ a3 : Addr, f1 = some a3 ∧ (∃ (t6 : Option Nat), w6.cell? (a3.add 5) = some (.map t6) ∧ (∃ (t7 : Int) (t8 : Int), CellsAt w6 (⟨b1, 0, none⟩ : Addr) 0 [.int .i64 t7, .int .i64 t8] ∧ (∃ (v1 : Int), (Instr.lookup 99 (.map t6) (.agg #[.int .i64 t7, .int .i64 t8]) false).run Tryz.prog w6 = .ok (.int .u32 v1) w6 ∧ (R v1 w6))))))))
set_option maxRecDepth 100000 in
theorem ok_flow_Flow_get (f1 : Option Addr) (p1 : Int) (p2 : Int) (w : World) (R : Int → World → Prop) (h : V_flow_Flow_get f1 p1 p2 w R) : Calls Tryz.prog 73 #[.pointer f1, .agg #[.int .i64 p1, .int .i64 p2]] w (fun e w' => ∃ (r1 : Int), e = .returned (.int .u32 r1) ∧ R r1 w') := by
  unfold V_flow_Flow_get at h
  refine enter (N := 43) Tryz.func73 rfl rfl ?_
  refine CW.seq ?_
  refine CW.region fun L hL => ?_
  obtain ⟨b1, hb_b1⟩ : ∃ b1, b1 = World.size w := ⟨_, rfl⟩
  obtain ⟨w1, hw_w1⟩ : ∃ w1, w1 = World.alloc w (.cells #[.int .i64 p1, .int .i64 p2] 62) := ⟨_, rfl⟩
  replace h := h b1 hb_b1 w1 hw_w1
  refine LW.val hL rfl (Wants.free rfl) rfl (boxE hb_b1 hw_w1 (Vl.box (v := .agg #[.int .i64 p1, .int .i64 p2]) rfl)) ?_
  refine LW.rd hL rfl (Wants.free rfl) rfl (Rd.assign (v := .int .u32 0) rfl) ?_
  refine LW.nil hL rfl ?_
  refine NW.then ?_
  refine CW.seq ?_
  refine CW.seq ?_
  refine CW.region fun L hL => ?_
  refine LW.rd hL rfl (Wants.free rfl) rfl (Rd.fa (v := .pointer (some (⟨b1, 0, none⟩ : Addr))) rfl (fun _ => by kernel_rfl)) ?_
  obtain ⟨t1, hc1, h⟩ := h
  refine LW.rd hL rfl (Wants.free rfl) rfl (Rd.ld (v := .int .i64 t1) rfl (by kernel_rfl) (eqs hc1)) ?_
  refine LW.nil hL rfl ?_
  refine NW.then ?_
  refine CW.block ?_
  refine CW.seq ?_
  refine CW.region fun L hL => ?_
  refine LW.rd hL rfl (Wants.free rfl) rfl (Rd.bin (v := .bool (t1 == 10)) rfl rfl (fun w => by kernel_rfl)) ?_
  refine LW.rd hL rfl (Wants.free rfl) rfl (Rd.assign (v := .bool (t1 == 10)) rfl) ?_
  refine LW.nil hL rfl ?_
  refine NW.then ?_
  refine CW.cond rfl (fun hb1 => ?_) (fun hb1 => ?_)
  · replace h := h.1 hb1
    refine CW.seq ?_
    replace h := h _ rfl
    refine CW.drawn (fun w => w = World.drew w1) 6 (by kernel_rfl) fun H hH => ?_
    generalize World.drew w1 = w2 at h hH ⊢
    refine HW.pure (i := 0) hH rfl (by kernel_rfl) (Wants.free rfl) rfl (fun _ => rfl) (Rd.move (v := .pointer f1) rfl) ?_
    obtain ⟨a1, ha1, h⟩ := h
    refine HW.pure (i := 1) hH rfl (by kernel_rfl) (Wants.free rfl) rfl (fun _ => rfl) (Rd.nil (q := a1) (by rw [← ha1]; rfl)) ?_
    refine HW.pure (i := 2) hH rfl (by kernel_rfl) (Wants.free rfl) rfl (fun _ => rfl) (Rd.fa (v := .pointer (some (a1.add 3))) rfl (fun _ => by kernel_rfl)) ?_
    obtain ⟨t2, hc2, h⟩ := h
    refine HW.take (i := 3) hH rfl (by kernel_rfl) (by kernel_rfl) (Wants.free rfl) rfl (fun _ => rfl) (Rd.ld (v := .pointer t2) rfl (by kernel_rfl) (eqs hc2)) ?_
    refine HW.pure (i := 4) hH rfl (by kernel_rfl) (Wants.free rfl) rfl (fun _ => rfl) (Rd.fa (v := .pointer (some (⟨b1, 1, none⟩ : Addr))) rfl (fun _ => by kernel_rfl)) ?_
    obtain ⟨t3, hc3, h⟩ := h
    refine HW.take (i := 5) hH rfl (by kernel_rfl) (by kernel_rfl) (Wants.free rfl) rfl (fun _ => rfl) (Rd.ld (v := .int .i64 t3) rfl (by kernel_rfl) (eqs hc3)) ?_
    refine HW.call (i := 6) hH (by kernel_rfl) rfl (Wants.free rfl) rfl (Cl.fn (f := 97) rfl Tryz.func97 (by kernel_rfl) rfl) h (fun e w3 h_ => ?_)
    clear h
    obtain ⟨r2, r3, rfl, h⟩ := h_
    refine ⟨_, rfl, (fun hc => by cases hc), ?_⟩
    refine HW.pure (i := 7) hH rfl (by kernel_rfl) (Wants.free rfl) rfl (fun hc => by cases hc) (Rd.move (v := .tuple #[.int .u32 r2, .int .i64 r3]) rfl) ?_
    refine HW.pure (i := 8) hH rfl (by kernel_rfl) (Wants.free rfl) rfl (fun hc => by cases hc) (Rd.extract (v := .int .u32 r2) rfl rfl) ?_
    refine HW.pure (i := 9) hH rfl (by kernel_rfl) (Wants.free rfl) rfl (fun hc => by cases hc) (Rd.extract (v := .int .i64 r3) rfl rfl) ?_
    refine HW.pure (i := 10) hH rfl (by kernel_rfl) (Wants.free rfl) rfl (fun hc => by cases hc) (Rd.assign (v := .int .u32 r2) rfl) ?_
    refine HW.pure (i := 11) hH rfl (by kernel_rfl) (Wants.free rfl) rfl (fun hc => by cases hc) (Rd.assign (v := .int .i64 r3) rfl) ?_
    refine HW.done hH (by kernel_rfl) ?_
    refine NW.then ?_
    refine CW.seq ?_
    refine CW.region fun L hL => ?_
    refine LW.rd hL rfl (Wants.free rfl) rfl (Rd.move (v := .int .u32 r2) rfl) ?_
    refine LW.rd hL rfl (Wants.free rfl) rfl (Rd.assign (v := .int .u32 r2) rfl) ?_
    refine LW.nil hL rfl ?_
    refine NW.then ?_
    refine CW.ret ?_
    refine RW.block ?_
    refine RW.then ?_
    exact res1 rfl rfl ⟨r2, rfl, h⟩
  · replace h := h.2 hb1
    refine CW.seq ?_
    refine CW.region fun L hL => ?_
    refine LW.rd hL rfl (Wants.free rfl) rfl (Rd.bin (v := .bool (t1 == 12)) rfl rfl (fun w => by kernel_rfl)) ?_
    refine LW.rd hL rfl (Wants.free rfl) rfl (Rd.assign (v := .bool (t1 == 12)) rfl) ?_
    refine LW.nil hL rfl ?_
    refine NW.then ?_
    refine CW.cond rfl (fun hb2 => ?_) (fun hb2 => ?_)
    · replace h := h.1 hb2
      refine CW.seq ?_
      replace h := h _ rfl
      refine CW.drawn (fun w => w = World.drew w1) 6 (by kernel_rfl) fun H hH => ?_
      generalize World.drew w1 = w4 at h hH ⊢
      refine HW.pure (i := 0) hH rfl (by kernel_rfl) (Wants.free rfl) rfl (fun _ => rfl) (Rd.move (v := .pointer f1) rfl) ?_
      obtain ⟨a2, ha2, h⟩ := h
      refine HW.pure (i := 1) hH rfl (by kernel_rfl) (Wants.free rfl) rfl (fun _ => rfl) (Rd.nil (q := a2) (by rw [← ha2]; rfl)) ?_
      refine HW.pure (i := 2) hH rfl (by kernel_rfl) (Wants.free rfl) rfl (fun _ => rfl) (Rd.fa (v := .pointer (some (a2.add 4))) rfl (fun _ => by kernel_rfl)) ?_
      obtain ⟨t4, hc4, h⟩ := h
      refine HW.take (i := 3) hH rfl (by kernel_rfl) (by kernel_rfl) (Wants.free rfl) rfl (fun _ => rfl) (Rd.ld (v := .pointer t4) rfl (by kernel_rfl) (eqs hc4)) ?_
      refine HW.pure (i := 4) hH rfl (by kernel_rfl) (Wants.free rfl) rfl (fun _ => rfl) (Rd.fa (v := .pointer (some (⟨b1, 1, none⟩ : Addr))) rfl (fun _ => by kernel_rfl)) ?_
      obtain ⟨t5, hc5, h⟩ := h
      refine HW.take (i := 5) hH rfl (by kernel_rfl) (by kernel_rfl) (Wants.free rfl) rfl (fun _ => rfl) (Rd.ld (v := .int .i64 t5) rfl (by kernel_rfl) (eqs hc5)) ?_
      refine HW.call (i := 6) hH (by kernel_rfl) rfl (Wants.free rfl) rfl (Cl.fn (f := 97) rfl Tryz.func97 (by kernel_rfl) rfl) h (fun e w5 h_ => ?_)
      clear h
      obtain ⟨r4, r5, rfl, h⟩ := h_
      refine ⟨_, rfl, (fun hc => by cases hc), ?_⟩
      refine HW.pure (i := 7) hH rfl (by kernel_rfl) (Wants.free rfl) rfl (fun hc => by cases hc) (Rd.move (v := .tuple #[.int .u32 r4, .int .i64 r5]) rfl) ?_
      refine HW.pure (i := 8) hH rfl (by kernel_rfl) (Wants.free rfl) rfl (fun hc => by cases hc) (Rd.extract (v := .int .u32 r4) rfl rfl) ?_
      refine HW.pure (i := 9) hH rfl (by kernel_rfl) (Wants.free rfl) rfl (fun hc => by cases hc) (Rd.extract (v := .int .i64 r5) rfl rfl) ?_
      refine HW.pure (i := 10) hH rfl (by kernel_rfl) (Wants.free rfl) rfl (fun hc => by cases hc) (Rd.assign (v := .int .u32 r4) rfl) ?_
      refine HW.pure (i := 11) hH rfl (by kernel_rfl) (Wants.free rfl) rfl (fun hc => by cases hc) (Rd.assign (v := .int .i64 r5) rfl) ?_
      refine HW.done hH (by kernel_rfl) ?_
      refine NW.then ?_
      refine CW.seq ?_
      refine CW.region fun L hL => ?_
      refine LW.rd hL rfl (Wants.free rfl) rfl (Rd.move (v := .int .u32 r4) rfl) ?_
      refine LW.rd hL rfl (Wants.free rfl) rfl (Rd.assign (v := .int .u32 r4) rfl) ?_
      refine LW.nil hL rfl ?_
      refine NW.then ?_
      refine CW.ret ?_
      refine RW.block ?_
      refine RW.then ?_
      exact res1 rfl rfl ⟨r4, rfl, h⟩
    · replace h := h.2 hb2
      refine CW.skip ?_
      refine NW.block ?_
      refine NW.then ?_
      refine CW.seq ?_
      replace h := h _ rfl
      refine CW.drawn (fun w => w = World.drew w1) 7 (by kernel_rfl) fun H hH => ?_
      generalize World.drew w1 = w6 at h hH ⊢
      refine HW.pure (i := 0) hH rfl (by kernel_rfl) (Wants.free rfl) rfl (fun _ => rfl) (Rd.move (v := .pointer f1) rfl) ?_
      obtain ⟨a3, ha3, h⟩ := h
      refine HW.pure (i := 1) hH rfl (by kernel_rfl) (Wants.free rfl) rfl (fun _ => rfl) (Rd.nil (q := a3) (by rw [← ha3]; rfl)) ?_
      refine HW.pure (i := 2) hH rfl (by kernel_rfl) (Wants.free rfl) rfl (fun _ => rfl) (Rd.fa (v := .pointer (some (a3.add 5))) rfl (fun _ => by kernel_rfl)) ?_
      obtain ⟨t6, hc6, h⟩ := h
      refine HW.take (i := 3) hH rfl (by kernel_rfl) (by kernel_rfl) (Wants.free rfl) rfl (fun _ => rfl) (Rd.ld (v := .map t6) rfl (by kernel_rfl) (eqs hc6)) ?_
      obtain ⟨t7, t8, hc7, h⟩ := h
      refine HW.take (i := 4) hH rfl (by kernel_rfl) (by kernel_rfl) (Wants.free rfl) rfl (fun _ => rfl) (Rd.ldN (cs := [.int .i64 t7, .int .i64 t8]) rfl (by kernel_rfl) (by kernel_rfl) (cellsS hc7)) ?_
      obtain ⟨v1, hl1, h⟩ := h
      refine HW.take (i := 5) hH rfl (by kernel_rfl) (by kernel_rfl) (Wants.free rfl) rfl (fun _ => rfl) (Rd.lookup (v := .int .u32 v1) rfl rfl (fun _ e => e ▸ hl1)) ?_
      refine HW.pure (i := 6) hH rfl (by kernel_rfl) (Wants.free rfl) rfl (fun _ => rfl) (Rd.assign (v := .int .u32 v1) rfl) ?_
      refine HW.done hH (by kernel_rfl) ?_
      refine NW.then ?_
      refine CW.ret ?_
      exact res1 rfl rfl ⟨v1, rfl, h⟩

/- (*pomander/flow.Flow).keep -/
def V_flow_Flow_keep (f1 : Option Addr) (set1 : Int) (w : World) (R : Int → World → Prop) : Prop :=
  ∃ a1 : Addr, f1 = some a1 ∧ (∃ (t1 : Option Addr), w.cell? (a1.add 2) = some (.pointer t1) ∧ (Calls Tryz.prog 90 #[.pointer t1, .int .u32 set1] w fun e w1 => ∃ (r2 : Int) (r3 : Int), e = .returned (.tuple #[.int .i64 r2, .int .i64 r3]) ∧ (R r3 w1)))
set_option maxRecDepth 100000 in
theorem ok_flow_Flow_keep (f1 : Option Addr) (set1 : Int) (w : World) (R : Int → World → Prop) (h : V_flow_Flow_keep f1 set1 w R) : Calls Tryz.prog 64 #[.pointer f1, .int .u32 set1] w (fun e w' => ∃ (r1 : Int), e = .returned (.int .i64 r1) ∧ R r1 w') := by
  unfold V_flow_Flow_keep at h
  refine enter (N := 17) Tryz.func64 rfl rfl ?_
  refine CW.seq ?_
  refine CW.region fun L hL => ?_
  refine LW.rd hL rfl (Wants.free rfl) rfl (Rd.assign (v := .int .i64 0) rfl) ?_
  refine LW.nil hL rfl ?_
  refine NW.then ?_
  refine CW.seq ?_
  refine CW.region fun L hL => ?_
  refine LW.rd hL rfl (Wants.free rfl) rfl (Rd.move (v := .pointer f1) rfl) ?_
  obtain ⟨a1, ha1, h⟩ := h
  refine LW.rd hL rfl (Wants.free rfl) rfl (Rd.nil (q := a1) (by rw [← ha1]; rfl)) ?_
  refine LW.rd hL rfl (Wants.free rfl) rfl (Rd.fa (v := .pointer (some (a1.add 2))) rfl (fun _ => by kernel_rfl)) ?_
  obtain ⟨t1, hc1, h⟩ := h
  refine LW.rd hL rfl (Wants.free rfl) rfl (Rd.ld (v := .pointer t1) rfl (by kernel_rfl) (eqs hc1)) ?_
  refine LW.rd hL rfl (Wants.free rfl) rfl (Rd.move (v := .int .u32 set1) rfl) ?_
  refine LW.call hL rfl (Wants.free rfl) rfl (Cl.fn (f := 90) rfl Tryz.func90 (by kernel_rfl) rfl) h (fun e w1 h_ => ?_)
  clear h
  obtain ⟨r2, r3, rfl, h⟩ := h_
  refine ⟨_, rfl, ?_⟩
  refine LW.rd hL rfl (Wants.free rfl) rfl (Rd.move (v := .tuple #[.int .i64 r2, .int .i64 r3]) rfl) ?_
  refine LW.rd hL rfl (Wants.free rfl) rfl (Rd.extract (v := .int .i64 r2) rfl rfl) ?_
  refine LW.rd hL rfl (Wants.free rfl) rfl (Rd.extract (v := .int .i64 r3) rfl rfl) ?_
  refine LW.rd hL rfl (Wants.free rfl) rfl (Rd.assign (v := .int .i64 r2) rfl) ?_
  refine LW.rd hL rfl (Wants.free rfl) rfl (Rd.assign (v := .int .i64 r3) rfl) ?_
  refine LW.nil hL rfl ?_
  refine NW.then ?_
  refine CW.seq ?_
  refine CW.region fun L hL => ?_
  refine LW.rd hL rfl (Wants.free rfl) rfl (Rd.move (v := .int .i64 r3) rfl) ?_
  refine LW.rd hL rfl (Wants.free rfl) rfl (Rd.assign (v := .int .i64 r3) rfl) ?_
  refine LW.nil hL rfl ?_
  refine NW.then ?_
  refine CW.ret ?_
  exact res1 rfl rfl ⟨r3, rfl, h⟩

/- (*pomander/flow.Flow).put -/
def V_flow_Flow_put (f1 : Option Addr) (p1 : Int) (p2 : Int) (set1 : Int) (w : World) (R : World → Prop) : Prop :=
  ∀ b1 : Nat, b1 = World.size w → ∀ w1 : World, w1 = World.alloc w (.cells #[.int .i64 p1, .int .i64 p2] 62) → (∃ (t1 : Int), w1.cell? (⟨b1, 0, none⟩ : Addr) = some (.int .i64 t1) ∧ (((t1 == 10) = true → ∀ w2 : World, w2 = World.drew w1 → ∃ a1 : Addr, f1 = some a1 ∧ (∃ (t2 : Option Addr), w2.cell? (a1.add 3) = some (.pointer t2) ∧ (∃ (t3 : Int), w2.cell? (⟨b1, 1, none⟩ : Addr) = some (.int .i64 t3) ∧ (Calls Tryz.prog 91 #[.pointer t2, .int .i64 t3, .int .u32 set1] w2 fun e w3 => ∃ (r1 : Int), e = .returned (.int .i64 r1) ∧ (R w3))))) ∧ ((t1 == 10) = false → ∃ (t4 : Int), w1.cell? (⟨b1, 0, none⟩ : Addr) = some (.int .i64 t4) ∧ (((t4 == 12) = true → ∀ w4 : World, w4 = World.drew w1 → ∃ a2 : Addr, f1 = some a2 ∧ (∃ (t5 : Option Addr), w4.cell? (a2.add 4) = some (.pointer t5) ∧ (∃ (t6 : Int), w4.cell? (⟨b1, 1, none⟩ : Addr) = some (.int .i64 t6) ∧ (Calls Tryz.prog 91 #[.pointer t5, .int .i64 t6, .int .u32 set1] w4 fun e w5 => ∃ (r2 : Int), e = .returned (.int .i64 r2) ∧ (R w5))))) ∧ ((t4 == 12) = false → ((set1 == 0) = true → ∀ w6 : World, w6 = World.drew w1 → ∃ a3 : Addr, f1 = some a3 ∧ (∃ (t7 : Option Nat), w6.cell? (a3.add 5) = some (.map t7) ∧ (∃ (t8 : Int) (t9 : Int), CellsAt w6 (⟨b1, 0, none⟩ : Addr) 0 [.int .i64 t8, .int .i64 t9] ∧ (∃ w7 : World, (Builtin.delete_ #[99, 62] 0 #[.map t7, .agg #[.int .i64 t8, .int .i64 t9]]).run Tryz.prog w6 = .ok (.tuple #[]) w7 ∧ (R w7))))) ∧ ((set1 == 0) = false → ∀ w8 : World, w8 = World.drew w1 → ∃ a4 : Addr, f1 = some a4 ∧ (∃ (t10 : Option Nat), w8.cell? (a4.add 5) = some (.map t10) ∧ (∃ (t11 : Int) (t12 : Int), CellsAt w8 (⟨b1, 0, none⟩ : Addr) 0 [.int .i64 t11, .int .i64 t12] ∧ (∃ w9 : World, (Instr.mapUpdate 99 (.map t10) (.agg #[.int .i64 t11, .int .i64 t12]) (.int .u32 set1)).run Tryz.prog w8 = .ok () w9 ∧ (R w9))))))))))
set_option maxRecDepth 100000 in
theorem ok_flow_Flow_put (f1 : Option Addr) (p1 : Int) (p2 : Int) (set1 : Int) (w : World) (R : World → Prop) (h : V_flow_Flow_put f1 p1 p2 set1 w R) : Calls Tryz.prog 65 #[.pointer f1, .agg #[.int .i64 p1, .int .i64 p2], .int .u32 set1] w (fun e w' => e = .returned (.tuple #[]) ∧ R w') := by
  unfold V_flow_Flow_put at h
  refine enter (N := 44) Tryz.func65 rfl rfl ?_
  refine CW.seq ?_
  refine CW.region fun L hL => ?_
  obtain ⟨b1, hb_b1⟩ : ∃ b1, b1 = World.size w := ⟨_, rfl⟩
  obtain ⟨w1, hw_w1⟩ : ∃ w1, w1 = World.alloc w (.cells #[.int .i64 p1, .int .i64 p2] 62) := ⟨_, rfl⟩
  replace h := h b1 hb_b1 w1 hw_w1
  refine LW.val hL rfl (Wants.free rfl) rfl (boxE hb_b1 hw_w1 (Vl.box (v := .agg #[.int .i64 p1, .int .i64 p2]) rfl)) ?_
  refine LW.nil hL rfl ?_
  refine NW.then ?_
  refine CW.block ?_
  refine CW.seq ?_
  refine CW.region fun L hL => ?_
  refine LW.rd hL rfl (Wants.free rfl) rfl (Rd.fa (v := .pointer (some (⟨b1, 0, none⟩ : Addr))) rfl (fun _ => by kernel_rfl)) ?_
  obtain ⟨t1, hc1, h⟩ := h
  refine LW.rd hL rfl (Wants.free rfl) rfl (Rd.ld (v := .int .i64 t1) rfl (by kernel_rfl) (eqs hc1)) ?_
  refine LW.rd hL rfl (Wants.free rfl) rfl (Rd.bin (v := .bool (t1 == 10)) rfl rfl (fun w => by kernel_rfl)) ?_
  refine LW.rd hL rfl (Wants.free rfl) rfl (Rd.assign (v := .bool (t1 == 10)) rfl) ?_
  refine LW.nil hL rfl ?_
  refine NW.then ?_
  refine CW.cond rfl (fun hb1 => ?_) (fun hb1 => ?_)
  · replace h := h.1 hb1
    replace h := h _ rfl
    refine CW.drawn (fun w => w = World.drew w1) 7 (by kernel_rfl) fun H hH => ?_
    generalize World.drew w1 = w2 at h hH ⊢
    refine HW.pure (i := 0) hH rfl (by kernel_rfl) (Wants.free rfl) rfl (fun _ => rfl) (Rd.move (v := .pointer f1) rfl) ?_
    obtain ⟨a1, ha1, h⟩ := h
    refine HW.pure (i := 1) hH rfl (by kernel_rfl) (Wants.free rfl) rfl (fun _ => rfl) (Rd.nil (q := a1) (by rw [← ha1]; rfl)) ?_
    refine HW.pure (i := 2) hH rfl (by kernel_rfl) (Wants.free rfl) rfl (fun _ => rfl) (Rd.fa (v := .pointer (some (a1.add 3))) rfl (fun _ => by kernel_rfl)) ?_
    obtain ⟨t2, hc2, h⟩ := h
    refine HW.take (i := 3) hH rfl (by kernel_rfl) (by kernel_rfl) (Wants.free rfl) rfl (fun _ => rfl) (Rd.ld (v := .pointer t2) rfl (by kernel_rfl) (eqs hc2)) ?_
    refine HW.pure (i := 4) hH rfl (by kernel_rfl) (Wants.free rfl) rfl (fun _ => rfl) (Rd.fa (v := .pointer (some (⟨b1, 1, none⟩ : Addr))) rfl (fun _ => by kernel_rfl)) ?_
    obtain ⟨t3, hc3, h⟩ := h
    refine HW.take (i := 5) hH rfl (by kernel_rfl) (by kernel_rfl) (Wants.free rfl) rfl (fun _ => rfl) (Rd.ld (v := .int .i64 t3) rfl (by kernel_rfl) (eqs hc3)) ?_
    refine HW.pure (i := 6) hH rfl (by kernel_rfl) (Wants.free rfl) rfl (fun _ => rfl) (Rd.move (v := .int .u32 set1) rfl) ?_
    refine HW.call (i := 7) hH (by kernel_rfl) rfl (Wants.free rfl) rfl (Cl.fn (f := 91) rfl Tryz.func91 (by kernel_rfl) rfl) h (fun e w3 h_ => ?_)
    clear h
    obtain ⟨r1, rfl, h⟩ := h_
    refine ⟨_, rfl, (fun hc => by cases hc), ?_⟩
    refine HW.done hH (by kernel_rfl) ?_
    refine NW.block ?_
    exact res0n rfl (by exact ⟨rfl, h⟩)
  · replace h := h.2 hb1
    refine CW.seq ?_
    refine CW.region fun L hL => ?_
    refine LW.rd hL rfl (Wants.free rfl) rfl (Rd.fa (v := .pointer (some (⟨b1, 0, none⟩ : Addr))) rfl (fun _ => by kernel_rfl)) ?_
    obtain ⟨t4, hc4, h⟩ := h
    refine LW.rd hL rfl (Wants.free rfl) rfl (Rd.ld (v := .int .i64 t4) rfl (by kernel_rfl) (eqs hc4)) ?_
    refine LW.rd hL rfl (Wants.free rfl) rfl (Rd.bin (v := .bool (t4 == 12)) rfl rfl (fun w => by kernel_rfl)) ?_
    refine LW.rd hL rfl (Wants.free rfl) rfl (Rd.assign (v := .bool (t4 == 12)) rfl) ?_
    refine LW.nil hL rfl ?_
    refine NW.then ?_
    refine CW.cond rfl (fun hb2 => ?_) (fun hb2 => ?_)
    · replace h := h.1 hb2
      replace h := h _ rfl
      refine CW.drawn (fun w => w = World.drew w1) 7 (by kernel_rfl) fun H hH => ?_
      generalize World.drew w1 = w4 at h hH ⊢
      refine HW.pure (i := 0) hH rfl (by kernel_rfl) (Wants.free rfl) rfl (fun _ => rfl) (Rd.move (v := .pointer f1) rfl) ?_
      obtain ⟨a2, ha2, h⟩ := h
      refine HW.pure (i := 1) hH rfl (by kernel_rfl) (Wants.free rfl) rfl (fun _ => rfl) (Rd.nil (q := a2) (by rw [← ha2]; rfl)) ?_
      refine HW.pure (i := 2) hH rfl (by kernel_rfl) (Wants.free rfl) rfl (fun _ => rfl) (Rd.fa (v := .pointer (some (a2.add 4))) rfl (fun _ => by kernel_rfl)) ?_
      obtain ⟨t5, hc5, h⟩ := h
      refine HW.take (i := 3) hH rfl (by kernel_rfl) (by kernel_rfl) (Wants.free rfl) rfl (fun _ => rfl) (Rd.ld (v := .pointer t5) rfl (by kernel_rfl) (eqs hc5)) ?_
      refine HW.pure (i := 4) hH rfl (by kernel_rfl) (Wants.free rfl) rfl (fun _ => rfl) (Rd.fa (v := .pointer (some (⟨b1, 1, none⟩ : Addr))) rfl (fun _ => by kernel_rfl)) ?_
      obtain ⟨t6, hc6, h⟩ := h
      refine HW.take (i := 5) hH rfl (by kernel_rfl) (by kernel_rfl) (Wants.free rfl) rfl (fun _ => rfl) (Rd.ld (v := .int .i64 t6) rfl (by kernel_rfl) (eqs hc6)) ?_
      refine HW.pure (i := 6) hH rfl (by kernel_rfl) (Wants.free rfl) rfl (fun _ => rfl) (Rd.move (v := .int .u32 set1) rfl) ?_
      refine HW.call (i := 7) hH (by kernel_rfl) rfl (Wants.free rfl) rfl (Cl.fn (f := 91) rfl Tryz.func91 (by kernel_rfl) rfl) h (fun e w5 h_ => ?_)
      clear h
      obtain ⟨r2, rfl, h⟩ := h_
      refine ⟨_, rfl, (fun hc => by cases hc), ?_⟩
      refine HW.done hH (by kernel_rfl) ?_
      refine NW.block ?_
      exact res0n rfl (by exact ⟨rfl, h⟩)
    · replace h := h.2 hb2
      refine CW.seq ?_
      refine CW.region fun L hL => ?_
      refine LW.rd hL rfl (Wants.free rfl) rfl (Rd.move (v := .int .u32 set1) rfl) ?_
      refine LW.rd hL rfl (Wants.free rfl) rfl (Rd.bin (v := .bool (set1 == 0)) rfl rfl (fun w => by kernel_rfl)) ?_
      refine LW.rd hL rfl (Wants.free rfl) rfl (Rd.assign (v := .bool (set1 == 0)) rfl) ?_
      refine LW.nil hL rfl ?_
      refine NW.then ?_
      refine CW.cond rfl (fun hb3 => ?_) (fun hb3 => ?_)
      · replace h := h.1 hb3
        replace h := h _ rfl
        refine CW.drawn (fun w => w = World.drew w1) 5 (by kernel_rfl) fun H hH => ?_
        generalize World.drew w1 = w6 at h hH ⊢
        refine HW.pure (i := 0) hH rfl (by kernel_rfl) (Wants.free rfl) rfl (fun _ => rfl) (Rd.move (v := .pointer f1) rfl) ?_
        obtain ⟨a3, ha3, h⟩ := h
        refine HW.pure (i := 1) hH rfl (by kernel_rfl) (Wants.free rfl) rfl (fun _ => rfl) (Rd.nil (q := a3) (by rw [← ha3]; rfl)) ?_
        refine HW.pure (i := 2) hH rfl (by kernel_rfl) (Wants.free rfl) rfl (fun _ => rfl) (Rd.fa (v := .pointer (some (a3.add 5))) rfl (fun _ => by kernel_rfl)) ?_
        obtain ⟨t7, hc7, h⟩ := h
        refine HW.take (i := 3) hH rfl (by kernel_rfl) (by kernel_rfl) (Wants.free rfl) rfl (fun _ => rfl) (Rd.ld (v := .map t7) rfl (by kernel_rfl) (eqs hc7)) ?_
        obtain ⟨t8, t9, hc8, h⟩ := h
        refine HW.take (i := 4) hH rfl (by kernel_rfl) (by kernel_rfl) (Wants.free rfl) rfl (fun _ => rfl) (Rd.ldN (cs := [.int .i64 t8, .int .i64 t9]) rfl (by kernel_rfl) (by kernel_rfl) (cellsS hc8)) ?_
        obtain ⟨w7, hd1, h⟩ := h
        refine HW.val (i := 5) hH (by kernel_rfl) rfl (Wants.free rfl) rfl (Vl.builtin (v := .tuple #[]) rfl (valB hd1)) (fun hc => by cases hc) ?_
        refine HW.done hH (by kernel_rfl) ?_
        refine NW.block ?_
        exact res0n rfl (by exact ⟨rfl, h⟩)
      · replace h := h.2 hb3
        replace h := h _ rfl
        refine CW.drawn (fun w => w = World.drew w1) 6 (by kernel_rfl) fun H hH => ?_
        generalize World.drew w1 = w8 at h hH ⊢
        refine HW.pure (i := 0) hH rfl (by kernel_rfl) (Wants.free rfl) rfl (fun _ => rfl) (Rd.move (v := .pointer f1) rfl) ?_
        obtain ⟨a4, ha4, h⟩ := h
        refine HW.pure (i := 1) hH rfl (by kernel_rfl) (Wants.free rfl) rfl (fun _ => rfl) (Rd.nil (q := a4) (by rw [← ha4]; rfl)) ?_
        refine HW.pure (i := 2) hH rfl (by kernel_rfl) (Wants.free rfl) rfl (fun _ => rfl) (Rd.fa (v := .pointer (some (a4.add 5))) rfl (fun _ => by kernel_rfl)) ?_
        obtain ⟨t10, hc9, h⟩ := h
        refine HW.take (i := 3) hH rfl (by kernel_rfl) (by kernel_rfl) (Wants.free rfl) rfl (fun _ => rfl) (Rd.ld (v := .map t10) rfl (by kernel_rfl) (eqs hc9)) ?_
        obtain ⟨t11, t12, hc10, h⟩ := h
        refine HW.take (i := 4) hH rfl (by kernel_rfl) (by kernel_rfl) (Wants.free rfl) rfl (fun _ => rfl) (Rd.ldN (cs := [.int .i64 t11, .int .i64 t12]) rfl (by kernel_rfl) (by kernel_rfl) (cellsS hc10)) ?_
        refine HW.pure (i := 5) hH rfl (by kernel_rfl) (Wants.free rfl) rfl (fun _ => rfl) (Rd.move (v := .int .u32 set1) rfl) ?_
        obtain ⟨w9, hm1, h⟩ := h
        refine HW.eff (i := 6) hH (by kernel_rfl) rfl (Wants.free rfl) rfl (Ef.mapUpdate rfl rfl rfl hm1) (fun hc => by cases hc) ?_
        refine HW.done hH (by kernel_rfl) ?_
        refine NW.block ?_
        exact res0n rfl (by exact ⟨rfl, h⟩)

/- (*pomander/flow.Flow).right -/
def V_flow_Flow_right (f1 : Option Addr) (l1 : Option Addr) (l1n : Nat) (l1c : Nat) (w : World) (R : Bool → World → Prop) : Prop :=
  ∃ (I1 : Bool × Int → World → Prop) (m1 : Bool × Int → World → Nat), I1 (false, 0) w ∧ ∀ (s1 : Bool × Int) (w1 : World), I1 s1 w1 → ((decide (s1.2 < (l1n : Int))) = true → ∃ a1 : Addr, l1 = some a1 ∧ (0 : Int) ≤ s1.2 ∧ s1.2 < (l1n : Int) ∧ (∃ (t1 : Int) (t2 : Int) (t3 : Option Addr) (t3n : Nat) (t3c : Nat), CellsAt w1 (a1.add (Int.toNat s1.2 * 3)) 0 [.int .i64 t1, .int .i64 t2, .slice t3 t3n t3c] ∧ (∀ b1 : Nat, b1 = World.size w1 → ∀ w2 : World, w2 = World.alloc w1 (.cells #[.int .i64 0, .int .i64 0, .slice none 0 0] 65) → (Has w2 (⟨b1, 0, none⟩ : Addr) 3 ∧ Free w2 (⟨b1, 0, none⟩ : Addr) 3 ∧ ∀ w3 : World, w3 = setCells w2 (⟨b1, 0, none⟩ : Addr) 0 [.int .i64 t1, .int .i64 t2, .slice t3 t3n t3c] → (∃ (t4 : Int) (t5 : Int), CellsAt w3 (⟨b1, 0, none⟩ : Addr) 0 [.int .i64 t4, .int .i64 t5] ∧ (∃ J1 : Bool → World → Prop, (∀ (b2 : Bool) (w4 : World), J1 b2 w4 → (b2 = true → R false w4) ∧ (b2 = false → ∃ (t8 : Option Addr) (t8n : Nat) (t8c : Nat), w4.cell? (⟨b1, 2, none⟩ : Addr) = some (.slice t8 t8n t8c) ∧ (∃ (I2 : Bool × Int → World → Prop) (m2 : Bool × Int → World → Nat), I2 (s1.1, 0) w4 ∧ ∀ (s2 : Bool × Int) (w6 : World), I2 s2 w6 → ((decide (s2.2 < (t8n : Int))) = true → ∃ a2 : Addr, t8 = some a2 ∧ (0 : Int) ≤ s2.2 ∧ s2.2 < (t8n : Int) ∧ (∃ (t9 : Int) (t10 : Int), CellsAt w6 (a2.add (Int.toNat s2.2 * 2)) 0 [.int .i64 t9, .int .i64 t10] ∧ (∀ b3 : Nat, b3 = World.size w6 → ∀ w7 : World, w7 = World.alloc w6 (.cells #[.int .i64 0, .int .i64 0] 62) → (Has w7 (⟨b3, 0, none⟩ : Addr) 2 ∧ Free w7 (⟨b3, 0, none⟩ : Addr) 2 ∧ ∀ w8 : World, w8 = setCells w7 (⟨b3, 0, none⟩ : Addr) 0 [.int .i64 t9, .int .i64 t10] → (∃ (t11 : Int) (t12 : Int), CellsAt w8 (⟨b3, 0, none⟩ : Addr) 0 [.int .i64 t11, .int .i64 t12] ∧ (Calls Tryz.prog 63 #[.pointer f1, .agg #[.int .i64 t11, .int .i64 t12]] w8 fun e w9 => ∃ (r3 : Bool), e = .returned (.bool r3) ∧ (((!r3) = true → R false w9) ∧ ((!r3) = false → (I2 (s2.1, IntKind.wrap .i64 (s2.2 + 1)) w9 ∧ m2 (s2.1, IntKind.wrap .i64 (s2.2 + 1)) w9 < m2 s2 w6))))))))) ∧ ((decide (s2.2 < (t8n : Int))) = false → (I1 (s2.1, IntKind.wrap .i64 (s1.2 + 1)) w6 ∧ m1 (s2.1, IntKind.wrap .i64 (s1.2 + 1)) w6 < m1 s1 w1))))) ∧ (((!((t4 == 0) && (t5 == 0))) = true → ∃ (t6 : Int) (t7 : Int), CellsAt w3 (⟨b1, 0, none⟩ : Addr) 0 [.int .i64 t6, .int .i64 t7] ∧ (Calls Tryz.prog 63 #[.pointer f1, .agg #[.int .i64 t6, .int .i64 t7]] w3 fun e w5 => ∃ (r2 : Bool), e = .returned (.bool r2) ∧ (J1 (!r2) w5))) ∧ ((!((t4 == 0) && (t5 == 0))) = false → J1 false w3)))))))) ∧ ((decide (s1.2 < (l1n : Int))) = false → R true w1)
set_option maxRecDepth 100000 in
theorem ok_flow_Flow_right (f1 : Option Addr) (l1 : Option Addr) (l1n : Nat) (l1c : Nat) (w : World) (R : Bool → World → Prop) (h : V_flow_Flow_right f1 l1 l1n l1c w R) : Calls Tryz.prog 66 #[.pointer f1, .slice l1 l1n l1c] w (fun e w' => ∃ (r1 : Bool), e = .returned (.bool r1) ∧ R r1 w') := by
  unfold V_flow_Flow_right at h
  refine enter (N := 39) Tryz.func66 rfl rfl ?_
  refine CW.seq ?_
  refine CW.region fun L hL => ?_
  refine LW.rd hL rfl (Wants.free rfl) rfl (Rd.assign (v := .bool false) rfl) ?_
  refine LW.nil hL rfl ?_
  refine NW.then ?_
  refine CW.seq ?_
  refine CW.seq ?_
  refine CW.region fun L hL => ?_
  refine LW.rd hL rfl (Wants.free rfl) rfl (Rd.move (v := .slice l1 l1n l1c) rfl) ?_
  refine LW.rd hL rfl (Wants.free rfl) rfl (Rd.builtin (v := .int .i64 (l1n : Int)) rfl (fun _ _ => by kernel_rfl)) ?_
  refine LW.rd hL rfl (Wants.free rfl) rfl (Rd.move (v := .int .i64 0) rfl) ?_
  refine LW.nil hL rfl ?_
  refine NW.then ?_
  refine CW.block ?_
  obtain ⟨I1, m1, hI1, h⟩ := h
  refine CW.loop (S := Bool × Int) (fun s1 => [(0, .pointer f1), (9, .slice l1 l1n l1c), (10, .int .i64 (l1n : Int)), (4, .bool s1.1), (11, .int .i64 s1.2)]) I1 m1 (false, 0) (by exact ⟨rfl, rfl, rfl, rfl, rfl, trivial⟩) hI1 (fun s1 w1 hI1 => ?_)
  replace h := h s1 w1 hI1
  refine CW.seq ?_
  refine CW.region fun L hL => ?_
  refine LW.rd hL rfl (Wants.free rfl) rfl (Rd.bin (v := .bool (decide (s1.2 < (l1n : Int)))) rfl rfl (fun w => by kernel_rfl)) ?_
  refine LW.nil hL rfl ?_
  refine NW.then ?_
  refine CW.seq ?_
  refine CW.cond rfl (fun hb1 => ?_) (fun hb1 => ?_)
  · replace h := h.1 hb1
    refine CW.skip ?_
    refine NW.then ?_
    refine CW.seq ?_
    refine CW.block ?_
    refine CW.seq ?_
    refine CW.region fun L hL => ?_
    obtain ⟨a1, he1, hi1, hi2, h⟩ := h
    refine LW.rd hL rfl (Wants.free rfl) rfl (Rd.iaS (q := a1) (sz := 3) (by rw [← he1]; rfl) rfl Tryz.underlying27 (by kernel_rfl) hi1 hi2) ?_
    obtain ⟨t1, t2, t3, t3n, t3c, hc1, h⟩ := h
    refine LW.rd hL rfl (Wants.free rfl) rfl (Rd.ldN (cs := [.int .i64 t1, .int .i64 t2, .slice t3 t3n t3c]) rfl (by kernel_rfl) (by kernel_rfl) (cellsS hc1)) ?_
    obtain ⟨b1, hb_b1⟩ : ∃ b1, b1 = World.size w1 := ⟨_, rfl⟩
    obtain ⟨w2, hw_w2⟩ : ∃ w2, w2 = World.alloc w1 (.cells #[.int .i64 0, .int .i64 0, .slice none 0 0] 65) := ⟨_, rfl⟩
    replace h := h b1 hb_b1 w2 hw_w2
    refine LW.val hL rfl (Wants.free rfl) rfl (boxE hb_b1 hw_w2 (Vl.alloc (z := .agg #[.int .i64 0, .int .i64 0, .slice none 0 0]) (by kernel_rfl))) ?_
    obtain ⟨ho1, hf1, h⟩ := h
    obtain ⟨w3, hw_w3⟩ : ∃ w3, w3 = setCells w2 (⟨b1, 0, none⟩ : Addr) 0 [.int .i64 t1, .int .i64 t2, .slice t3 t3n t3c] := ⟨_, rfl⟩
    replace h := h w3 hw_w3
    refine LW.eff hL rfl (Wants.free rfl) rfl (stNE hw_w3 (Ef.stN (cs := [.int .i64 t1, .int .i64 t2, .slice t3 t3n t3c]) rfl rfl (by kernel_rfl) (List.forall_mem_cons.2 ⟨rfl, (List.forall_mem_cons.2 ⟨rfl, (List.forall_mem_cons.2 ⟨rfl, (List.forall_mem_nil _)⟩)⟩)⟩) ho1 hf1)) ?_
    refine LW.nil hL rfl ?_
    refine NW.then ?_
    refine CW.seq ?_
    refine CW.seq ?_
    refine CW.region fun L hL => ?_
    refine LW.rd hL rfl (Wants.free rfl) rfl (Rd.fa (v := .pointer (some (⟨b1, 0, none⟩ : Addr))) rfl (fun _ => by kernel_rfl)) ?_
    obtain ⟨t4, t5, hc2, h⟩ := h
    refine LW.rd hL rfl (Wants.free rfl) rfl (Rd.ldN (cs := [.int .i64 t4, .int .i64 t5]) rfl (by kernel_rfl) (by kernel_rfl) (cellsS hc2)) ?_
    refine LW.rd hL rfl (Wants.free rfl) rfl (Rd.build (v := .agg #[.int .i64 0, .int .i64 0]) rfl (fun _ => by kernel_rfl)) ?_
    refine LW.rd hL rfl (Wants.free rfl) rfl (Rd.bin (v := .bool (!((t4 == 0) && (t5 == 0)))) rfl rfl (fun w => neS_62 _ _ _ _ w)) ?_
    refine LW.rd hL rfl (Wants.free rfl) rfl (Rd.move (v := .bool (!((t4 == 0) && (t5 == 0)))) rfl) ?_
    obtain ⟨J1, hJ1, h1_J1, h0_J1⟩ := h
    suffices K1 : ∀ (b2 : Bool) (w4 : World), J1 b2 w4 → L 11 [(0, .pointer f1), (4, .bool s1.1), (6, .pointer (some (⟨b1, 0, none⟩ : Addr))), (9, .slice l1 l1n l1c), (10, .int .i64 (l1n : Int)), (11, .int .i64 s1.2), (25, .bool b2)] w4 by
      rcases Bool.eq_false_or_eq_true (!((t4 == 0) && (t5 == 0))) with hb2 | hb2
      · have h := h1_J1 hb2
        refine LW.rd hL rfl (Wants.on rfl rfl rfl rfl rfl hb2) rfl (Rd.move (v := .pointer f1) rfl) ?_
        refine LW.rd hL rfl (Wants.on rfl rfl rfl rfl rfl hb2) rfl (Rd.fa (v := .pointer (some (⟨b1, 0, none⟩ : Addr))) rfl (fun _ => by kernel_rfl)) ?_
        obtain ⟨t6, t7, hc3, h⟩ := h
        refine LW.rd hL rfl (Wants.on rfl rfl rfl rfl rfl hb2) rfl (Rd.ldN (cs := [.int .i64 t6, .int .i64 t7]) rfl (by kernel_rfl) (by kernel_rfl) (cellsS hc3)) ?_
        refine LW.call hL rfl (Wants.on rfl rfl rfl rfl rfl hb2) rfl (Cl.fn (f := 63) rfl Tryz.func63 (by kernel_rfl) rfl) h (fun e w5 h_ => ?_)
        clear h
        obtain ⟨r2, rfl, h⟩ := h_
        refine ⟨_, rfl, ?_⟩
        refine LW.rd hL rfl (Wants.on rfl rfl rfl rfl rfl hb2) rfl (Rd.un (v := .bool (!r2)) rfl (fun _ => by kernel_rfl)) ?_
        refine LW.rd hL rfl (Wants.free rfl) rfl (Rd.pickT rfl hb2 rfl) ?_
        exact LW.sub hL (by exact ⟨rfl, rfl, rfl, rfl, rfl, rfl, rfl, trivial⟩) (K1 (!r2) w5 h)
      · have h := h0_J1 hb2
        refine LW.skip hL rfl (Skips.on rfl rfl rfl rfl rfl hb2) rfl ?_
        refine LW.skip hL rfl (Skips.on rfl rfl rfl rfl rfl hb2) rfl ?_
        refine LW.skip hL rfl (Skips.on rfl rfl rfl rfl rfl hb2) rfl ?_
        refine LW.skip hL rfl (Skips.on rfl rfl rfl rfl rfl hb2) rfl ?_
        refine LW.skip hL rfl (Skips.on rfl rfl rfl rfl rfl hb2) rfl ?_
        refine LW.rd hL rfl (Wants.free rfl) rfl (Rd.pickF rfl hb2 rfl) ?_
        exact LW.sub hL (by exact ⟨rfl, rfl, rfl, rfl, rfl, rfl, rfl, trivial⟩) (K1 false w3 h)
    intro b2 w4 h_
    have h := hJ1 b2 w4 h_; clear h_
    refine LW.nil hL rfl ?_
    refine NW.then ?_
    refine CW.cond rfl (fun hb3 => ?_) (fun hb3 => ?_)
    · replace h := h.1 hb3
      refine CW.seq ?_
      refine CW.region fun L hL => ?_
      refine LW.rd hL rfl (Wants.free rfl) rfl (Rd.assign (v := .bool false) rfl) ?_
      refine LW.nil hL rfl ?_
      refine NW.then ?_
      refine CW.ret ?_
      refine RW.then ?_
      refine RW.block ?_
      refine RW.then ?_
      refine RW.then ?_
      refine RW.block ?_
      refine RW.then ?_
      exact res1 rfl rfl ⟨false, rfl, h⟩
    · replace h := h.2 hb3
      refine CW.skip ?_
      refine NW.then ?_
      refine CW.seq ?_
      refine CW.region fun L hL => ?_
      refine LW.rd hL rfl (Wants.free rfl) rfl (Rd.fa (v := .pointer (some (⟨b1, 2, none⟩ : Addr))) rfl (fun _ => by kernel_rfl)) ?_
      obtain ⟨t8, t8n, t8c, hc4, h⟩ := h
      refine LW.rd hL rfl (Wants.free rfl) rfl (Rd.ld (v := .slice t8 t8n t8c) rfl (by kernel_rfl) (eqs hc4)) ?_
      refine LW.rd hL rfl (Wants.free rfl) rfl (Rd.builtin (v := .int .i64 (t8n : Int)) rfl (fun _ _ => by kernel_rfl)) ?_
      refine LW.rd hL rfl (Wants.free rfl) rfl (Rd.move (v := .int .i64 0) rfl) ?_
      refine LW.nil hL rfl ?_
      refine NW.then ?_
      refine CW.block ?_
      obtain ⟨I2, m2, hI2, h⟩ := h
      refine CW.loop (S := Bool × Int) (fun s2 => [(0, .pointer f1), (9, .slice l1 l1n l1c), (10, .int .i64 (l1n : Int)), (11, .int .i64 s1.2), (27, .slice t8 t8n t8c), (28, .int .i64 (t8n : Int)), (4, .bool s2.1), (29, .int .i64 s2.2)]) I2 m2 (s1.1, 0) (by exact ⟨rfl, rfl, rfl, rfl, rfl, rfl, rfl, rfl, trivial⟩) hI2 (fun s2 w6 hI2 => ?_)
      replace h := h s2 w6 hI2
      refine CW.seq ?_
      refine CW.region fun L hL => ?_
      refine LW.rd hL rfl (Wants.free rfl) rfl (Rd.bin (v := .bool (decide (s2.2 < (t8n : Int)))) rfl rfl (fun w => by kernel_rfl)) ?_
      refine LW.nil hL rfl ?_
      refine NW.then ?_
      refine CW.seq ?_
      refine CW.cond rfl (fun hb4 => ?_) (fun hb4 => ?_)
      · replace h := h.1 hb4
        refine CW.skip ?_
        refine NW.then ?_
        refine CW.seq ?_
        refine CW.block ?_
        refine CW.seq ?_
        refine CW.region fun L hL => ?_
        obtain ⟨a2, he2, hi3, hi4, h⟩ := h
        refine LW.rd hL rfl (Wants.free rfl) rfl (Rd.iaS (q := a2) (sz := 2) (by rw [← he2]; rfl) rfl Tryz.underlying63 (by kernel_rfl) hi3 hi4) ?_
        obtain ⟨t9, t10, hc5, h⟩ := h
        refine LW.rd hL rfl (Wants.free rfl) rfl (Rd.ldN (cs := [.int .i64 t9, .int .i64 t10]) rfl (by kernel_rfl) (by kernel_rfl) (cellsS hc5)) ?_
        obtain ⟨b3, hb_b3⟩ : ∃ b3, b3 = World.size w6 := ⟨_, rfl⟩
        obtain ⟨w7, hw_w7⟩ : ∃ w7, w7 = World.alloc w6 (.cells #[.int .i64 0, .int .i64 0] 62) := ⟨_, rfl⟩
        replace h := h b3 hb_b3 w7 hw_w7
        refine LW.val hL rfl (Wants.free rfl) rfl (boxE hb_b3 hw_w7 (Vl.alloc (z := .agg #[.int .i64 0, .int .i64 0]) (by kernel_rfl))) ?_
        obtain ⟨ho2, hf2, h⟩ := h
        obtain ⟨w8, hw_w8⟩ : ∃ w8, w8 = setCells w7 (⟨b3, 0, none⟩ : Addr) 0 [.int .i64 t9, .int .i64 t10] := ⟨_, rfl⟩
        replace h := h w8 hw_w8
        refine LW.eff hL rfl (Wants.free rfl) rfl (stNE hw_w8 (Ef.stN (cs := [.int .i64 t9, .int .i64 t10]) rfl rfl (by kernel_rfl) (List.forall_mem_cons.2 ⟨rfl, (List.forall_mem_cons.2 ⟨rfl, (List.forall_mem_nil _)⟩)⟩) ho2 hf2)) ?_
        refine LW.nil hL rfl ?_
        refine NW.then ?_
        refine CW.seq ?_
        refine CW.region fun L hL => ?_
        refine LW.rd hL rfl (Wants.free rfl) rfl (Rd.move (v := .pointer f1) rfl) ?_
        obtain ⟨t11, t12, hc6, h⟩ := h
        refine LW.rd hL rfl (Wants.free rfl) rfl (Rd.ldN (cs := [.int .i64 t11, .int .i64 t12]) rfl (by kernel_rfl) (by kernel_rfl) (cellsS hc6)) ?_
        refine LW.call hL rfl (Wants.free rfl) rfl (Cl.fn (f := 63) rfl Tryz.func63 (by kernel_rfl) rfl) h (fun e w9 h_ => ?_)
        clear h
        obtain ⟨r3, rfl, h⟩ := h_
        refine ⟨_, rfl, ?_⟩
        refine LW.rd hL rfl (Wants.free rfl) rfl (Rd.un (v := .bool (!r3)) rfl (fun _ => by kernel_rfl)) ?_
        refine LW.nil hL rfl ?_
        refine NW.then ?_
        refine CW.cond rfl (fun hb5 => ?_) (fun hb5 => ?_)
        · replace h := h.1 hb5
          refine CW.seq ?_
          refine CW.region fun L hL => ?_
          refine LW.rd hL rfl (Wants.free rfl) rfl (Rd.assign (v := .bool false) rfl) ?_
          refine LW.nil hL rfl ?_
          refine NW.then ?_
          refine CW.ret ?_
          refine RW.block ?_
          refine RW.then ?_
          refine RW.then ?_
          refine RW.block ?_
          refine RW.block ?_
          refine RW.then ?_
          refine RW.then ?_
          refine RW.block ?_
          refine RW.then ?_
          exact res1 rfl rfl ⟨false, rfl, h⟩
        · replace h := h.2 hb5
          refine CW.skip ?_
          refine NW.block ?_
          refine NW.then ?_
          refine CW.region fun L hL => ?_
          refine LW.rd hL rfl (Wants.free rfl) rfl (Rd.bin (v := .int .i64 (IntKind.wrap .i64 (s2.2 + 1))) rfl rfl (fun w => by kernel_rfl)) ?_
          refine LW.rd hL rfl (Wants.free rfl) rfl (Rd.move (v := .int .i64 (IntKind.wrap .i64 (s2.2 + 1))) rfl) ?_
          refine LW.nil hL rfl ?_
          exact NW.loop (S := Bool × Int) (Ek := fun s2 => [(0, .pointer f1), (9, .slice l1 l1n l1c), (10, .int .i64 (l1n : Int)), (11, .int .i64 s1.2), (27, .slice t8 t8n t8c), (28, .int .i64 (t8n : Int)), (4, .bool s2.1), (29, .int .i64 s2.2)]) (s2.1, IntKind.wrap .i64 (s2.2 + 1)) (by exact ⟨rfl, rfl, rfl, rfl, rfl, rfl, rfl, rfl, trivial⟩) h
      · replace h := h.2 hb4
        refine CW.exit ?_
        refine XW.then ?_
        refine XW.then ?_
        refine XW.hit ?_
        refine NW.block ?_
        refine NW.then ?_
        refine CW.region fun L hL => ?_
        refine LW.rd hL rfl (Wants.free rfl) rfl (Rd.bin (v := .int .i64 (IntKind.wrap .i64 (s1.2 + 1))) rfl rfl (fun w => by kernel_rfl)) ?_
        refine LW.rd hL rfl (Wants.free rfl) rfl (Rd.move (v := .int .i64 (IntKind.wrap .i64 (s1.2 + 1))) rfl) ?_
        refine LW.nil hL rfl ?_
        exact NW.loop (S := Bool × Int) (Ek := fun s1 => [(0, .pointer f1), (9, .slice l1 l1n l1c), (10, .int .i64 (l1n : Int)), (4, .bool s1.1), (11, .int .i64 s1.2)]) (s2.1, IntKind.wrap .i64 (s1.2 + 1)) (by exact ⟨rfl, rfl, rfl, rfl, rfl, trivial⟩) h
  · replace h := h.2 hb1
    refine CW.exit ?_
    refine XW.then ?_
    refine XW.then ?_
    refine XW.hit ?_
    refine NW.then ?_
    refine CW.seq ?_
    refine CW.region fun L hL => ?_
    refine LW.rd hL rfl (Wants.free rfl) rfl (Rd.assign (v := .bool true) rfl) ?_
    refine LW.nil hL rfl ?_
    refine NW.then ?_
    refine CW.ret ?_
    exact res1 rfl rfl ⟨true, rfl, h⟩

/- (*pomander/flow.Flow).together -/
def V_flow_Flow_together (f1 : Option Addr) (l1 : Option Addr) (l1n : Nat) (l1c : Nat) (w : World) (R : Int → World → Prop) : Prop :=
  ∃ (I1 : Int × Int → World → Prop) (m1 : Int × Int → World → Nat), I1 (0, 0) w ∧ ∀ (s1 : Int × Int) (w1 : World), I1 s1 w1 → ((decide (s1.2 < (l1n : Int))) = true → ∃ a1 : Addr, l1 = some a1 ∧ (0 : Int) ≤ s1.2 ∧ s1.2 < (l1n : Int) ∧ (∃ (t1 : Int) (t2 : Int), CellsAt w1 (a1.add (Int.toNat s1.2 * 2)) 0 [.int .i64 t1, .int .i64 t2] ∧ (∀ b1 : Nat, b1 = World.size w1 → ∀ w2 : World, w2 = World.alloc w1 (.cells #[.int .i64 0, .int .i64 0] 62) → (Has w2 (⟨b1, 0, none⟩ : Addr) 2 ∧ Free w2 (⟨b1, 0, none⟩ : Addr) 2 ∧ ∀ w3 : World, w3 = setCells w2 (⟨b1, 0, none⟩ : Addr) 0 [.int .i64 t1, .int .i64 t2] → (∃ (t3 : Int) (t4 : Int), CellsAt w3 (⟨b1, 0, none⟩ : Addr) 0 [.int .i64 t3, .int .i64 t4] ∧ (Calls Tryz.prog 73 #[.pointer f1, .agg #[.int .i64 t3, .int .i64 t4]] w3 fun e w4 => ∃ (r2 : Int), e = .returned (.int .u32 r2) ∧ ((I1 (bits .or .u32 s1.1 r2, IntKind.wrap .i64 (s1.2 + 1)) w4 ∧ m1 (bits .or .u32 s1.1 r2, IntKind.wrap .i64 (s1.2 + 1)) w4 < m1 s1 w1)))))))) ∧ ((decide (s1.2 < (l1n : Int))) = false → R s1.1 w1)
set_option maxRecDepth 100000 in
theorem ok_flow_Flow_together (f1 : Option Addr) (l1 : Option Addr) (l1n : Nat) (l1c : Nat) (w : World) (R : Int → World → Prop) (h : V_flow_Flow_together f1 l1 l1n l1c w R) : Calls Tryz.prog 67 #[.pointer f1, .slice l1 l1n l1c] w (fun e w' => ∃ (r1 : Int), e = .returned (.int .u32 r1) ∧ R r1 w') := by
  unfold V_flow_Flow_together at h
  refine enter (N := 21) Tryz.func67 rfl rfl ?_
  refine CW.seq ?_
  refine CW.region fun L hL => ?_
  refine LW.rd hL rfl (Wants.free rfl) rfl (Rd.assign (v := .int .u32 0) rfl) ?_
  refine LW.nil hL rfl ?_
  refine NW.then ?_
  refine CW.seq ?_
  refine CW.region fun L hL => ?_
  refine LW.rd hL rfl (Wants.free rfl) rfl (Rd.assign (v := .int .u32 0) rfl) ?_
  refine LW.nil hL rfl ?_
  refine NW.then ?_
  refine CW.seq ?_
  refine CW.seq ?_
  refine CW.region fun L hL => ?_
  refine LW.rd hL rfl (Wants.free rfl) rfl (Rd.move (v := .slice l1 l1n l1c) rfl) ?_
  refine LW.rd hL rfl (Wants.free rfl) rfl (Rd.builtin (v := .int .i64 (l1n : Int)) rfl (fun _ _ => by kernel_rfl)) ?_
  refine LW.rd hL rfl (Wants.free rfl) rfl (Rd.move (v := .int .i64 0) rfl) ?_
  refine LW.nil hL rfl ?_
  refine NW.then ?_
  refine CW.block ?_
  obtain ⟨I1, m1, hI1, h⟩ := h
  refine CW.loop (S := Int × Int) (fun s1 => [(0, .pointer f1), (4, .int .u32 0), (8, .slice l1 l1n l1c), (9, .int .i64 (l1n : Int)), (5, .int .u32 s1.1), (10, .int .i64 s1.2)]) I1 m1 (0, 0) (by exact ⟨rfl, rfl, rfl, rfl, rfl, rfl, trivial⟩) hI1 (fun s1 w1 hI1 => ?_)
  replace h := h s1 w1 hI1
  refine CW.seq ?_
  refine CW.region fun L hL => ?_
  refine LW.rd hL rfl (Wants.free rfl) rfl (Rd.bin (v := .bool (decide (s1.2 < (l1n : Int)))) rfl rfl (fun w => by kernel_rfl)) ?_
  refine LW.nil hL rfl ?_
  refine NW.then ?_
  refine CW.seq ?_
  refine CW.cond rfl (fun hb1 => ?_) (fun hb1 => ?_)
  · replace h := h.1 hb1
    refine CW.skip ?_
    refine NW.then ?_
    refine CW.seq ?_
    refine CW.block ?_
    refine CW.seq ?_
    refine CW.region fun L hL => ?_
    obtain ⟨a1, he1, hi1, hi2, h⟩ := h
    refine LW.rd hL rfl (Wants.free rfl) rfl (Rd.iaS (q := a1) (sz := 2) (by rw [← he1]; rfl) rfl Tryz.underlying63 (by kernel_rfl) hi1 hi2) ?_
    obtain ⟨t1, t2, hc1, h⟩ := h
    refine LW.rd hL rfl (Wants.free rfl) rfl (Rd.ldN (cs := [.int .i64 t1, .int .i64 t2]) rfl (by kernel_rfl) (by kernel_rfl) (cellsS hc1)) ?_
    obtain ⟨b1, hb_b1⟩ : ∃ b1, b1 = World.size w1 := ⟨_, rfl⟩
    obtain ⟨w2, hw_w2⟩ : ∃ w2, w2 = World.alloc w1 (.cells #[.int .i64 0, .int .i64 0] 62) := ⟨_, rfl⟩
    replace h := h b1 hb_b1 w2 hw_w2
    refine LW.val hL rfl (Wants.free rfl) rfl (boxE hb_b1 hw_w2 (Vl.alloc (z := .agg #[.int .i64 0, .int .i64 0]) (by kernel_rfl))) ?_
    obtain ⟨ho1, hf1, h⟩ := h
    obtain ⟨w3, hw_w3⟩ : ∃ w3, w3 = setCells w2 (⟨b1, 0, none⟩ : Addr) 0 [.int .i64 t1, .int .i64 t2] := ⟨_, rfl⟩
    replace h := h w3 hw_w3
    refine LW.eff hL rfl (Wants.free rfl) rfl (stNE hw_w3 (Ef.stN (cs := [.int .i64 t1, .int .i64 t2]) rfl rfl (by kernel_rfl) (List.forall_mem_cons.2 ⟨rfl, (List.forall_mem_cons.2 ⟨rfl, (List.forall_mem_nil _)⟩)⟩) ho1 hf1)) ?_
    refine LW.nil hL rfl ?_
    refine NW.then ?_
    refine CW.region fun L hL => ?_
    refine LW.rd hL rfl (Wants.free rfl) rfl (Rd.move (v := .int .u32 s1.1) rfl) ?_
    refine LW.rd hL rfl (Wants.free rfl) rfl (Rd.move (v := .pointer f1) rfl) ?_
    obtain ⟨t3, t4, hc2, h⟩ := h
    refine LW.rd hL rfl (Wants.free rfl) rfl (Rd.ldN (cs := [.int .i64 t3, .int .i64 t4]) rfl (by kernel_rfl) (by kernel_rfl) (cellsS hc2)) ?_
    refine LW.call hL rfl (Wants.free rfl) rfl (Cl.fn (f := 73) rfl Tryz.func73 (by kernel_rfl) rfl) h (fun e w4 h_ => ?_)
    clear h
    obtain ⟨r2, rfl, h⟩ := h_
    refine ⟨_, rfl, ?_⟩
    refine LW.rd hL rfl (Wants.free rfl) rfl (Rd.bin (v := .int .u32 (bits .or .u32 s1.1 r2)) rfl rfl (fun w => by kernel_rfl)) ?_
    refine LW.rd hL rfl (Wants.free rfl) rfl (Rd.assign (v := .int .u32 (bits .or .u32 s1.1 r2)) rfl) ?_
    refine LW.nil hL rfl ?_
    refine NW.block ?_
    refine NW.then ?_
    refine CW.region fun L hL => ?_
    refine LW.rd hL rfl (Wants.free rfl) rfl (Rd.bin (v := .int .i64 (IntKind.wrap .i64 (s1.2 + 1))) rfl rfl (fun w => by kernel_rfl)) ?_
    refine LW.rd hL rfl (Wants.free rfl) rfl (Rd.move (v := .int .i64 (IntKind.wrap .i64 (s1.2 + 1))) rfl) ?_
    refine LW.nil hL rfl ?_
    exact NW.loop (S := Int × Int) (Ek := fun s1 => [(0, .pointer f1), (4, .int .u32 0), (8, .slice l1 l1n l1c), (9, .int .i64 (l1n : Int)), (5, .int .u32 s1.1), (10, .int .i64 s1.2)]) (bits .or .u32 s1.1 r2, IntKind.wrap .i64 (s1.2 + 1)) (by exact ⟨rfl, rfl, rfl, rfl, rfl, rfl, trivial⟩) h
  · replace h := h.2 hb1
    refine CW.exit ?_
    refine XW.then ?_
    refine XW.then ?_
    refine XW.hit ?_
    refine NW.then ?_
    refine CW.seq ?_
    refine CW.region fun L hL => ?_
    refine LW.rd hL rfl (Wants.free rfl) rfl (Rd.move (v := .int .u32 s1.1) rfl) ?_
    refine LW.rd hL rfl (Wants.free rfl) rfl (Rd.assign (v := .int .u32 s1.1) rfl) ?_
    refine LW.nil hL rfl ?_
    refine NW.then ?_
    refine CW.ret ?_
    exact res1 rfl rfl ⟨s1.1, rfl, h⟩

end Go.Proofs.YtfcfkhbkkfpehaaGreat
end

/- XFt3 -/
section
set_option linter.unusedVariables false
set_option linter.unusedSimpArgs false
namespace Go.Proofs.YtfcfkhbkkfpehaaGreat
open Go.X

/- (*pomander/flow.Flow).bounds -/
def V_flow_Flow_bounds (f1 : Option Addr) (w : World) (R : Value → Value → Value → Value → Value → Value → Value → Value → Value → Value → Value → Value → Value → Value → Value → Value → Value → Value → World → Prop) : Prop :=
  ∀ b1 : Nat, b1 = World.size w → ∀ w1 : World, w1 = World.alloc w (.cells #[.pointer f1] 35) → (∀ b2 : Nat, b2 = World.size w1 → ∀ w2 : World, w2 = World.alloc w1 (.cells #[.nilFunc, .nilFunc, .nilFunc, .nilFunc, .nilFunc, .nilFunc, .nilFunc, .nilFunc, .nilFunc, .nilFunc, .nilFunc, .nilFunc, .nilFunc, .nilFunc, .nilFunc, .nilFunc, .nilFunc, .nilFunc] 174) → (∀ b3 : Nat, b3 = World.size w2 → ∀ w3 : World, w3 = World.alloc w2 (.cells #[.nilFunc, .nilFunc, .nilFunc, .nilFunc, .nilFunc, .nilFunc, .nilFunc, .nilFunc, .nilFunc, .nilFunc, .nilFunc, .nilFunc, .nilFunc, .nilFunc, .nilFunc, .nilFunc, .nilFunc, .nilFunc] 174) → (Has w3 (⟨b3, 0, none⟩ : Addr) 18 ∧ Free w3 (⟨b3, 0, none⟩ : Addr) 18 ∧ ∀ w4 : World, w4 = setCells w3 (⟨b3, 0, none⟩ : Addr) 0 [.nilFunc, .func (.func 106) #[] #[], .nilFunc, .nilFunc, .nilFunc, .nilFunc, .nilFunc, .nilFunc, .nilFunc, .nilFunc, .func (.func 109) #[] #[.pointer (some (⟨b1, 0, none⟩ : Addr))], .func (.func 107) #[] #[], .func (.func 110) #[] #[.pointer (some (⟨b1, 0, none⟩ : Addr))], .func (.func 105) #[] #[], .func (.func 105) #[] #[], .func (.func 105) #[] #[], .func (.func 105) #[] #[], .func (.func 108) #[] #[]] → (∃ (I1 : Int → World → Prop) (m1 : Int → World → Nat), I1 2 w4 ∧ ∀ (s1 : Int) (w5 : World), I1 s1 w5 → ((decide (s1 ≤ 9)) = true → (0 : Int) ≤ s1 ∧ (s1 : Int) < 18 ∧ ((∃ o : Value, w5.cell? ((⟨b3, 0, none⟩ : Addr).add (Int.toNat s1 * 1)) = some o) ∧ w5.frozen? ((⟨b3, 0, none⟩ : Addr).add (Int.toNat s1 * 1)) = false ∧ ∀ w6 : World, w6 = World.setCell w5 ((⟨b3, 0, none⟩ : Addr).add (Int.toNat s1 * 1)) (.func (.func 104) #[] #[]) → ((I1 (IntKind.wrap .i64 (s1 + 1)) w6 ∧ m1 (IntKind.wrap .i64 (s1 + 1)) w6 < m1 s1 w5)))) ∧ ((decide (s1 ≤ 9)) = false → ∃ (t1 : Value) (t2 : Value) (t3 : Value) (t4 : Value) (t5 : Value) (t6 : Value) (t7 : Value) (t8 : Value) (t9 : Value) (t10 : Value) (t11 : Value) (t12 : Value) (t13 : Value) (t14 : Value) (t15 : Value) (t16 : Value) (t17 : Value) (t18 : Value), CellsAt w5 (⟨b3, 0, none⟩ : Addr) 0 [t1, t2, t3, t4, t5, t6, t7, t8, t9, t10, t11, t12, t13, t14, t15, t16, t17, t18] ∧ (Value.oneCell' t1 = true ∧ Value.oneCell' t2 = true ∧ Value.oneCell' t3 = true ∧ Value.oneCell' t4 = true ∧ Value.oneCell' t5 = true ∧ Value.oneCell' t6 = true ∧ Value.oneCell' t7 = true ∧ Value.oneCell' t8 = true ∧ Value.oneCell' t9 = true ∧ Value.oneCell' t10 = true ∧ Value.oneCell' t11 = true ∧ Value.oneCell' t12 = true ∧ Value.oneCell' t13 = true ∧ Value.oneCell' t14 = true ∧ Value.oneCell' t15 = true ∧ Value.oneCell' t16 = true ∧ Value.oneCell' t17 = true ∧ Value.oneCell' t18 = true ∧ Has w5 (⟨b2, 0, none⟩ : Addr) 18 ∧ Free w5 (⟨b2, 0, none⟩ : Addr) 18 ∧ ∀ w7 : World, w7 = setCells w5 (⟨b2, 0, none⟩ : Addr) 0 [t1, t2, t3, t4, t5, t6, t7, t8, t9, t10, t11, t12, t13, t14, t15, t16, t17, t18] → (∃ (r19 : Value) (r20 : Value) (r21 : Value) (r22 : Value) (r23 : Value) (r24 : Value) (r25 : Value) (r26 : Value) (r27 : Value) (r28 : Value) (r29 : Value) (r30 : Value) (r31 : Value) (r32 : Value) (r33 : Value) (r34 : Value) (r35 : Value) (r36 : Value), CellsAt w7 (⟨b2, 0, none⟩ : Addr) 0 [r19, r20, r21, r22, r23, r24, r25, r26, r27, r28, r29, r30, r31, r32, r33, r34, r35, r36] ∧ R r19 r20 r21 r22 r23 r24 r25 r26 r27 r28 r29 r30 r31 r32 r33 r34 r35 r36 w7)))))))
set_option maxRecDepth 100000 in
theorem ok_flow_Flow_bounds (f1 : Option Addr) (w : World) (R : Value → Value → Value → Value → Value → Value → Value → Value → Value → Value → Value → Value → Value → Value → Value → Value → Value → Value → World → Prop) (h : V_flow_Flow_bounds f1 w R) : Calls Tryz.prog 89 #[.pointer f1] w (fun e w' => ∃ (r1 : Value) (r2 : Value) (r3 : Value) (r4 : Value) (r5 : Value) (r6 : Value) (r7 : Value) (r8 : Value) (r9 : Value) (r10 : Value) (r11 : Value) (r12 : Value) (r13 : Value) (r14 : Value) (r15 : Value) (r16 : Value) (r17 : Value) (r18 : Value), e = .returned (.agg #[r1, r2, r3, r4, r5, r6, r7, r8, r9, r10, r11, r12, r13, r14, r15, r16, r17, r18]) ∧ R r1 r2 r3 r4 r5 r6 r7 r8 r9 r10 r11 r12 r13 r14 r15 r16 r17 r18 w') := by
  unfold V_flow_Flow_bounds at h
  refine enter (N := 22) Tryz.func89 rfl rfl ?_
  refine CW.seq ?_
  refine CW.region fun L hL => ?_
  obtain ⟨b1, hb_b1⟩ : ∃ b1, b1 = World.size w := ⟨_, rfl⟩
  obtain ⟨w1, hw_w1⟩ : ∃ w1, w1 = World.alloc w (.cells #[.pointer f1] 35) := ⟨_, rfl⟩
  replace h := h b1 hb_b1 w1 hw_w1
  refine LW.val hL rfl (Wants.free rfl) rfl (boxE hb_b1 hw_w1 (Vl.box (v := .pointer f1) rfl)) ?_
  obtain ⟨b2, hb_b2⟩ : ∃ b2, b2 = World.size w1 := ⟨_, rfl⟩
  obtain ⟨w2, hw_w2⟩ : ∃ w2, w2 = World.alloc w1 (.cells #[.nilFunc, .nilFunc, .nilFunc, .nilFunc, .nilFunc, .nilFunc, .nilFunc, .nilFunc, .nilFunc, .nilFunc, .nilFunc, .nilFunc, .nilFunc, .nilFunc, .nilFunc, .nilFunc, .nilFunc, .nilFunc] 174) := ⟨_, rfl⟩
  replace h := h b2 hb_b2 w2 hw_w2
  refine LW.val hL rfl (Wants.free rfl) rfl (boxE hb_b2 hw_w2 (Vl.alloc (z := .agg #[.nilFunc, .nilFunc, .nilFunc, .nilFunc, .nilFunc, .nilFunc, .nilFunc, .nilFunc, .nilFunc, .nilFunc, .nilFunc, .nilFunc, .nilFunc, .nilFunc, .nilFunc, .nilFunc, .nilFunc, .nilFunc]) (by kernel_rfl))) ?_
  refine LW.nil hL rfl ?_
  refine NW.then ?_
  refine CW.seq ?_
  refine CW.region fun L hL => ?_
  refine LW.rd hL rfl (Wants.free rfl) rfl (Rd.assign (v := .func (.func 104) #[] #[]) rfl) ?_
  refine LW.nil hL rfl ?_
  refine NW.then ?_
  refine CW.seq ?_
  refine CW.region fun L hL => ?_
  refine LW.rd hL rfl (Wants.free rfl) rfl (Rd.assign (v := .func (.func 105) #[] #[]) rfl) ?_
  refine LW.nil hL rfl ?_
  refine NW.then ?_
  refine CW.seq ?_
  refine CW.region fun L hL => ?_
  refine LW.rd hL rfl (Wants.free rfl) rfl (Rd.makeFunc rfl) ?_
  refine LW.rd hL rfl (Wants.free rfl) rfl (Rd.makeFunc rfl) ?_
  refine LW.rd hL rfl (Wants.free rfl) rfl (Rd.move (v := .func (.func 105) #[] #[]) rfl) ?_
  refine LW.rd hL rfl (Wants.free rfl) rfl (Rd.move (v := .func (.func 105) #[] #[]) rfl) ?_
  refine LW.rd hL rfl (Wants.free rfl) rfl (Rd.move (v := .func (.func 105) #[] #[]) rfl) ?_
  refine LW.rd hL rfl (Wants.free rfl) rfl (Rd.move (v := .func (.func 105) #[] #[]) rfl) ?_
  refine LW.rd hL rfl (Wants.free rfl) rfl (Rd.build (v := .agg #[.nilFunc, .func (.func 106) #[] #[], .nilFunc, .nilFunc, .nilFunc, .nilFunc, .nilFunc, .nilFunc, .nilFunc, .nilFunc, .func (.func 109) #[] #[.pointer (some (⟨b1, 0, none⟩ : Addr))], .func (.func 107) #[] #[], .func (.func 110) #[] #[.pointer (some (⟨b1, 0, none⟩ : Addr))], .func (.func 105) #[] #[], .func (.func 105) #[] #[], .func (.func 105) #[] #[], .func (.func 105) #[] #[], .func (.func 108) #[] #[]]) rfl (fun _ => by kernel_rfl)) ?_
  obtain ⟨b3, hb_b3⟩ : ∃ b3, b3 = World.size w2 := ⟨_, rfl⟩
  obtain ⟨w3, hw_w3⟩ : ∃ w3, w3 = World.alloc w2 (.cells #[.nilFunc, .nilFunc, .nilFunc, .nilFunc, .nilFunc, .nilFunc, .nilFunc, .nilFunc, .nilFunc, .nilFunc, .nilFunc, .nilFunc, .nilFunc, .nilFunc, .nilFunc, .nilFunc, .nilFunc, .nilFunc] 174) := ⟨_, rfl⟩
  replace h := h b3 hb_b3 w3 hw_w3
  refine LW.val hL rfl (Wants.free rfl) rfl (boxE hb_b3 hw_w3 (Vl.alloc (z := .agg #[.nilFunc, .nilFunc, .nilFunc, .nilFunc, .nilFunc, .nilFunc, .nilFunc, .nilFunc, .nilFunc, .nilFunc, .nilFunc, .nilFunc, .nilFunc, .nilFunc, .nilFunc, .nilFunc, .nilFunc, .nilFunc]) (by kernel_rfl))) ?_
  obtain ⟨ho1, hf1, h⟩ := h
  obtain ⟨w4, hw_w4⟩ : ∃ w4, w4 = setCells w3 (⟨b3, 0, none⟩ : Addr) 0 [.nilFunc, .func (.func 106) #[] #[], .nilFunc, .nilFunc, .nilFunc, .nilFunc, .nilFunc, .nilFunc, .nilFunc, .nilFunc, .func (.func 109) #[] #[.pointer (some (⟨b1, 0, none⟩ : Addr))], .func (.func 107) #[] #[], .func (.func 110) #[] #[.pointer (some (⟨b1, 0, none⟩ : Addr))], .func (.func 105) #[] #[], .func (.func 105) #[] #[], .func (.func 105) #[] #[], .func (.func 105) #[] #[], .func (.func 108) #[] #[]] := ⟨_, rfl⟩
  replace h := h w4 hw_w4
  refine LW.eff hL rfl (Wants.free rfl) rfl (stNE hw_w4 (Ef.stN (cs := [.nilFunc, .func (.func 106) #[] #[], .nilFunc, .nilFunc, .nilFunc, .nilFunc, .nilFunc, .nilFunc, .nilFunc, .nilFunc, .func (.func 109) #[] #[.pointer (some (⟨b1, 0, none⟩ : Addr))], .func (.func 107) #[] #[], .func (.func 110) #[] #[.pointer (some (⟨b1, 0, none⟩ : Addr))], .func (.func 105) #[] #[], .func (.func 105) #[] #[], .func (.func 105) #[] #[], .func (.func 105) #[] #[], .func (.func 108) #[] #[]]) rfl rfl (by kernel_rfl) (List.forall_mem_cons.2 ⟨rfl, (List.forall_mem_cons.2 ⟨rfl, (List.forall_mem_cons.2 ⟨rfl, (List.forall_mem_cons.2 ⟨rfl, (List.forall_mem_cons.2 ⟨rfl, (List.forall_mem_cons.2 ⟨rfl, (List.forall_mem_cons.2 ⟨rfl, (List.forall_mem_cons.2 ⟨rfl, (List.forall_mem_cons.2 ⟨rfl, (List.forall_mem_cons.2 ⟨rfl, (List.forall_mem_cons.2 ⟨rfl, (List.forall_mem_cons.2 ⟨rfl, (List.forall_mem_cons.2 ⟨rfl, (List.forall_mem_cons.2 ⟨rfl, (List.forall_mem_cons.2 ⟨rfl, (List.forall_mem_cons.2 ⟨rfl, (List.forall_mem_cons.2 ⟨rfl, (List.forall_mem_cons.2 ⟨rfl, (List.forall_mem_nil _)⟩)⟩)⟩)⟩)⟩)⟩)⟩)⟩)⟩)⟩)⟩)⟩)⟩)⟩)⟩)⟩)⟩)⟩) ho1 hf1)) ?_
  refine LW.nil hL rfl ?_
  refine NW.then ?_
  refine CW.seq ?_
  refine CW.seq ?_
  refine CW.region fun L hL => ?_
  refine LW.rd hL rfl (Wants.free rfl) rfl (Rd.assign (v := .int .i64 2) rfl) ?_
  refine LW.nil hL rfl ?_
  refine NW.then ?_
  refine CW.block ?_
  obtain ⟨I1, m1, hI1, h⟩ := h
  refine CW.loop (S := Int) (fun s1 => [(2, .pointer (some (⟨b2, 0, none⟩ : Addr))), (3, .func (.func 104) #[] #[]), (5, .pointer (some (⟨b3, 0, none⟩ : Addr))), (6, .int .i64 s1)]) I1 m1 2 (by exact ⟨rfl, rfl, rfl, rfl, trivial⟩) hI1 (fun s1 w5 hI1 => ?_)
  replace h := h s1 w5 hI1
  refine CW.seq ?_
  refine CW.seq ?_
  refine CW.region fun L hL => ?_
  refine LW.rd hL rfl (Wants.free rfl) rfl (Rd.move (v := .int .i64 s1) rfl) ?_
  refine LW.rd hL rfl (Wants.free rfl) rfl (Rd.bin (v := .bool (decide (s1 ≤ 9))) rfl rfl (fun w => by kernel_rfl)) ?_
  refine LW.nil hL rfl ?_
  refine NW.then ?_
  refine CW.cond rfl (fun hb1 => ?_) (fun hb1 => ?_)
  · replace h := h.1 hb1
    refine CW.skip ?_
    refine NW.then ?_
    refine CW.seq ?_
    refine CW.block ?_
    refine CW.region fun L hL => ?_
    refine LW.rd hL rfl (Wants.free rfl) rfl (Rd.move (v := .int .i64 s1) rfl) ?_
    refine LW.rd hL rfl (Wants.free rfl) rfl (Rd.move (v := .func (.func 104) #[] #[]) rfl) ?_
    obtain ⟨hi1, hi2, h⟩ := h
    refine LW.rd hL rfl (Wants.free rfl) rfl (Rd.iaA (sz := 1) rfl rfl Tryz.underlying174 (by kernel_rfl) hi1 hi2) ?_
    obtain ⟨⟨o_w6, ho2⟩, hf2, h⟩ := h
    obtain ⟨w6, hw_w6⟩ : ∃ w6, w6 = World.setCell w5 ((⟨b3, 0, none⟩ : Addr).add (Int.toNat s1 * 1)) (.func (.func 104) #[] #[]) := ⟨_, rfl⟩
    replace h := h w6 hw_w6
    refine LW.eff hL rfl (Wants.free rfl) rfl (stE hw_w6 (Ef.st rfl rfl rfl (by kernel_rfl) ho2 hf2)) ?_
    refine LW.nil hL rfl ?_
    refine NW.block ?_
    refine NW.then ?_
    refine CW.region fun L hL => ?_
    refine LW.rd hL rfl (Wants.free rfl) rfl (Rd.move (v := .int .i64 s1) rfl) ?_
    refine LW.rd hL rfl (Wants.free rfl) rfl (Rd.bin (v := .int .i64 (IntKind.wrap .i64 (s1 + 1))) rfl rfl (fun w => by kernel_rfl)) ?_
    refine LW.rd hL rfl (Wants.free rfl) rfl (Rd.assign (v := .int .i64 (IntKind.wrap .i64 (s1 + 1))) rfl) ?_
    refine LW.nil hL rfl ?_
    exact NW.loop (S := Int) (Ek := fun s1 => [(2, .pointer (some (⟨b2, 0, none⟩ : Addr))), (3, .func (.func 104) #[] #[]), (5, .pointer (some (⟨b3, 0, none⟩ : Addr))), (6, .int .i64 s1)]) (IntKind.wrap .i64 (s1 + 1)) (by exact ⟨rfl, rfl, rfl, rfl, trivial⟩) h
  · replace h := h.2 hb1
    refine CW.exit ?_
    refine XW.then ?_
    refine XW.then ?_
    refine XW.hit ?_
    refine NW.then ?_
    refine CW.seq ?_
    refine CW.region fun L hL => ?_
    obtain ⟨t1, t2, t3, t4, t5, t6, t7, t8, t9, t10, t11, t12, t13, t14, t15, t16, t17, t18, hc1, h⟩ := h
    refine LW.rd hL rfl (Wants.free rfl) rfl (Rd.ldN (cs := [t1, t2, t3, t4, t5, t6, t7, t8, t9, t10, t11, t12, t13, t14, t15, t16, t17, t18]) rfl (by kernel_rfl) (by kernel_rfl) (cellsS hc1)) ?_
    obtain ⟨hv1, hv2, hv3, hv4, hv5, hv6, hv7, hv8, hv9, hv10, hv11, hv12, hv13, hv14, hv15, hv16, hv17, hv18, ho3, hf3, h⟩ := h
    obtain ⟨w7, hw_w7⟩ : ∃ w7, w7 = setCells w5 (⟨b2, 0, none⟩ : Addr) 0 [t1, t2, t3, t4, t5, t6, t7, t8, t9, t10, t11, t12, t13, t14, t15, t16, t17, t18] := ⟨_, rfl⟩
    replace h := h w7 hw_w7
    refine LW.eff hL rfl (Wants.free rfl) rfl (stNE hw_w7 (Ef.stN (cs := [t1, t2, t3, t4, t5, t6, t7, t8, t9, t10, t11, t12, t13, t14, t15, t16, t17, t18]) rfl rfl (by kernel_rfl) (List.forall_mem_cons.2 ⟨hv1, (List.forall_mem_cons.2 ⟨hv2, (List.forall_mem_cons.2 ⟨hv3, (List.forall_mem_cons.2 ⟨hv4, (List.forall_mem_cons.2 ⟨hv5, (List.forall_mem_cons.2 ⟨hv6, (List.forall_mem_cons.2 ⟨hv7, (List.forall_mem_cons.2 ⟨hv8, (List.forall_mem_cons.2 ⟨hv9, (List.forall_mem_cons.2 ⟨hv10, (List.forall_mem_cons.2 ⟨hv11, (List.forall_mem_cons.2 ⟨hv12, (List.forall_mem_cons.2 ⟨hv13, (List.forall_mem_cons.2 ⟨hv14, (List.forall_mem_cons.2 ⟨hv15, (List.forall_mem_cons.2 ⟨hv16, (List.forall_mem_cons.2 ⟨hv17, (List.forall_mem_cons.2 ⟨hv18, (List.forall_mem_nil _)⟩)⟩)⟩)⟩)⟩)⟩)⟩)⟩)⟩)⟩)⟩)⟩)⟩)⟩)⟩)⟩)⟩)⟩) ho3 hf3)) ?_
    refine LW.nil hL rfl ?_
    refine NW.then ?_
    refine CW.ret ?_
    obtain ⟨r19, r20, r21, r22, r23, r24, r25, r26, r27, r28, r29, r30, r31, r32, r33, r34, r35, r36, hr1, h⟩ := h
    exact resN (vs := [.agg #[r19, r20, r21, r22, r23, r24, r25, r26, r27, r28, r29, r30, r31, r32, r33, r34, r35, r36]]) (ResOK.c rfl (lvN (cs := [r19, r20, r21, r22, r23, r24, r25, r26, r27, r28, r29, r30, r31, r32, r33, r34, r35, r36]) (by kernel_rfl) (by kernel_rfl) (cellsAt_get hr1)) ResOK.nil) rfl ⟨r19, r20, r21, r22, r23, r24, r25, r26, r27, r28, r29, r30, r31, r32, r33, r34, r35, r36, rfl, h⟩

/- (*pomander/labels.Table).Keep -/
def V_labels_Table_Keep (t1 : Option Addr) (set1 : Int) (w : World) (R : Int → Int → World → Prop) : Prop :=
  Calls Tryz.prog 77 #[.pointer t1] w fun e w1 => ∃ (r3 : Bool), e = .returned (.bool r3) ∧ ((r3 = true → R 0 1 w1) ∧ (r3 = false → ((decide (set1 ≥ 65536)) = true → R 0 2 w1) ∧ ((decide (set1 ≥ 65536)) = false → ∃ a1 : Addr, t1 = some a1 ∧ (∃ (t2 : Option Nat), w1.cell? (a1.add 2) = some (.map t2) ∧ (∃ (v1 : Int) (ok1 : Bool), (Instr.lookup 147 (.map t2) (.int .u32 set1) true).run Tryz.prog w1 = .ok (.tuple #[.int .i64 v1, .bool ok1]) w1 ∧ ((ok1 = true → R v1 0 w1) ∧ (ok1 = false → ∀ w2 : World, w2 = World.drew w1 → ∃ a2 : Addr, t1 = some a2 ∧ (∃ (t3 : Option Addr) (t3n : Nat) (t3c : Nat), w2.cell? (a2.add 1) = some (.slice t3 t3n t3c) ∧ (∃ a3 : Addr, t1 = some a3 ∧ (∃ (t4 : Int), w2.cell? a3 = some (.int .i64 t4) ∧ (((decide ((t3n : Int) ≥ t4)) = true → R 0 120 w2) ∧ ((decide ((t3n : Int) ≥ t4)) = false → ∀ w3 : World, w3 = World.drew w2 → ∃ a4 : Addr, t1 = some a4 ∧ (∃ (t5 : Option Nat), w3.cell? (a4.add 2) = some (.map t5) ∧ (∃ a5 : Addr, t1 = some a5 ∧ (∃ (t6 : Option Addr) (t6n : Nat) (t6c : Nat), w3.cell? (a5.add 1) = some (.slice t6 t6n t6c) ∧ (∃ w4 : World, (Instr.mapUpdate 147 (.map t5) (.int .u32 set1) (.int .i64 (t6n : Int))).run Tryz.prog w3 = .ok () w4 ∧ (∃ a6 : Addr, t1 = some a6 ∧ (∃ (t7 : Option Addr) (t7n : Nat) (t7c : Nat), w4.cell? (a6.add 1) = some (.slice t7 t7n t7c) ∧ (∀ b1 : Nat, b1 = World.size w4 → ∀ w5 : World, w5 = World.alloc w4 (.cells #[.int .u32 set1] 22) → (∃ (l1 : Option Addr) (l1n : Nat) (l1c : Nat) (w6 : World), (Builtin.append_ #[38, 38] 38 #[.slice t7 t7n t7c, .slice (some (⟨b1, 0, none⟩ : Addr)) 1 1]).run Tryz.prog w5 = .ok (.slice l1 l1n l1c) w6 ∧ (∃ a7 : Addr, t1 = some a7 ∧ ((∃ o : Value, w6.cell? (a7.add 1) = some o) ∧ w6.frozen? (a7.add 1) = false ∧ ∀ w7 : World, w7 = World.setCell w6 (a7.add 1) (.slice l1 l1n l1c) → (∃ a8 : Addr, t1 = some a8 ∧ (∃ (t8 : Option Nat), w7.cell? (a8.add 2) = some (.map t8) ∧ (∃ (v2 : Int), (Instr.lookup 147 (.map t8) (.int .u32 set1) false).run Tryz.prog w7 = .ok (.int .i64 v2) w7 ∧ (R v2 0 w7))))))))))))))))))))))))))
set_option maxRecDepth 100000 in
theorem ok_labels_Table_Keep (t1 : Option Addr) (set1 : Int) (w : World) (R : Int → Int → World → Prop) (h : V_labels_Table_Keep t1 set1 w R) : Calls Tryz.prog 90 #[.pointer t1, .int .u32 set1] w (fun e w' => ∃ (r1 : Int) (r2 : Int), e = .returned (.tuple #[.int .i64 r1, .int .i64 r2]) ∧ R r1 r2 w') := by
  unfold V_labels_Table_Keep at h
  refine enter (N := 59) Tryz.func90 rfl rfl ?_
  refine CW.seq ?_
  refine CW.region fun L hL => ?_
  refine LW.rd hL rfl (Wants.free rfl) rfl (Rd.assign (v := .int .i64 0) rfl) ?_
  refine LW.rd hL rfl (Wants.free rfl) rfl (Rd.assign (v := .int .i64 0) rfl) ?_
  refine LW.nil hL rfl ?_
  refine NW.then ?_
  refine CW.seq ?_
  refine CW.seq ?_
  refine CW.region fun L hL => ?_
  refine LW.rd hL rfl (Wants.free rfl) rfl (Rd.move (v := .pointer t1) rfl) ?_
  refine LW.call hL rfl (Wants.free rfl) rfl (Cl.fn (f := 77) rfl Tryz.func77 (by kernel_rfl) rfl) h (fun e w1 h_ => ?_)
  clear h
  obtain ⟨r3, rfl, h⟩ := h_
  refine ⟨_, rfl, ?_⟩
  refine LW.nil hL rfl ?_
  refine NW.then ?_
  refine CW.cond rfl (fun hb1 => ?_) (fun hb1 => ?_)
  · replace h := h.1 hb1
    refine CW.seq ?_
    refine CW.region fun L hL => ?_
    refine LW.rd hL rfl (Wants.free rfl) rfl (Rd.assign (v := .int .i64 0) rfl) ?_
    refine LW.rd hL rfl (Wants.free rfl) rfl (Rd.assign (v := .int .i64 1) rfl) ?_
    refine LW.nil hL rfl ?_
    refine NW.then ?_
    refine CW.ret ?_
    refine RW.then ?_
    exact res2 rfl rfl rfl ⟨0, 1, rfl, h⟩
  · replace h := h.2 hb1
    refine CW.skip ?_
    refine NW.then ?_
    refine CW.seq ?_
    refine CW.seq ?_
    refine CW.region fun L hL => ?_
    refine LW.rd hL rfl (Wants.free rfl) rfl (Rd.move (v := .int .u32 set1) rfl) ?_
    refine LW.rd hL rfl (Wants.free rfl) rfl (Rd.bin (v := .bool (decide (set1 ≥ 65536))) rfl rfl (fun w => by kernel_rfl)) ?_
    refine LW.nil hL rfl ?_
    refine NW.then ?_
    refine CW.cond rfl (fun hb2 => ?_) (fun hb2 => ?_)
    · replace h := h.1 hb2
      refine CW.seq ?_
      refine CW.region fun L hL => ?_
      refine LW.rd hL rfl (Wants.free rfl) rfl (Rd.assign (v := .int .i64 0) rfl) ?_
      refine LW.rd hL rfl (Wants.free rfl) rfl (Rd.assign (v := .int .i64 2) rfl) ?_
      refine LW.nil hL rfl ?_
      refine NW.then ?_
      refine CW.ret ?_
      refine RW.then ?_
      exact res2 rfl rfl rfl ⟨0, 2, rfl, h⟩
    · replace h := h.2 hb2
      refine CW.skip ?_
      refine NW.then ?_
      refine CW.seq ?_
      refine CW.region fun L hL => ?_
      refine LW.rd hL rfl (Wants.free rfl) rfl (Rd.move (v := .pointer t1) rfl) ?_
      obtain ⟨a1, ha1, h⟩ := h
      refine LW.rd hL rfl (Wants.free rfl) rfl (Rd.nil (q := a1) (by rw [← ha1]; rfl)) ?_
      refine LW.rd hL rfl (Wants.free rfl) rfl (Rd.fa (v := .pointer (some (a1.add 2))) rfl (fun _ => by kernel_rfl)) ?_
      obtain ⟨t2, hc1, h⟩ := h
      refine LW.rd hL rfl (Wants.free rfl) rfl (Rd.ld (v := .map t2) rfl (by kernel_rfl) (eqs hc1)) ?_
      refine LW.rd hL rfl (Wants.free rfl) rfl (Rd.move (v := .int .u32 set1) rfl) ?_
      obtain ⟨v1, ok1, hl1, h⟩ := h
      refine LW.rd hL rfl (Wants.free rfl) rfl (Rd.lookup (v := .tuple #[.int .i64 v1, .bool ok1]) rfl rfl (fun _ e => e ▸ hl1)) ?_
      refine LW.rd hL rfl (Wants.free rfl) rfl (Rd.move (v := .tuple #[.int .i64 v1, .bool ok1]) rfl) ?_
      refine LW.rd hL rfl (Wants.free rfl) rfl (Rd.extract (v := .int .i64 v1) rfl rfl) ?_
      refine LW.rd hL rfl (Wants.free rfl) rfl (Rd.extract (v := .bool ok1) rfl rfl) ?_
      refine LW.rd hL rfl (Wants.free rfl) rfl (Rd.assign (v := .int .i64 v1) rfl) ?_
      refine LW.rd hL rfl (Wants.free rfl) rfl (Rd.assign (v := .bool ok1) rfl) ?_
      refine LW.nil hL rfl ?_
      refine NW.then ?_
      refine CW.seq ?_
      refine CW.seq ?_
      refine CW.region fun L hL => ?_
      refine LW.rd hL rfl (Wants.free rfl) rfl (Rd.move (v := .bool ok1) rfl) ?_
      refine LW.nil hL rfl ?_
      refine NW.then ?_
      refine CW.cond rfl (fun hb3 => ?_) (fun hb3 => ?_)
      · replace h := h.1 hb3
        refine CW.seq ?_
        refine CW.region fun L hL => ?_
        refine LW.rd hL rfl (Wants.free rfl) rfl (Rd.move (v := .int .i64 v1) rfl) ?_
        refine LW.rd hL rfl (Wants.free rfl) rfl (Rd.assign (v := .int .i64 v1) rfl) ?_
        refine LW.rd hL rfl (Wants.free rfl) rfl (Rd.assign (v := .int .i64 0) rfl) ?_
        refine LW.nil hL rfl ?_
        refine NW.then ?_
        refine CW.ret ?_
        refine RW.then ?_
        exact res2 rfl rfl rfl ⟨v1, 0, rfl, h⟩
      · replace h := h.2 hb3
        refine CW.skip ?_
        refine NW.then ?_
        refine CW.seq ?_
        refine CW.seq ?_
        replace h := h _ rfl
        refine CW.drawn (fun w => w = World.drew w1) 10 (by kernel_rfl) fun H hH => ?_
        generalize World.drew w1 = w2 at h hH ⊢
        refine HW.pure (i := 0) hH rfl (by kernel_rfl) (Wants.free rfl) rfl (fun _ => rfl) (Rd.move (v := .pointer t1) rfl) ?_
        obtain ⟨a2, ha2, h⟩ := h
        refine HW.pure (i := 1) hH rfl (by kernel_rfl) (Wants.free rfl) rfl (fun _ => rfl) (Rd.nil (q := a2) (by rw [← ha2]; rfl)) ?_
        refine HW.pure (i := 2) hH rfl (by kernel_rfl) (Wants.free rfl) rfl (fun _ => rfl) (Rd.fa (v := .pointer (some (a2.add 1))) rfl (fun _ => by kernel_rfl)) ?_
        obtain ⟨t3, t3n, t3c, hc2, h⟩ := h
        refine HW.take (i := 3) hH rfl (by kernel_rfl) (by kernel_rfl) (Wants.free rfl) rfl (fun _ => rfl) (Rd.ld (v := .slice t3 t3n t3c) rfl (by kernel_rfl) (eqs hc2)) ?_
        refine HW.pure (i := 4) hH rfl (by kernel_rfl) (Wants.free rfl) rfl (fun _ => rfl) (Rd.builtin (v := .int .i64 (t3n : Int)) rfl (fun _ _ => by kernel_rfl)) ?_
        refine HW.pure (i := 5) hH rfl (by kernel_rfl) (Wants.free rfl) rfl (fun _ => rfl) (Rd.move (v := .pointer t1) rfl) ?_
        obtain ⟨a3, ha3, h⟩ := h
        refine HW.pure (i := 6) hH rfl (by kernel_rfl) (Wants.free rfl) rfl (fun _ => rfl) (Rd.nil (q := a3) (by rw [← ha3]; rfl)) ?_
        refine HW.pure (i := 7) hH rfl (by kernel_rfl) (Wants.free rfl) rfl (fun _ => rfl) (Rd.fa (v := .pointer (some a3)) rfl (fun _ => by kernel_rfl)) ?_
        obtain ⟨t4, hc3, h⟩ := h
        refine HW.take (i := 8) hH rfl (by kernel_rfl) (by kernel_rfl) (Wants.free rfl) rfl (fun _ => rfl) (Rd.ld (v := .int .i64 t4) rfl (by kernel_rfl) (eqs hc3)) ?_
        refine HW.pure (i := 9) hH rfl (by kernel_rfl) (Wants.free rfl) rfl (fun _ => rfl) (Rd.bin (v := .bool (decide ((t3n : Int) ≥ t4))) rfl rfl (fun w => by kernel_rfl)) ?_
        refine HW.done hH (by kernel_rfl) ?_
        refine NW.then ?_
        refine CW.cond rfl (fun hb4 => ?_) (fun hb4 => ?_)
        · replace h := h.1 hb4
          refine CW.seq ?_
          refine CW.region fun L hL => ?_
          refine LW.rd hL rfl (Wants.free rfl) rfl (Rd.assign (v := .int .i64 0) rfl) ?_
          refine LW.rd hL rfl (Wants.free rfl) rfl (Rd.assign (v := .int .i64 120) rfl) ?_
          refine LW.nil hL rfl ?_
          refine NW.then ?_
          refine CW.ret ?_
          refine RW.then ?_
          exact res2 rfl rfl rfl ⟨0, 120, rfl, h⟩
        · replace h := h.2 hb4
          refine CW.skip ?_
          refine NW.then ?_
          refine CW.seq ?_
          replace h := h _ rfl
          refine CW.drawn (fun w => w = World.drew w2) 10 (by kernel_rfl) fun H hH => ?_
          generalize World.drew w2 = w3 at h hH ⊢
          refine HW.pure (i := 0) hH rfl (by kernel_rfl) (Wants.free rfl) rfl (fun _ => rfl) (Rd.move (v := .pointer t1) rfl) ?_
          obtain ⟨a4, ha4, h⟩ := h
          refine HW.pure (i := 1) hH rfl (by kernel_rfl) (Wants.free rfl) rfl (fun _ => rfl) (Rd.nil (q := a4) (by rw [← ha4]; rfl)) ?_
          refine HW.pure (i := 2) hH rfl (by kernel_rfl) (Wants.free rfl) rfl (fun _ => rfl) (Rd.fa (v := .pointer (some (a4.add 2))) rfl (fun _ => by kernel_rfl)) ?_
          obtain ⟨t5, hc4, h⟩ := h
          refine HW.take (i := 3) hH rfl (by kernel_rfl) (by kernel_rfl) (Wants.free rfl) rfl (fun _ => rfl) (Rd.ld (v := .map t5) rfl (by kernel_rfl) (eqs hc4)) ?_
          refine HW.pure (i := 4) hH rfl (by kernel_rfl) (Wants.free rfl) rfl (fun _ => rfl) (Rd.move (v := .int .u32 set1) rfl) ?_
          refine HW.pure (i := 5) hH rfl (by kernel_rfl) (Wants.free rfl) rfl (fun _ => rfl) (Rd.move (v := .pointer t1) rfl) ?_
          obtain ⟨a5, ha5, h⟩ := h
          refine HW.pure (i := 6) hH rfl (by kernel_rfl) (Wants.free rfl) rfl (fun _ => rfl) (Rd.nil (q := a5) (by rw [← ha5]; rfl)) ?_
          refine HW.pure (i := 7) hH rfl (by kernel_rfl) (Wants.free rfl) rfl (fun _ => rfl) (Rd.fa (v := .pointer (some (a5.add 1))) rfl (fun _ => by kernel_rfl)) ?_
          obtain ⟨t6, t6n, t6c, hc5, h⟩ := h
          refine HW.take (i := 8) hH rfl (by kernel_rfl) (by kernel_rfl) (Wants.free rfl) rfl (fun _ => rfl) (Rd.ld (v := .slice t6 t6n t6c) rfl (by kernel_rfl) (eqs hc5)) ?_
          refine HW.pure (i := 9) hH rfl (by kernel_rfl) (Wants.free rfl) rfl (fun _ => rfl) (Rd.builtin (v := .int .i64 (t6n : Int)) rfl (fun _ _ => by kernel_rfl)) ?_
          obtain ⟨w4, hm1, h⟩ := h
          refine HW.eff (i := 10) hH (by kernel_rfl) rfl (Wants.free rfl) rfl (Ef.mapUpdate rfl rfl rfl hm1) (fun hc => by cases hc) ?_
          refine HW.done hH (by kernel_rfl) ?_
          refine NW.then ?_
          refine CW.seq ?_
          refine CW.region fun L hL => ?_
          refine LW.rd hL rfl (Wants.free rfl) rfl (Rd.move (v := .pointer t1) rfl) ?_
          refine LW.rd hL rfl (Wants.free rfl) rfl (Rd.move (v := .pointer t1) rfl) ?_
          obtain ⟨a6, ha6, h⟩ := h
          refine LW.rd hL rfl (Wants.free rfl) rfl (Rd.nil (q := a6) (by rw [← ha6]; rfl)) ?_
          refine LW.rd hL rfl (Wants.free rfl) rfl (Rd.fa (v := .pointer (some (a6.add 1))) rfl (fun _ => by kernel_rfl)) ?_
          obtain ⟨t7, t7n, t7c, hc6, h⟩ := h
          refine LW.rd hL rfl (Wants.free rfl) rfl (Rd.ld (v := .slice t7 t7n t7c) rfl (by kernel_rfl) (eqs hc6)) ?_
          refine LW.rd hL rfl (Wants.free rfl) rfl (Rd.move (v := .int .u32 set1) rfl) ?_
          obtain ⟨b1, hb_b1⟩ : ∃ b1, b1 = World.size w4 := ⟨_, rfl⟩
          obtain ⟨w5, hw_w5⟩ : ∃ w5, w5 = World.alloc w4 (.cells #[.int .u32 set1] 22) := ⟨_, rfl⟩
          replace h := h b1 hb_b1 w5 hw_w5
          refine LW.val hL rfl (Wants.free rfl) rfl (sliceE (n := 1) hb_b1 hw_w5 (fun w => Vl.buildSlice (vs := [(0, .int .u32 set1)]) rfl (by kernel_rfl))) ?_
          obtain ⟨l1, l1n, l1c, w6, ha7, h⟩ := h
          refine LW.val hL rfl (Wants.free rfl) rfl (Vl.builtin (v := .slice l1 l1n l1c) rfl (valB ha7)) ?_
          obtain ⟨a7, ha8, h⟩ := h
          refine LW.rd hL rfl (Wants.free rfl) rfl (Rd.nil (q := a7) (by rw [← ha8]; rfl)) ?_
          refine LW.rd hL rfl (Wants.free rfl) rfl (Rd.fa (v := .pointer (some (a7.add 1))) rfl (fun _ => by kernel_rfl)) ?_
          obtain ⟨⟨o_w7, ho1⟩, hf1, h⟩ := h
          obtain ⟨w7, hw_w7⟩ : ∃ w7, w7 = World.setCell w6 (a7.add 1) (.slice l1 l1n l1c) := ⟨_, rfl⟩
          replace h := h w7 hw_w7
          refine LW.eff hL rfl (Wants.free rfl) rfl (stE hw_w7 (Ef.st rfl rfl rfl (by kernel_rfl) ho1 hf1)) ?_
          refine LW.nil hL rfl ?_
          refine NW.then ?_
          refine CW.seq ?_
          refine CW.region fun L hL => ?_
          refine LW.rd hL rfl (Wants.free rfl) rfl (Rd.move (v := .pointer t1) rfl) ?_
          obtain ⟨a8, ha9, h⟩ := h
          refine LW.rd hL rfl (Wants.free rfl) rfl (Rd.nil (q := a8) (by rw [← ha9]; rfl)) ?_
          refine LW.rd hL rfl (Wants.free rfl) rfl (Rd.fa (v := .pointer (some (a8.add 2))) rfl (fun _ => by kernel_rfl)) ?_
          obtain ⟨t8, hc7, h⟩ := h
          refine LW.rd hL rfl (Wants.free rfl) rfl (Rd.ld (v := .map t8) rfl (by kernel_rfl) (eqs hc7)) ?_
          refine LW.rd hL rfl (Wants.free rfl) rfl (Rd.move (v := .int .u32 set1) rfl) ?_
          obtain ⟨v2, hl2, h⟩ := h
          refine LW.rd hL rfl (Wants.free rfl) rfl (Rd.lookup (v := .int .i64 v2) rfl rfl (fun _ e => e ▸ hl2)) ?_
          refine LW.rd hL rfl (Wants.free rfl) rfl (Rd.assign (v := .int .i64 v2) rfl) ?_
          refine LW.rd hL rfl (Wants.free rfl) rfl (Rd.assign (v := .int .i64 0) rfl) ?_
          refine LW.nil hL rfl ?_
          refine NW.then ?_
          refine CW.ret ?_
          exact res2 rfl rfl rfl ⟨v2, 0, rfl, h⟩

/- (*pomander/labels.Table).none -/
def V_labels_Table_none (t1 : Option Addr) (w : World) (R : Bool → World → Prop) : Prop :=
  ∃ J1 : Bool → World → Prop, (∀ (b1 : Bool) (w1 : World), J1 b1 w1 → R b1 w1) ∧ (((Option.isNone t1) = false → ∃ a1 : Addr, t1 = some a1 ∧ (∃ (t2 : Option Addr) (t2n : Nat) (t2c : Nat), w.cell? (a1.add 1) = some (.slice t2 t2n t2c) ∧ (J1 ((t2n : Int) == 0) w))) ∧ ((Option.isNone t1) = true → J1 true w))
set_option maxRecDepth 100000 in
theorem ok_labels_Table_none (t1 : Option Addr) (w : World) (R : Bool → World → Prop) (h : V_labels_Table_none t1 w R) : Calls Tryz.prog 77 #[.pointer t1] w (fun e w' => ∃ (r1 : Bool), e = .returned (.bool r1) ∧ R r1 w') := by
  unfold V_labels_Table_none at h
  refine enter (N := 13) Tryz.func77 rfl rfl ?_
  refine CW.seq ?_
  refine CW.region fun L hL => ?_
  refine LW.rd hL rfl (Wants.free rfl) rfl (Rd.assign (v := .bool false) rfl) ?_
  refine LW.nil hL rfl ?_
  refine NW.then ?_
  refine CW.seq ?_
  refine CW.region fun L hL => ?_
  refine LW.rd hL rfl (Wants.free rfl) rfl (Rd.move (v := .pointer t1) rfl) ?_
  refine LW.rd hL rfl (Wants.free rfl) rfl (Rd.bin (v := .bool (Option.isNone t1)) rfl rfl (fun w => ptr_nil_eq (by kernel_rfl) t1 w)) ?_
  refine LW.rd hL rfl (Wants.free rfl) rfl (Rd.move (v := .bool (Option.isNone t1)) rfl) ?_
  obtain ⟨J1, hJ1, h1_J1, h0_J1⟩ := h
  suffices K1 : ∀ (b1 : Bool) (w1 : World), J1 b1 w1 → L 10 [(2, .bool false), (12, .bool b1)] w1 by
    rcases Bool.eq_false_or_eq_true (Option.isNone t1) with hb1 | hb1
    · have h := h0_J1 hb1
      refine LW.skip hL rfl (Skips.on rfl rfl rfl rfl rfl hb1) rfl ?_
      refine LW.skip hL rfl (Skips.on rfl rfl rfl rfl rfl hb1) rfl ?_
      refine LW.skip hL rfl (Skips.on rfl rfl rfl rfl rfl hb1) rfl ?_
      refine LW.skip hL rfl (Skips.on rfl rfl rfl rfl rfl hb1) rfl ?_
      refine LW.skip hL rfl (Skips.on rfl rfl rfl rfl rfl hb1) rfl ?_
      refine LW.skip hL rfl (Skips.on rfl rfl rfl rfl rfl hb1) rfl ?_
      refine LW.rd hL rfl (Wants.free rfl) rfl (Rd.pickT rfl hb1 rfl) ?_
      exact LW.sub hL (by exact ⟨rfl, rfl, trivial⟩) (K1 true w h)
    · have h := h1_J1 hb1
      refine LW.rd hL rfl (Wants.on rfl rfl rfl rfl rfl hb1) rfl (Rd.move (v := .pointer t1) rfl) ?_
      obtain ⟨a1, ha1, h⟩ := h
      refine LW.rd hL rfl (Wants.on rfl rfl rfl rfl rfl hb1) rfl (Rd.nil (q := a1) (by rw [← ha1]; rfl)) ?_
      refine LW.rd hL rfl (Wants.on rfl rfl rfl rfl rfl hb1) rfl (Rd.fa (v := .pointer (some (a1.add 1))) rfl (fun _ => by kernel_rfl)) ?_
      obtain ⟨t2, t2n, t2c, hc1, h⟩ := h
      refine LW.rd hL rfl (Wants.on rfl rfl rfl rfl rfl hb1) rfl (Rd.ld (v := .slice t2 t2n t2c) rfl (by kernel_rfl) (eqs hc1)) ?_
      refine LW.rd hL rfl (Wants.on rfl rfl rfl rfl rfl hb1) rfl (Rd.builtin (v := .int .i64 (t2n : Int)) rfl (fun _ _ => by kernel_rfl)) ?_
      refine LW.rd hL rfl (Wants.on rfl rfl rfl rfl rfl hb1) rfl (Rd.bin (v := .bool ((t2n : Int) == 0)) rfl rfl (fun w => by kernel_rfl)) ?_
      refine LW.rd hL rfl (Wants.free rfl) rfl (Rd.pickF rfl hb1 rfl) ?_
      exact LW.sub hL (by exact ⟨rfl, rfl, trivial⟩) (K1 ((t2n : Int) == 0) w h)
  intro b1 w1 h_
  have h := hJ1 b1 w1 h_; clear h_
  refine LW.rd hL rfl (Wants.free rfl) rfl (Rd.assign (v := .bool b1) rfl) ?_
  refine LW.nil hL rfl ?_
  refine NW.then ?_
  refine CW.ret ?_
  exact res1 rfl rfl ⟨b1, rfl, h⟩

/- (*pomander/flow.Flow).bounds$1 -/
def V_flow_Flow_bounds_1  (w : World) (R : Int → World → Prop) : Prop :=
  R 1 w
set_option maxRecDepth 100000 in
theorem ok_flow_Flow_bounds_1  (w : World) (R : Int → World → Prop) (h : V_flow_Flow_bounds_1  w R) : Calls Tryz.prog 104 #[] w (fun e w' => ∃ (r1 : Int), e = .returned (.int .i64 r1) ∧ R r1 w') := by
  unfold V_flow_Flow_bounds_1 at h
  refine enter (N := 1) Tryz.func104 rfl rfl ?_
  refine CW.seq ?_
  refine CW.region fun L hL => ?_
  refine LW.rd hL rfl (Wants.free rfl) rfl (Rd.assign (v := .int .i64 0) rfl) ?_
  refine LW.nil hL rfl ?_
  refine NW.then ?_
  refine CW.seq ?_
  refine CW.region fun L hL => ?_
  refine LW.rd hL rfl (Wants.free rfl) rfl (Rd.assign (v := .int .i64 1) rfl) ?_
  refine LW.nil hL rfl ?_
  refine NW.then ?_
  refine CW.ret ?_
  exact res1 rfl rfl ⟨1, rfl, h⟩

/- (*pomander/flow.Flow).bounds$2 -/
def V_flow_Flow_bounds_2  (w : World) (R : Int → World → Prop) : Prop :=
  R 2147483648 w
set_option maxRecDepth 100000 in
theorem ok_flow_Flow_bounds_2  (w : World) (R : Int → World → Prop) (h : V_flow_Flow_bounds_2  w R) : Calls Tryz.prog 105 #[] w (fun e w' => ∃ (r1 : Int), e = .returned (.int .i64 r1) ∧ R r1 w') := by
  unfold V_flow_Flow_bounds_2 at h
  refine enter (N := 1) Tryz.func105 rfl rfl ?_
  refine CW.seq ?_
  refine CW.region fun L hL => ?_
  refine LW.rd hL rfl (Wants.free rfl) rfl (Rd.assign (v := .int .i64 0) rfl) ?_
  refine LW.nil hL rfl ?_
  refine NW.then ?_
  refine CW.seq ?_
  refine CW.region fun L hL => ?_
  refine LW.rd hL rfl (Wants.free rfl) rfl (Rd.assign (v := .int .i64 2147483648) rfl) ?_
  refine LW.nil hL rfl ?_
  refine NW.then ?_
  refine CW.ret ?_
  exact res1 rfl rfl ⟨2147483648, rfl, h⟩

/- (*pomander/flow.Flow).bounds$3 -/
def V_flow_Flow_bounds_3  (w : World) (R : Int → World → Prop) : Prop :=
  R 8 w
set_option maxRecDepth 100000 in
theorem ok_flow_Flow_bounds_3  (w : World) (R : Int → World → Prop) (h : V_flow_Flow_bounds_3  w R) : Calls Tryz.prog 106 #[] w (fun e w' => ∃ (r1 : Int), e = .returned (.int .i64 r1) ∧ R r1 w') := by
  unfold V_flow_Flow_bounds_3 at h
  refine enter (N := 1) Tryz.func106 rfl rfl ?_
  refine CW.seq ?_
  refine CW.region fun L hL => ?_
  refine LW.rd hL rfl (Wants.free rfl) rfl (Rd.assign (v := .int .i64 0) rfl) ?_
  refine LW.nil hL rfl ?_
  refine NW.then ?_
  refine CW.seq ?_
  refine CW.region fun L hL => ?_
  refine LW.rd hL rfl (Wants.free rfl) rfl (Rd.assign (v := .int .i64 8) rfl) ?_
  refine LW.nil hL rfl ?_
  refine NW.then ?_
  refine CW.ret ?_
  exact res1 rfl rfl ⟨8, rfl, h⟩

/- (*pomander/flow.Flow).bounds$4 -/
def V_flow_Flow_bounds_4  (w : World) (R : Int → World → Prop) : Prop :=
  R 4 w
set_option maxRecDepth 100000 in
theorem ok_flow_Flow_bounds_4  (w : World) (R : Int → World → Prop) (h : V_flow_Flow_bounds_4  w R) : Calls Tryz.prog 107 #[] w (fun e w' => ∃ (r1 : Int), e = .returned (.int .i64 r1) ∧ R r1 w') := by
  unfold V_flow_Flow_bounds_4 at h
  refine enter (N := 1) Tryz.func107 rfl rfl ?_
  refine CW.seq ?_
  refine CW.region fun L hL => ?_
  refine LW.rd hL rfl (Wants.free rfl) rfl (Rd.assign (v := .int .i64 0) rfl) ?_
  refine LW.nil hL rfl ?_
  refine NW.then ?_
  refine CW.seq ?_
  refine CW.region fun L hL => ?_
  refine LW.rd hL rfl (Wants.free rfl) rfl (Rd.assign (v := .int .i64 4) rfl) ?_
  refine LW.nil hL rfl ?_
  refine NW.then ?_
  refine CW.ret ?_
  exact res1 rfl rfl ⟨4, rfl, h⟩

/- (*pomander/flow.Flow).bounds$5 -/
def V_flow_Flow_bounds_5  (w : World) (R : Int → World → Prop) : Prop :=
  R 2 w
set_option maxRecDepth 100000 in
theorem ok_flow_Flow_bounds_5  (w : World) (R : Int → World → Prop) (h : V_flow_Flow_bounds_5  w R) : Calls Tryz.prog 108 #[] w (fun e w' => ∃ (r1 : Int), e = .returned (.int .i64 r1) ∧ R r1 w') := by
  unfold V_flow_Flow_bounds_5 at h
  refine enter (N := 1) Tryz.func108 rfl rfl ?_
  refine CW.seq ?_
  refine CW.region fun L hL => ?_
  refine LW.rd hL rfl (Wants.free rfl) rfl (Rd.assign (v := .int .i64 0) rfl) ?_
  refine LW.nil hL rfl ?_
  refine NW.then ?_
  refine CW.seq ?_
  refine CW.region fun L hL => ?_
  refine LW.rd hL rfl (Wants.free rfl) rfl (Rd.assign (v := .int .i64 2) rfl) ?_
  refine LW.nil hL rfl ?_
  refine NW.then ?_
  refine CW.ret ?_
  exact res1 rfl rfl ⟨2, rfl, h⟩

/- (*pomander/flow.Flow).bounds$6 -/
def V_flow_Flow_bounds_6 (cap1 : Addr) (w : World) (R : Int → World → Prop) : Prop :=
  ∃ (t1 : Option Addr), w.cell? cap1 = some (.pointer t1) ∧ (∃ a1 : Addr, t1 = some a1 ∧ (∃ (t2 : Int), w.cell? a1 = some (.int .i64 t2) ∧ (R (IntKind.wrap .i64 (t2 * 64)) w)))
set_option maxRecDepth 100000 in
theorem ok_flow_Flow_bounds_6 (cap1 : Addr) (w : World) (R : Int → World → Prop) (h : V_flow_Flow_bounds_6 cap1 w R) : Calls Tryz.prog 109 #[.pointer (some cap1)] w (fun e w' => ∃ (r1 : Int), e = .returned (.int .i64 r1) ∧ R r1 w') := by
  unfold V_flow_Flow_bounds_6 at h
  refine enter (N := 8) Tryz.func109 rfl rfl ?_
  refine CW.seq ?_
  refine CW.region fun L hL => ?_
  refine LW.rd hL rfl (Wants.free rfl) rfl (Rd.assign (v := .int .i64 0) rfl) ?_
  refine LW.nil hL rfl ?_
  refine NW.then ?_
  refine CW.seq ?_
  refine CW.region fun L hL => ?_
  obtain ⟨t1, hc1, h⟩ := h
  refine LW.rd hL rfl (Wants.free rfl) rfl (Rd.ld (v := .pointer t1) rfl (by kernel_rfl) (eqs hc1)) ?_
  obtain ⟨a1, ha1, h⟩ := h
  refine LW.rd hL rfl (Wants.free rfl) rfl (Rd.nil (q := a1) (by rw [← ha1]; rfl)) ?_
  refine LW.rd hL rfl (Wants.free rfl) rfl (Rd.fa (v := .pointer (some a1)) rfl (fun _ => by kernel_rfl)) ?_
  refine LW.rd hL rfl (Wants.free rfl) rfl (Rd.fa (v := .pointer (some a1)) rfl (fun _ => by kernel_rfl)) ?_
  obtain ⟨t2, hc2, h⟩ := h
  refine LW.rd hL rfl (Wants.free rfl) rfl (Rd.ld (v := .int .i64 t2) rfl (by kernel_rfl) (eqs hc2)) ?_
  refine LW.rd hL rfl (Wants.free rfl) rfl (Rd.bin (v := .int .i64 (IntKind.wrap .i64 (t2 * 64))) rfl rfl (fun w => by kernel_rfl)) ?_
  refine LW.rd hL rfl (Wants.free rfl) rfl (Rd.assign (v := .int .i64 (IntKind.wrap .i64 (t2 * 64))) rfl) ?_
  refine LW.nil hL rfl ?_
  refine NW.then ?_
  refine CW.ret ?_
  exact res1 rfl rfl ⟨IntKind.wrap .i64 (t2 * 64), rfl, h⟩

/- (*pomander/flow.Flow).bounds$7 -/
def V_flow_Flow_bounds_7 (cap1 : Addr) (w : World) (R : Int → World → Prop) : Prop :=
  ∃ (t1 : Option Addr), w.cell? cap1 = some (.pointer t1) ∧ (∃ a1 : Addr, t1 = some a1 ∧ (∃ (t2 : Int), w.cell? (a1.add 1) = some (.int .i64 t2) ∧ (R (IntKind.wrap .i64 (t2 * 64)) w)))
set_option maxRecDepth 100000 in
theorem ok_flow_Flow_bounds_7 (cap1 : Addr) (w : World) (R : Int → World → Prop) (h : V_flow_Flow_bounds_7 cap1 w R) : Calls Tryz.prog 110 #[.pointer (some cap1)] w (fun e w' => ∃ (r1 : Int), e = .returned (.int .i64 r1) ∧ R r1 w') := by
  unfold V_flow_Flow_bounds_7 at h
  refine enter (N := 8) Tryz.func110 rfl rfl ?_
  refine CW.seq ?_
  refine CW.region fun L hL => ?_
  refine LW.rd hL rfl (Wants.free rfl) rfl (Rd.assign (v := .int .i64 0) rfl) ?_
  refine LW.nil hL rfl ?_
  refine NW.then ?_
  refine CW.seq ?_
  refine CW.region fun L hL => ?_
  obtain ⟨t1, hc1, h⟩ := h
  refine LW.rd hL rfl (Wants.free rfl) rfl (Rd.ld (v := .pointer t1) rfl (by kernel_rfl) (eqs hc1)) ?_
  obtain ⟨a1, ha1, h⟩ := h
  refine LW.rd hL rfl (Wants.free rfl) rfl (Rd.nil (q := a1) (by rw [← ha1]; rfl)) ?_
  refine LW.rd hL rfl (Wants.free rfl) rfl (Rd.fa (v := .pointer (some a1)) rfl (fun _ => by kernel_rfl)) ?_
  refine LW.rd hL rfl (Wants.free rfl) rfl (Rd.fa (v := .pointer (some (a1.add 1))) rfl (fun _ => by kernel_rfl)) ?_
  obtain ⟨t2, hc2, h⟩ := h
  refine LW.rd hL rfl (Wants.free rfl) rfl (Rd.ld (v := .int .i64 t2) rfl (by kernel_rfl) (eqs hc2)) ?_
  refine LW.rd hL rfl (Wants.free rfl) rfl (Rd.bin (v := .int .i64 (IntKind.wrap .i64 (t2 * 64))) rfl rfl (fun w => by kernel_rfl)) ?_
  refine LW.rd hL rfl (Wants.free rfl) rfl (Rd.assign (v := .int .i64 (IntKind.wrap .i64 (t2 * 64))) rfl) ?_
  refine LW.nil hL rfl ?_
  refine NW.then ?_
  refine CW.ret ?_
  exact res1 rfl rfl ⟨IntKind.wrap .i64 (t2 * 64), rfl, h⟩

end Go.Proofs.YtfcfkhbkkfpehaaGreat
end

/- XTable -/
section
/- The table of sets (labels): what stands there, New, none, Keep. -/
set_option linter.unusedVariables false
set_option linter.unusedSimpArgs false
namespace Go.Proofs.YtfcfkhbkkfpehaaGreat
open Go Go.RowKit Go.X

def numbered (sets : List Int) : List (Int × Int) := sets.zipIdx.map fun x => (x.1, (x.2 : Int))

/-- What a table is. -/
structure TableAt (w : World) (b : Nat) (most : Int) (sets : List Int) (fp : List Nat) : Prop where
  there : ∃ p c r j clk, w.heap[b]? = some (.cells #[.int .i64 most, .slice p sets.length c, .map (some r), .map (some j)] 150 (0, 0)) ∧ RowAt w 22 1 p sets.length c (sets.map (.int .u32)) ∧
    MapIs w r (fun n : Int => .int .u32 n) (fun n : Int => .int .i64 n) (numbered sets) ∧ w.heap[j]? = some (.map #[] clk) ∧ fp = b :: r :: j :: rowB p
  nodup : fp.Nodup
  some : sets ≠ []
  few : (sets.length : Int) ≤ most
  most1 : 1 ≤ most
  most2 : most ≤ 65536
  each : ∀ s ∈ sets, 0 ≤ s ∧ s < 65536
  distinct : sets.Nodup

theorem TableAt.lt {w : World} {b : Nat} {most : Int} {sets : List Int} {fp : List Nat} (h : TableAt w b most sets fp) : ∀ i ∈ fp, i < w.heap.size := by
  obtain ⟨p, c, r, j, clk, h1, h2, h3, h4, rfl⟩ := h.there
  intro i hi
  simp only [List.mem_cons] at hi
  rcases hi with rfl | rfl | rfl | hi
  · exact lt_of_heap h1
  · exact h3.lt
  · exact lt_of_heap h4
  · exact h2.lt i hi

theorem TableAt.chg {w w' : World} {b : Nat} {most : Int} {sets : List Int} {fp f : List Nat} (h : TableAt w b most sets fp) (hc : Chg f w w') (hf : ∀ i ∈ fp, i ∉ f) : TableAt w' b most sets fp := by
  obtain ⟨p, c, r, j, clk, h1, h2, h3, h4, rfl⟩ := h.there
  simp only [List.mem_cons, forall_eq_or_imp] at hf
  obtain ⟨f1, f2, f3, f4⟩ := hf
  exact { h with there := ⟨p, c, r, j, clk, hc.obj f1 h1, h2.chg hc f4, h3.chg hc f2, hc.obj f3 h4, rfl⟩ }

def keepE (most : Int) (sets : List Int) (set : Int) : Int := if 65536 ≤ set then 2 else if set ∈ sets then 0 else if most ≤ sets.length then 120 else 0
def keepS (most : Int) (sets : List Int) (set : Int) : List Int := if 65536 ≤ set ∨ set ∈ sets ∨ most ≤ sets.length then sets else sets ++ [set]

theorem look_numbered (sets : List Int) (set : Int) : (lookK set (numbered sets)).isSome = decide (set ∈ sets) := by
  unfold numbered
  have : ∀ (l : List Int) (k : Nat), (lookK set ((l.zipIdx k).map fun x => (x.1, (x.2 : Int)))).isSome = decide (set ∈ l) := by
    intro l
    induction l with
    | nil => intro k; simp [lookK_nil]
    | cons a l ih =>
      intro k
      simp only [List.zipIdx_cons, List.map_cons, lookK_cons]
      by_cases h : a = set
      · simp [h]
      · simp [h, ih, Ne.symm h]
  exact this sets 0
theorem numbered_snoc (sets : List Int) (set : Int) : numbered (sets ++ [set]) = numbered sets ++ [(set, (sets.length : Int))] := by
  unfold numbered
  rw [List.zipIdx_append]
  simp

theorem table_none {w : World} {b : Nat} {most : Int} {sets : List Int} {fp : List Nat} (h : TableAt w b most sets fp) :
    Calls Tryz.prog 77 #[.pointer (some ⟨b, 0, none⟩)] w fun e w' => ∃ r : Bool, e = .returned (.bool r) ∧ (r = false ∧ w' = w) := by
  obtain ⟨p, c, r, j, clk, h1, h2, h3, h4, rfl⟩ := h.there
  refine ok_labels_Table_none _ _ _ ?_
  unfold V_labels_Table_none
  refine ⟨_, fun s w h => h, fun _ => ⟨_, rfl, p, _, c, by rw [add_at, cell_of h1]; rfl, ?_, rfl⟩, fun h => by simp at h⟩
  have := h.some
  simp [this]

theorem table_keep {w : World} {b : Nat} {most : Int} {sets : List Int} {fp : List Nat} (h : TableAt w b most sets fp) {set : Int} (h0 : 0 ≤ set) :
    Calls Tryz.prog 90 #[.pointer (some ⟨b, 0, none⟩), .int .u32 set] w fun e w' => ∃ (r1 : Int) (r2 : Int), e = .returned (.tuple #[.int .i64 r1, .int .i64 r2]) ∧
      (r2 = keepE most sets set ∧ ∃ fp', TableAt w' b most (keepS most sets set) fp' ∧ Chg fp w w' ∧ ∀ i ∈ fp', i ∈ fp ∨ w.heap.size ≤ i) := by
  refine ok_labels_Table_Keep _ _ _ _ ?_
  unfold V_labels_Table_Keep
  refine (table_none h).mono ?_
  rintro _ w1 ⟨_, rfl, rfl, rfl⟩
  refine ⟨_, rfl, fun h => by simp at h, fun _ => ⟨fun hs => ?_, fun hs => ?_⟩⟩
  · simp at hs
    exact ⟨by simp [keepE, hs], fp, by simpa [keepS, hs] using h, Chg.refl _ _, fun i hi => .inl hi⟩
  simp at hs
  have hs' : ¬ 65536 ≤ set := by omega
  obtain ⟨p, c, r, j, clk, h1, h2, h3, h4, rfl⟩ := h.there
  have hlook := h3.lookup (P := Tryz.prog) u198 keyU32 zero3 set true
  simp only [if_true] at hlook
  have hsome := look_numbered sets set
  have hnd := h.nodup
  simp only [List.nodup_cons, List.mem_cons, not_or] at hnd
  obtain ⟨⟨n1, n2, n3⟩, ⟨n4, n5⟩, n6, n7⟩ := hnd
  by_cases hin : set ∈ sets
  · simp only [hin, decide_true] at hsome
    obtain ⟨v, hv⟩ := Option.isSome_iff_exists.1 hsome
    rw [hv] at hlook
    refine ⟨_, rfl, some r, by rw [add_at, cell_of h1]; rfl, v, true, hlook, fun _ => ?_, fun h => by simp at h⟩
    exact ⟨by simp [keepE, hs', hin], _, by simpa [keepS, hin] using h, Chg.refl _ _, fun i hi => .inl hi⟩
  have hnone : lookK set (numbered sets) = none := by simpa [hin] using hsome
  rw [hnone] at hlook
  refine ⟨_, rfl, some r, by rw [add_at, cell_of h1]; rfl, 0, false, hlook, fun h => by simp at h, fun _ => v_drew fun w2 c2 => ?_⟩
  have h1' := c2.obj (by simp) h1
  refine ⟨_, rfl, p, sets.length, c, by rw [add_at, cell_of h1']; rfl, _, rfl, most, by rw [cell_of h1']; rfl, fun hl => ?_, fun hl => ?_⟩
  · simp only [decide_eq_true_eq] at hl
    have hl' : most ≤ sets.length := by omega
    exact ⟨by simp [keepE, hs', hin, hl'], _, by simpa [keepS, hl'] using h.chg c2 (by simp), c2.nil, fun i hi => .inl hi⟩
  simp only [decide_eq_false_iff_not] at hl
  have hl' : ¬ most ≤ sets.length := by omega
  refine v_drew fun w3 c3 => ?_
  have c03 := c2.trans0 c3
  have h1'' := c03.obj (by simp) h1
  obtain ⟨w4, hu, c4, hsz, h3'⟩ := (h3.chg c03 (by simp)).update (P := Tryz.prog) (T := 147) u198 keyU32 set (sets.length : Int)
  have c04 : Chg [r] w1 w4 := c03.nil.trans c4 (fun i hi _ => hi)
  have h14 := c04.obj (f := [r]) (by simpa using n1) h1
  refine ⟨_, rfl, some r, by rw [add_at, cell_of h1'']; rfl, _, rfl, p, sets.length, c, by rw [add_at, cell_of h1'']; rfl, w4, hu, _, rfl, p, sets.length, c, by rw [add_at, cell_of h14]; rfl, ?_⟩
  refine v_alloc fun b1 w5 eb1 h5 c5 => ?_
  have c05 : Chg [r] w1 w5 := c04.trans c5.nil (fun i hi _ => hi)
  have hrow5 := h2.chg c05 (fun i hi hm => by simp at hm; subst hm; exact n5 hi)
  have hmost := h.most2
  have hfew := h.few
  obtain ⟨p', c', w6, happ, hrow6, c6, hfresh⟩ := hrow5.append (P := Tryz.prog) (t := 38) (ty := 38) (i := _) (z := .int .u32 0) (bytes := 4) (by kernel_rfl) (show Tryz.prog.info? 22 = some Tryz.t22 by kernel_rfl) (by kernel_rfl) (by kernel_rfl) (by kernel_rfl) rfl (by omega)
    (a := ⟨b1, 0, none⟩) (m := 1) (mc := 1) (news := [.int .u32 set]) rfl (fun i u hi => by
      cases i with
      | zero => simp at hi; subst hi; rw [add_at, cell_of h5]; rfl
      | succ i => simp at hi) (by simp [Value.oneCell']) (by simp only [maxLen]; omega) (by omega)
  refine ⟨p', _, c', w6, happ, _, rfl, ?_⟩
  have c06 : Chg (r :: rowB p) w1 w6 := (c05.mono (by simp)).trans c6 (fun i hi _ => by simp [hi])
  have h16 := c06.obj (f := r :: rowB p) (by simp; exact ⟨n1, n3⟩) h1
  refine v_set h16 (by simp) fun w7 h17 c7 _ => ?_
  have hb1 : w1.heap.size ≤ b1 := by rw [eb1]; exact c04.size
  have hrfresh : r ∉ rowB p' := fun hm => by
    rcases hfresh _ hm with h | h
    · exact n5 h
    · exact absurd (h3.lt) (by have := c05.size; omega)
  have hbfresh : b ∉ rowB p' := fun hm => by
    rcases hfresh _ hm with h | h
    · exact n3 h
    · exact absurd (lt_of_heap h1) (by have := c05.size; omega)
  have hjfresh : j ∉ rowB p' := fun hm => by
    rcases hfresh _ hm with h | h
    · exact n6 h
    · exact absurd (lt_of_heap h4) (by have := c05.size; omega)
  have hup : upd set (sets.length : Int) (numbered sets) = numbered (sets ++ [set]) := by simp [upd, hnone, numbered_snoc]
  have h37 := ((h3'.chg c5 (by simp)).chg c6 n5).chg c7 (by simpa using Ne.symm n1)
  rw [hup] at h37
  have hlook7 := h37.lookup (P := Tryz.prog) (T := 147) u198 keyU32 zero3 set false
  have hl7 : lookK set (numbered (sets ++ [set])) = some (sets.length : Int) := by
    rw [← hup, lookK_upd]; simp
  rw [hl7] at hlook7
  refine ⟨_, rfl, some r, by rw [add_at, cell_of h17]; rfl, _, hlook7, ?_⟩
  refine ⟨by simp [keepE, hs', hin, hl'], b :: r :: j :: rowB p', ?_, ?_, ?_⟩
  · have hS : keepS most sets set = sets ++ [set] := by simp [keepS, hs', hin, hl']
    rw [hS]
    refine ⟨⟨p', c', r, j, clk, ?_, ?_, h37, ?_, rfl⟩, ?_, by simp, by simp; omega, h.most1, h.most2, ?_, ?_⟩
    · rw [h17]; simp
    · have := hrow6.chg c7 (fun i hi hm => by simp at hm; subst hm; exact hbfresh hi)
      simpa using this
    · exact c7.obj (by simpa using Ne.symm n2) (c06.obj (by simp; exact ⟨Ne.symm n4, n6⟩) h4)
    · simp only [List.nodup_cons, List.mem_cons, not_or]
      exact ⟨⟨n1, n2, hbfresh⟩, ⟨n4, hrfresh⟩, hjfresh, rowB_nodup _⟩
    · intro s hs
      simp at hs
      rcases hs with hs | rfl
      · exact h.each s hs
      · omega
    · rw [List.nodup_append]
      exact ⟨h.distinct, by simp, by simp; exact fun a ha e => hin (e ▸ ha)⟩
  · exact (c06.mono (fun i hi _ => by simp at hi ⊢; rcases hi with h | h <;> simp [h])).trans c7 (by simp)
  · intro i hi
    simp only [List.mem_cons] at hi ⊢
    rcases hi with h | h | h | h
    · simp [h]
    · simp [h]
    · simp [h]
    · rcases hfresh i h with h | h
      · simp [h]
      · right; have := c05.size; omega
theorem table_new (w : World) (most : Int) :
    Calls Tryz.prog 57 #[.int .i64 most] w fun e w' => ∃ (r1 : Option Addr) (r2 : Int), e = .returned (.tuple #[.pointer r1, .int .i64 r2]) ∧
      (Chg [] w w' ∧ if 1 ≤ most ∧ most ≤ 65536 then r2 = 0 ∧ ∃ b fp, r1 = some ⟨b, 0, none⟩ ∧ TableAt w' b most [0] fp ∧ ∀ i ∈ fp, w.heap.size ≤ i else r1 = none ∧ r2 = 2) := by
  refine ok_labels_New _ _ _ ?_
  unfold V_labels_New
  refine ⟨fun h => ?_, fun h => ?_⟩
  · simp at h
    exact ⟨Chg.refl _ _, by rw [if_neg (by omega)]; simp⟩
  simp at h
  refine v_alloc fun b1 w1 e1 h1 c1 => ?_
  refine v_alloc fun b2 w2 e2 h2 c2 => ?_
  have hm0 : MapIs w2 b2 (fun n : Int => .int .u32 n) (fun n : Int => .int .i64 n) [] := ⟨#[], 0, h2, rfl, by simp, by simp, by simp⟩
  obtain ⟨w3, hu, c3, hs3, hm3⟩ := hm0.update (P := Tryz.prog) (T := 147) u198 keyU32 (0 : Int) (0 : Int)
  refine ⟨w3, hu, ?_⟩
  refine v_alloc fun b3 w4 e3 h4 c4 => ?_
  refine v_alloc fun b4 w5 e4 h5 c5 => ?_
  have l1 : b1 < w1.heap.size := lt_of_heap h1
  have l2 : b2 < w2.heap.size := lt_of_heap h2
  have l4 : b3 < w4.heap.size := lt_of_heap h4
  have s1 := c1.size
  have s2 := c2.size
  have s3 := c3.size
  have s4 := c4.size
  have c02 : Chg [] w w2 := c1.trans0 c2
  have c03 : Chg [] w w3 := c02.trans c3 (fun i hi hlt => by simp at hi; omega)
  have c05 : Chg [] w w5 := (c03.trans0 c4).trans0 c5
  refine ⟨c05, ?_⟩
  rw [if_pos (by omega)]
  refine ⟨rfl, b4, [b4, b2, b3, b1], rfl, ⟨⟨_, 1, b2, b3, 0, h5, ?_, ?_, c5.obj (by simp) h4, by simp [rowB]⟩, ?_, by simp, by simp; omega, by omega, by omega, by simp, by simp⟩, ?_⟩
  · have h15 : w5.heap[b1]? = some (.cells #[.int .u32 0] 22 (0, 0)) := (((c3.trans (c4.nil (f := [b2])) (by simp)).trans (c5.nil (f := [b2])) (by simp))).obj (by simp; omega) (c2.obj (by simp) h1)
    exact RowAt.of_heap (cs := [.int .u32 0]) h15 rfl (by simp [maxLen])
  · exact (hm3.chg c4 (by simp)).chg c5 (by simp)
  · simp; omega
  · intro i hi; simp at hi; omega
end Go.Proofs.YtfcfkhbkkfpehaaGreat
end

/- XFlow1 -/
section
/- Flows: what stands there; bounds, may, get, put. -/
set_option linter.unusedVariables false
set_option linter.unusedSimpArgs false
namespace Go.Proofs.YtfcfkhbkkfpehaaGreat
open Go Go.RowKit Go.X

structure Fl where
  fr : Int
  se : Int
  most : Int
  sets : List Int
  g : Int × Int → Int

def boundP (fr se k : Int) : Int := if k = 1 then 8 else if k = 10 then 64 * fr else if k = 11 then 4 else if k = 12 then 64 * se else if k = 17 then 2 else if 13 ≤ k ∧ k ≤ 16 then 2147483648 else 1
def mayP (fr se : Int) (p : Int × Int) : Prop := 1 ≤ p.1 ∧ p.1 ≤ 17 ∧ 0 ≤ p.2 ∧ p.2 < boundP fr se p.1
instance (fr se : Int) (p : Int × Int) : Decidable (mayP fr se p) := by unfold mayP; exact inferInstance

/-- What a flow is. -/
structure FlowAt (w : World) (b : Nat) (F : Fl) (fp : List Nat) : Prop where
  there : ∃ (T m d r : Nat) (l : List ((Int × Int) × Int)) (fpT fpm fpd : List Nat) (gm gd : Int → Int),
    w.heap[b]? = some (.cells #[.int .i64 F.fr, .int .i64 F.se, .pointer (some ⟨T, 0, none⟩), .pointer (some ⟨m, 0, none⟩), .pointer (some ⟨d, 0, none⟩), .map (some r)] 101 (0, 0)) ∧
    TableAt w T F.most F.sets fpT ∧ ShadowAt w m F.fr gm fpm ∧ ShadowAt w d F.se gd fpd ∧ MapIs w r encP (fun n : Int => .int .u32 n) l ∧ (∀ n, F.g (10, n) = gm n) ∧ (∀ n, F.g (12, n) = gd n) ∧
    (∀ p : Int × Int, p.1 ≠ 10 → p.1 ≠ 12 → F.g p = (lookK p l).getD 0) ∧ (∀ x ∈ l, x.1.1 ≠ 10 ∧ x.1.1 ≠ 12 ∧ mayP F.fr F.se x.1 ∧ 0 < x.2 ∧ x.2 < 65536) ∧ fp = b :: r :: (fpT ++ (fpm ++ fpd))
  nodup : fp.Nodup

theorem FlowAt.lt {w : World} {b : Nat} {F : Fl} {fp : List Nat} (h : FlowAt w b F fp) : ∀ i ∈ fp, i < w.heap.size := by
  obtain ⟨T, m, d, r, l, fpT, fpm, fpd, gm, gd, h1, h2, h3, h4, h5, h6, h7, h8, h9, rfl⟩ := h.there
  intro i hi
  simp only [List.mem_cons, List.mem_append] at hi
  rcases hi with rfl | rfl | hi | hi | hi
  · exact lt_of_heap h1
  · exact h5.lt
  · exact h2.lt i hi
  · exact h3.lt i hi
  · exact h4.lt i hi
theorem FlowAt.chg {w w' : World} {b : Nat} {F : Fl} {fp f : List Nat} (h : FlowAt w b F fp) (hc : Chg f w w') (hf : ∀ i ∈ fp, i ∉ f) : FlowAt w' b F fp := by
  obtain ⟨T, m, d, r, l, fpT, fpm, fpd, gm, gd, h1, h2, h3, h4, h5, h6, h7, h8, h9, rfl⟩ := h.there
  simp only [List.mem_cons, List.mem_append, forall_eq_or_imp] at hf
  obtain ⟨f1, f2, f3⟩ := hf
  exact { h with there := ⟨T, m, d, r, l, fpT, fpm, fpd, gm, gd, hc.obj f1 h1, h2.chg hc (fun i hi => f3 i (.inl hi)), h3.chg hc (fun i hi => f3 i (.inr (.inl hi))), h4.chg hc (fun i hi => f3 i (.inr (.inr hi))), h5.chg hc f2, h6, h7, h8, h9, rfl⟩ }
theorem FlowAt.head {w : World} {b : Nat} {F : Fl} {fp : List Nat} (h : FlowAt w b F fp) : ∃ T m d r : Nat,
    w.heap[b]? = some (.cells #[.int .i64 F.fr, .int .i64 F.se, .pointer (some ⟨T, 0, none⟩), .pointer (some ⟨m, 0, none⟩), .pointer (some ⟨d, 0, none⟩), .map (some r)] 101 (0, 0)) := by
  obtain ⟨T, m, d, r, l, fpT, fpm, fpd, gm, gd, h1, _⟩ := h.there
  exact ⟨T, m, d, r, h1⟩
theorem FlowAt.wide {w : World} {b : Nat} {F : Fl} {fp : List Nat} (h : FlowAt w b F fp) : 1 ≤ F.fr ∧ F.fr ≤ 32 ∧ 1 ≤ F.se ∧ F.se ≤ 32 := by
  obtain ⟨T, m, d, r, l, fpT, fpm, fpd, gm, gd, h1, h2, h3, h4, _⟩ := h.there
  exact ⟨h3.pages1, h3.pages2, h4.pages1, h4.pages2⟩
theorem FlowAt.each {w : World} {b : Nat} {F : Fl} {fp : List Nat} (h : FlowAt w b F fp) (p : Int × Int) : 0 ≤ F.g p ∧ F.g p < 65536 := by
  obtain ⟨T, m, d, r, l, fpT, fpm, fpd, gm, gd, h1, h2, h3, h4, h5, h6, h7, h8, h9, _⟩ := h.there
  obtain ⟨k, n⟩ := p
  by_cases e1 : k = 10
  · subst e1; rw [h6]; exact h3.each n
  by_cases e2 : k = 12
  · subst e2; rw [h7]; exact h4.each n
  rw [h8 _ e1 e2]
  cases hk : lookK (k, n) l with
  | none => simp
  | some v => have := h9 _ (lookK_mem hk); simp only [Option.getD_some]; simp only [] at this; omega

theorem flow_none {w : World} {b : Nat} {F : Fl} {fp : List Nat} (h : FlowAt w b F fp) :
    Calls Tryz.prog 43 #[.pointer (some ⟨b, 0, none⟩)] w fun e w' => ∃ r : Bool, e = .returned (.bool r) ∧ (r = false ∧ w' = w) := by
  obtain ⟨T, m, d, r, h1⟩ := h.head
  refine ok_flow_Flow_none _ _ _ ?_
  unfold V_flow_Flow_none
  exact ⟨_, fun s w h => h, fun _ => ⟨_, rfl, _, by rw [add_at, cell_of h1]; rfl, rfl, rfl⟩, fun h => by simp at h⟩

def F127 : Value := .func (.func 104) #[] #[]
def baseB (b1 : Nat) : List Value := [.nilFunc, .func (.func 106) #[] #[], .nilFunc, .nilFunc, .nilFunc, .nilFunc, .nilFunc, .nilFunc, .nilFunc, .nilFunc, .func (.func 109) #[] #[.pointer (some (⟨b1, 0, none⟩ : Addr))], .func (.func 107) #[] #[], .func (.func 110) #[] #[.pointer (some (⟨b1, 0, none⟩ : Addr))], .func (.func 105) #[] #[], .func (.func 105) #[] #[], .func (.func 105) #[] #[], .func (.func 105) #[] #[], .func (.func 108) #[] #[]]
def allB (b1 : Nat) : List Value := [.nilFunc, .func (.func 106) #[] #[], F127, F127, F127, F127, F127, F127, F127, F127, .func (.func 109) #[] #[.pointer (some (⟨b1, 0, none⟩ : Addr))], .func (.func 107) #[] #[], .func (.func 110) #[] #[.pointer (some (⟨b1, 0, none⟩ : Addr))], .func (.func 105) #[] #[], .func (.func 105) #[] #[], .func (.func 105) #[] #[], .func (.func 105) #[] #[], .func (.func 108) #[] #[]]
def stepB (b1 : Nat) : Nat → Array Value
  | 0 => (baseB b1).toArray
  | j + 1 => (stepB b1 j).setIfInBounds (2 + j) F127
theorem stepB_size (b1 j : Nat) : (stepB b1 j).size = 18 := by
  induction j with
  | zero => rfl
  | succ j ih => simp [stepB, ih]
theorem stepB_8 (b1 : Nat) : stepB b1 8 = (allB b1).toArray := by simp [stepB, baseB, allB]

theorem flow_bounds (f : Option Addr) (w : World) :
    Calls Tryz.prog 89 #[.pointer f] w fun e w' => ∃ (r2 : Value) (r3 : Value) (r4 : Value) (r5 : Value) (r6 : Value) (r7 : Value) (r8 : Value) (r9 : Value) (r10 : Value) (r11 : Value) (r12 : Value) (r13 : Value) (r14 : Value) (r15 : Value) (r16 : Value) (r17 : Value) (r18 : Value) (r19 : Value),
      e = .returned (.agg #[r2, r3, r4, r5, r6, r7, r8, r9, r10, r11, r12, r13, r14, r15, r16, r17, r18, r19]) ∧ (∃ b1, w'.heap[b1]? = some (.cells #[.pointer f] 35 (0, 0)) ∧ Chg [] w w' ∧ [r2, r3, r4, r5, r6, r7, r8, r9, r10, r11, r12, r13, r14, r15, r16, r17, r18, r19] = allB b1) := by
  refine ok_flow_Flow_bounds _ _ _ ?_
  unfold V_flow_Flow_bounds
  refine v_alloc fun b1 w1 e1 h1 c1 => ?_
  refine v_alloc fun b2 w2 e2 h2 c2 => ?_
  refine v_box (by rfl) (by rfl) fun b3 w3 e3 h3 c3 => ?_
  have l1 : b1 < w1.heap.size := lt_of_heap h1
  have l2 : b2 < w2.heap.size := lt_of_heap h2
  have s1 := c1.size
  have s2 := c2.size
  refine ⟨fun s w => ∃ j : Nat, s = 2 + (j : Int) ∧ j ≤ 8 ∧ w.heap[b3]? = some (.cells (stepB b1 j) 174 (0, 0)) ∧ Chg [b3] w3 w, fun s _ => (10 - s).toNat, ⟨0, rfl, by omega, h3, Chg.refl _ _⟩, ?_⟩
  rintro _ w5 ⟨j, rfl, hj, h5, c5⟩
  refine ⟨fun hlt => ?_, fun hge => ?_⟩
  · simp only [decide_eq_true_eq] at hlt
    refine ⟨by omega, by omega, ?_⟩
    have e : (2 + (j : Int)).toNat * 1 = 2 + j := by omega
    rw [e]
    refine v_set h5 (by rw [stepB_size]; omega) fun w6 h6 c6 _ => ?_
    rw [wr (by omega) (by omega)]
    refine ⟨⟨j + 1, by omega, by omega, ?_, c5.trans c6 (fun _ h _ => h)⟩, by simp only []; omega⟩
    simpa [stepB, F127] using h6
  · simp only [decide_eq_false_iff_not] at hge
    have : j = 8 := by omega
    subst this
    rw [stepB_8] at h5
    refine ⟨_, _, _, _, _, _, _, _, _, _, _, _, _, _, _, _, _, _, cellsAt_of h5, rfl, rfl, rfl, rfl, rfl, rfl, rfl, rfl, rfl, rfl, rfl, rfl, rfl, rfl, rfl, rfl, rfl, rfl, ?_⟩
    have c25 : Chg [b3] w2 w5 := (c3.nil).trans c5 (fun _ h _ => h)
    have h25 := c25.obj (by simp; omega) h2
    refine ⟨has_of h25 (by simp), free_of' h25, ?_⟩
    rintro w7 rfl
    have h7 := setCells_all (vs := allB b1) (by rfl) h25
    refine ⟨_, _, _, _, _, _, _, _, _, _, _, _, _, _, _, _, _, _, cellsAt_of h7, b1, ?_, ?_, rfl⟩
    · have c7 := Chg.setCells ⟨b2, 0, none⟩ (allB b1) 0 w5
      exact c7.obj (by simp; omega) (c25.obj (by simp; omega) (c2.obj (by simp) h1))
    · have c7 := Chg.setCells ⟨b2, 0, none⟩ (allB b1) 0 w5
      have c05 : Chg [] w w5 := (c1.trans0 c2).trans c25 (fun i hi hlt => by simp at hi; omega)
      exact c05.trans c7 (fun i hi hlt => by simp at hi; omega)

theorem index_202 (vs : List Value) (hv : vs.length = 18) (k : Int) (h0 : 0 ≤ k) (h1 : k < 18) (x : Value) (hx : vs[k.toNat]? = some x) (w : World) :
    (Instr.index 174 (.agg vs.toArray) (.int .i64 k)).run Tryz.prog w = .ok x w := by
  unfold Instr.index
  simp [go_sem, h0, h1, part, hx]
theorem flow_may {w : World} {b : Nat} {F : Fl} {fp : List Nat} (h : FlowAt w b F fp) (p1 p2 : Int) :
    Calls Tryz.prog 63 #[.pointer (some ⟨b, 0, none⟩), .agg #[.int .i64 p1, .int .i64 p2]] w fun e w' => ∃ r : Bool, e = .returned (.bool r) ∧ (r = decide (mayP F.fr F.se (p1, p2)) ∧ Chg [] w w') := by
  obtain ⟨T, m, d, r, hh⟩ := h.head
  obtain ⟨g1, g2, g3, g4⟩ := h.wide
  refine ok_flow_Flow_may _ _ _ _ _ ?_
  unfold V_flow_Flow_may
  refine v_alloc fun b1 w1 e1 h1 c1 => ?_
  refine v_drew fun w2 c2 => ?_
  have c02 := c1.trans0 c2
  have h12 := c2.obj (by simp) h1
  refine ⟨p1, by rw [cell_of h12]; rfl, p2, by rw [cell_of h12]; rfl, ?_⟩
  refine ⟨fun b2 w3 => w3 = w2 ∧ b2 = decide (1 ≤ p1 ∧ p1 ≤ 17), ?_, fun h => ?_, fun h => ?_⟩
  rotate_left
  · simp only [decide_eq_true_eq] at h
    exact ⟨rfl, decide_eq_decide.2 (by omega)⟩
  · simp only [decide_eq_false_iff_not] at h
    exact ⟨rfl, by symm; rw [decide_eq_false_iff_not]; omega⟩
  rintro b2 w3 ⟨hw, rfl⟩
  subst w3
  refine ⟨fun b3 w4 => w4 = w2 ∧ b3 = decide (1 ≤ p1 ∧ p1 ≤ 17 ∧ 0 ≤ p2), ?_, fun h => ?_, fun h => ?_⟩
  rotate_left
  · simp only [decide_eq_true_eq] at h
    exact ⟨rfl, decide_eq_decide.2 (by omega)⟩
  · simp only [decide_eq_false_iff_not] at h
    exact ⟨rfl, by symm; rw [decide_eq_false_iff_not]; omega⟩
  rintro b3 w4 ⟨hw, rfl⟩
  subst w4
  refine ⟨fun b4 w5 => b4 = decide (mayP F.fr F.se (p1, p2)) ∧ Chg [] w w5, fun b4 w5 h => h, fun h => ?_, fun h => ?_⟩
  rotate_left
  · simp only [decide_eq_false_iff_not] at h
    refine ⟨?_, c02⟩
    symm; rw [decide_eq_false_iff_not]; unfold mayP; simp only []; omega
  simp only [decide_eq_true_eq] at h
  refine (flow_bounds _ w2).mono ?_
  rintro _ w6 ⟨r2, r3, r4, r5, r6, r7, r8, r9, r10, r11, r12, r13, r14, r15, r16, r17, r18, r19, rfl, bb, hbb, c6, hl⟩
  have h16 := c6.obj (by simp) h12
  have hh6 := (c02.trans0 c6).obj (by simp) hh
  refine ⟨r2, r3, r4, r5, r6, r7, r8, r9, r10, r11, r12, r13, r14, r15, r16, r17, r18, r19, rfl, ⟨by rw [cell_of h16]; rfl, by rw [cell_of h16]; rfl, trivial⟩, ?_⟩
  -- each kind's bound
  have hlast : ∀ (x : Value), (allB bb)[p1.toNat]? = some x →
      (CallsV Tryz.prog x #[] w6 fun e w7 => ∃ r20 : Int, e = .returned (.int .i64 r20) ∧ r20 = boundP F.fr F.se p1 ∧ w7 = w6) →
      (∃ (x1 : Value), (∀ w : World, (Instr.index 174 (.agg #[r2, r3, r4, r5, r6, r7, r8, r9, r10, r11, r12, r13, r14, r15, r16, r17, r18, r19]) (.int .i64 p1)).run Tryz.prog w = .ok (x1) w) ∧ (CallsV Tryz.prog x1 #[] w6 fun e w7 => ∃ (r20 : Int), e = .returned (.int .i64 r20) ∧ ((w7.cell? (⟨b1, 0, none⟩ : Addr) = some (.int .i64 p1) ∧ w7.cell? (⟨b1, 1, none⟩ : Addr) = some (.int .i64 p2) ∧ True) ∧ (decide (p2 < r20) = decide (mayP F.fr F.se (p1, p2)) ∧ Chg [] w w7)))) := by
    intro x hx ⟨f, cap, fn, k1, k2, k3, k4, k5⟩
    refine ⟨x, fun w => index_202 _ rfl p1 (by omega) (by omega) x (by rw [hl]; exact hx) w, f, cap, fn, k1, k2, k3, k4, k5.mono ?_⟩
    rintro e w7 ⟨r20, rfl, rfl, hw⟩
    subst w7
    refine ⟨_, rfl, ⟨by rw [cell_of h16]; rfl, by rw [cell_of h16]; rfl, trivial⟩, ?_, c02.trans0 c6⟩
    apply decide_eq_decide.2
    unfold mayP
    simp only []
    omega
  have hk : p1 = 1 ∨ p1 = 2 ∨ p1 = 3 ∨ p1 = 4 ∨ p1 = 5 ∨ p1 = 6 ∨ p1 = 7 ∨ p1 = 8 ∨ p1 = 9 ∨ p1 = 10 ∨ p1 = 11 ∨ p1 = 12 ∨ p1 = 13 ∨ p1 = 14 ∨ p1 = 15 ∨ p1 = 16 ∨ p1 = 17 := by omega
  have k127 : boundP F.fr F.se p1 = 1 → CallsV Tryz.prog F127 #[] w6 fun e w7 => ∃ r20 : Int, e = .returned (.int .i64 r20) ∧ r20 = boundP F.fr F.se p1 ∧ w7 = w6 := fun hb =>
    ⟨104, #[], Tryz.f104, rfl, Tryz.func104, by kernel_rfl, by kernel_rfl, ok_flow_Flow_bounds_1 w6 (fun r w => r = boundP F.fr F.se p1 ∧ w = w6) ⟨hb.symm, rfl⟩⟩
  have k128 : boundP F.fr F.se p1 = 2147483648 → CallsV Tryz.prog (.func (.func 105) #[] #[]) #[] w6 fun e w7 => ∃ r20 : Int, e = .returned (.int .i64 r20) ∧ r20 = boundP F.fr F.se p1 ∧ w7 = w6 := fun hb =>
    ⟨105, #[], Tryz.f105, rfl, Tryz.func105, by kernel_rfl, by kernel_rfl, ok_flow_Flow_bounds_2 w6 (fun r w => r = boundP F.fr F.se p1 ∧ w = w6) ⟨hb.symm, rfl⟩⟩
  rcases hk with rfl | rfl | rfl | rfl | rfl | rfl | rfl | rfl | rfl | rfl | rfl | rfl | rfl | rfl | rfl | rfl | rfl
  · exact hlast _ (by simp only [allB]; rfl) ⟨106, #[], Tryz.f106, rfl, Tryz.func106, by kernel_rfl, by kernel_rfl, ok_flow_Flow_bounds_3 w6 (fun r w => r = boundP F.fr F.se 1 ∧ w = w6) ⟨by simp [boundP], rfl⟩⟩
  · exact hlast _ (by simp only [allB]; rfl) (k127 (by simp [boundP]))
  · exact hlast _ (by simp only [allB]; rfl) (k127 (by simp [boundP]))
  · exact hlast _ (by simp only [allB]; rfl) (k127 (by simp [boundP]))
  · exact hlast _ (by simp only [allB]; rfl) (k127 (by simp [boundP]))
  · exact hlast _ (by simp only [allB]; rfl) (k127 (by simp [boundP]))
  · exact hlast _ (by simp only [allB]; rfl) (k127 (by simp [boundP]))
  · exact hlast _ (by simp only [allB]; rfl) (k127 (by simp [boundP]))
  · exact hlast _ (by simp only [allB]; rfl) (k127 (by simp [boundP]))
  · refine hlast (.func (.func 109) #[] #[.pointer (some (⟨bb, 0, none⟩ : Addr))]) (by simp only [allB]; rfl) ⟨109, _, Tryz.f109, rfl, Tryz.func109, by kernel_rfl, by kernel_rfl, ok_flow_Flow_bounds_6 _ w6 (fun r w => r = boundP F.fr F.se 10 ∧ w = w6) ?_⟩
    exact ⟨_, by rw [cell_of hbb]; rfl, _, rfl, _, by rw [cell_of hh6]; rfl, by rw [wr (by omega) (by omega)]; simp [boundP]; omega, rfl⟩
  · exact hlast _ (by simp only [allB]; rfl) ⟨107, #[], Tryz.f107, rfl, Tryz.func107, by kernel_rfl, by kernel_rfl, ok_flow_Flow_bounds_4 w6 (fun r w => r = boundP F.fr F.se 11 ∧ w = w6) ⟨by simp [boundP], rfl⟩⟩
  · refine hlast (.func (.func 110) #[] #[.pointer (some (⟨bb, 0, none⟩ : Addr))]) (by simp only [allB]; rfl) ⟨110, _, Tryz.f110, rfl, Tryz.func110, by kernel_rfl, by kernel_rfl, ok_flow_Flow_bounds_7 _ w6 (fun r w => r = boundP F.fr F.se 12 ∧ w = w6) ?_⟩
    exact ⟨_, by rw [cell_of hbb]; rfl, _, rfl, _, by rw [add_at, cell_of hh6]; rfl, by rw [wr (by omega) (by omega)]; simp [boundP]; omega, rfl⟩
  · exact hlast _ (by simp only [allB]; rfl) (k128 (by simp [boundP]))
  · exact hlast _ (by simp only [allB]; rfl) (k128 (by simp [boundP]))
  · exact hlast _ (by simp only [allB]; rfl) (k128 (by simp [boundP]))
  · exact hlast _ (by simp only [allB]; rfl) (k128 (by simp [boundP]))
  · exact hlast _ (by simp only [allB]; rfl) ⟨108, #[], Tryz.f108, rfl, Tryz.func108, by kernel_rfl, by kernel_rfl, ok_flow_Flow_bounds_5 w6 (fun r w => r = boundP F.fr F.se 17 ∧ w = w6) ⟨by simp [boundP], rfl⟩⟩
end Go.Proofs.YtfcfkhbkkfpehaaGreat
end

/- XFt1 -/
section
set_option linter.unusedVariables false
set_option linter.unusedSimpArgs false
namespace Go.Proofs.YtfcfkhbkkfpehaaGreat
open Go.X

/- pomander/flow.New -/
def V_flow_New (form1 : Int) (form2 : Int) (most1 : Int) (w : World) (R : (Option Addr) → Int → World → Prop) : Prop :=
  ∀ b1 : Nat, b1 = World.size w → ∀ w1 : World, w1 = World.alloc w (.cells #[.int .i64 form1, .int .i64 form2] 37) → (Calls Tryz.prog 57 #[.int .i64 most1] w1 fun e w2 => ∃ (r3 : Option Addr) (r4 : Int), e = .returned (.tuple #[.pointer r3, .int .i64 r4]) ∧ (∃ (t1 : Int), w2.cell? (⟨b1, 0, none⟩ : Addr) = some (.int .i64 t1) ∧ (Calls Tryz.prog 58 #[.int .i64 t1] w2 fun e w3 => ∃ (r5 : Option Addr) (r6 : Int), e = .returned (.tuple #[.pointer r5, .int .i64 r6]) ∧ (∃ (t2 : Int), w3.cell? (⟨b1, 1, none⟩ : Addr) = some (.int .i64 t2) ∧ (Calls Tryz.prog 58 #[.int .i64 t2] w3 fun e w4 => ∃ (r7 : Option Addr) (r8 : Int), e = .returned (.tuple #[.pointer r7, .int .i64 r8]) ∧ ((((!(r4 == 0) || !(r6 == 0)) || !(r8 == 0)) = true → R none 2 w4) ∧ (((!(r4 == 0) || !(r6 == 0)) || !(r8 == 0)) = false → ∃ (t3 : Int) (t4 : Int), CellsAt w4 (⟨b1, 0, none⟩ : Addr) 0 [.int .i64 t3, .int .i64 t4] ∧ (∀ b2 : Nat, b2 = World.size w4 → ∀ w5 : World, w5 = World.alloc w4 (.map #[] 0) → (∀ b3 : Nat, b3 = World.size w5 → ∀ w6 : World, w6 = World.alloc w5 (.cells #[.int .i64 t3, .int .i64 t4, .pointer r3, .pointer r5, .pointer r7, .map (some b2)] 101) → (R (some (⟨b3, 0, none⟩ : Addr)) 0 w6))))))))))
set_option maxRecDepth 100000 in
theorem ok_flow_New (form1 : Int) (form2 : Int) (most1 : Int) (w : World) (R : (Option Addr) → Int → World → Prop) (h : V_flow_New form1 form2 most1 w R) : Calls Tryz.prog 26 #[.agg #[.int .i64 form1, .int .i64 form2], .int .i64 most1] w (fun e w' => ∃ (r1 : Option Addr) (r2 : Int), e = .returned (.tuple #[.pointer r1, .int .i64 r2]) ∧ R r1 r2 w') := by
  unfold V_flow_New at h
  refine enter (N := 46) Tryz.func26 rfl rfl ?_
  refine CW.seq ?_
  refine CW.region fun L hL => ?_
  obtain ⟨b1, hb_b1⟩ : ∃ b1, b1 = World.size w := ⟨_, rfl⟩
  obtain ⟨w1, hw_w1⟩ : ∃ w1, w1 = World.alloc w (.cells #[.int .i64 form1, .int .i64 form2] 37) := ⟨_, rfl⟩
  replace h := h b1 hb_b1 w1 hw_w1
  refine LW.val hL rfl (Wants.free rfl) rfl (boxE hb_b1 hw_w1 (Vl.box (v := .agg #[.int .i64 form1, .int .i64 form2]) rfl)) ?_
  refine LW.rd hL rfl (Wants.free rfl) rfl (Rd.assign (v := .pointer none) rfl) ?_
  refine LW.rd hL rfl (Wants.free rfl) rfl (Rd.assign (v := .int .i64 0) rfl) ?_
  refine LW.nil hL rfl ?_
  refine NW.then ?_
  refine CW.seq ?_
  refine CW.region fun L hL => ?_
  refine LW.rd hL rfl (Wants.free rfl) rfl (Rd.move (v := .int .i64 most1) rfl) ?_
  refine LW.call hL rfl (Wants.free rfl) rfl (Cl.fn (f := 57) rfl Tryz.func57 (by kernel_rfl) rfl) h (fun e w2 h_ => ?_)
  clear h
  obtain ⟨r3, r4, rfl, h⟩ := h_
  refine ⟨_, rfl, ?_⟩
  refine LW.rd hL rfl (Wants.free rfl) rfl (Rd.move (v := .tuple #[.pointer r3, .int .i64 r4]) rfl) ?_
  refine LW.rd hL rfl (Wants.free rfl) rfl (Rd.extract (v := .pointer r3) rfl rfl) ?_
  refine LW.rd hL rfl (Wants.free rfl) rfl (Rd.extract (v := .int .i64 r4) rfl rfl) ?_
  refine LW.rd hL rfl (Wants.free rfl) rfl (Rd.assign (v := .pointer r3) rfl) ?_
  refine LW.rd hL rfl (Wants.free rfl) rfl (Rd.assign (v := .int .i64 r4) rfl) ?_
  refine LW.nil hL rfl ?_
  refine NW.then ?_
  refine CW.seq ?_
  refine CW.region fun L hL => ?_
  refine LW.rd hL rfl (Wants.free rfl) rfl (Rd.fa (v := .pointer (some (⟨b1, 0, none⟩ : Addr))) rfl (fun _ => by kernel_rfl)) ?_
  obtain ⟨t1, hc1, h⟩ := h
  refine LW.rd hL rfl (Wants.free rfl) rfl (Rd.ld (v := .int .i64 t1) rfl (by kernel_rfl) (eqs hc1)) ?_
  refine LW.call hL rfl (Wants.free rfl) rfl (Cl.fn (f := 58) rfl Tryz.func58 (by kernel_rfl) rfl) h (fun e w3 h_ => ?_)
  clear h
  obtain ⟨r5, r6, rfl, h⟩ := h_
  refine ⟨_, rfl, ?_⟩
  refine LW.rd hL rfl (Wants.free rfl) rfl (Rd.move (v := .tuple #[.pointer r5, .int .i64 r6]) rfl) ?_
  refine LW.rd hL rfl (Wants.free rfl) rfl (Rd.extract (v := .pointer r5) rfl rfl) ?_
  refine LW.rd hL rfl (Wants.free rfl) rfl (Rd.extract (v := .int .i64 r6) rfl rfl) ?_
  refine LW.rd hL rfl (Wants.free rfl) rfl (Rd.assign (v := .pointer r5) rfl) ?_
  refine LW.rd hL rfl (Wants.free rfl) rfl (Rd.assign (v := .int .i64 r6) rfl) ?_
  refine LW.nil hL rfl ?_
  refine NW.then ?_
  refine CW.seq ?_
  refine CW.region fun L hL => ?_
  refine LW.rd hL rfl (Wants.free rfl) rfl (Rd.fa (v := .pointer (some (⟨b1, 1, none⟩ : Addr))) rfl (fun _ => by kernel_rfl)) ?_
  obtain ⟨t2, hc2, h⟩ := h
  refine LW.rd hL rfl (Wants.free rfl) rfl (Rd.ld (v := .int .i64 t2) rfl (by kernel_rfl) (eqs hc2)) ?_
  refine LW.call hL rfl (Wants.free rfl) rfl (Cl.fn (f := 58) rfl Tryz.func58 (by kernel_rfl) rfl) h (fun e w4 h_ => ?_)
  clear h
  obtain ⟨r7, r8, rfl, h⟩ := h_
  refine ⟨_, rfl, ?_⟩
  refine LW.rd hL rfl (Wants.free rfl) rfl (Rd.move (v := .tuple #[.pointer r7, .int .i64 r8]) rfl) ?_
  refine LW.rd hL rfl (Wants.free rfl) rfl (Rd.extract (v := .pointer r7) rfl rfl) ?_
  refine LW.rd hL rfl (Wants.free rfl) rfl (Rd.extract (v := .int .i64 r8) rfl rfl) ?_
  refine LW.rd hL rfl (Wants.free rfl) rfl (Rd.assign (v := .pointer r7) rfl) ?_
  refine LW.rd hL rfl (Wants.free rfl) rfl (Rd.assign (v := .int .i64 r8) rfl) ?_
  refine LW.nil hL rfl ?_
  refine NW.then ?_
  refine CW.seq ?_
  refine CW.seq ?_
  refine CW.region fun L hL => ?_
  refine LW.rd hL rfl (Wants.free rfl) rfl (Rd.move (v := .int .i64 r4) rfl) ?_
  refine LW.rd hL rfl (Wants.free rfl) rfl (Rd.bin (v := .bool (!(r4 == 0))) rfl rfl (fun w => by kernel_rfl)) ?_
  refine LW.rd hL rfl (Wants.free rfl) rfl (Rd.move (v := .bool (!(r4 == 0))) rfl) ?_
  suffices K1 : L 6 [(2, .pointer (some (⟨b1, 0, none⟩ : Addr))), (4, .pointer none), (5, .int .i64 0), (6, .pointer r3), (8, .pointer r5), (10, .pointer r7), (11, .int .i64 r8), (34, .bool (!(r4 == 0) || !(r6 == 0)))] w4 by
    rcases Bool.eq_false_or_eq_true (!(r4 == 0)) with hb2 | hb2
    · skip
      refine LW.skip hL rfl (Skips.on rfl rfl rfl rfl rfl hb2) rfl ?_
      refine LW.skip hL rfl (Skips.on rfl rfl rfl rfl rfl hb2) rfl ?_
      refine LW.rd hL rfl (Wants.free rfl) rfl (Rd.pickT rfl hb2 rfl) ?_
      exact LW.sub hL (by exact ⟨rfl, rfl, rfl, rfl, rfl, rfl, rfl, (by rw [hb2]; rfl), trivial⟩) K1
    · skip
      refine LW.rd hL rfl (Wants.on rfl rfl rfl rfl rfl hb2) rfl (Rd.move (v := .int .i64 r6) rfl) ?_
      refine LW.rd hL rfl (Wants.on rfl rfl rfl rfl rfl hb2) rfl (Rd.bin (v := .bool (!(r6 == 0))) rfl rfl (fun w => by kernel_rfl)) ?_
      refine LW.rd hL rfl (Wants.free rfl) rfl (Rd.pickF rfl hb2 rfl) ?_
      exact LW.sub hL (by exact ⟨rfl, rfl, rfl, rfl, rfl, rfl, rfl, (by rw [hb2]; rfl), trivial⟩) K1
  refine LW.rd hL rfl (Wants.free rfl) rfl (Rd.move (v := .bool (!(r4 == 0) || !(r6 == 0))) rfl) ?_
  suffices K2 : L 10 [(2, .pointer (some (⟨b1, 0, none⟩ : Addr))), (4, .pointer none), (5, .int .i64 0), (6, .pointer r3), (8, .pointer r5), (10, .pointer r7), (38, .bool ((!(r4 == 0) || !(r6 == 0)) || !(r8 == 0)))] w4 by
    rcases Bool.eq_false_or_eq_true (!(r4 == 0) || !(r6 == 0)) with hb4 | hb4
    · skip
      refine LW.skip hL rfl (Skips.on rfl rfl rfl rfl rfl hb4) rfl ?_
      refine LW.skip hL rfl (Skips.on rfl rfl rfl rfl rfl hb4) rfl ?_
      refine LW.rd hL rfl (Wants.free rfl) rfl (Rd.pickT rfl hb4 rfl) ?_
      exact LW.sub hL (by exact ⟨rfl, rfl, rfl, rfl, rfl, rfl, (by rw [hb4]; rfl), trivial⟩) K2
    · skip
      refine LW.rd hL rfl (Wants.on rfl rfl rfl rfl rfl hb4) rfl (Rd.move (v := .int .i64 r8) rfl) ?_
      refine LW.rd hL rfl (Wants.on rfl rfl rfl rfl rfl hb4) rfl (Rd.bin (v := .bool (!(r8 == 0))) rfl rfl (fun w => by kernel_rfl)) ?_
      refine LW.rd hL rfl (Wants.free rfl) rfl (Rd.pickF rfl hb4 rfl) ?_
      exact LW.sub hL (by exact ⟨rfl, rfl, rfl, rfl, rfl, rfl, (by rw [hb4]; rfl), trivial⟩) K2
  refine LW.nil hL rfl ?_
  refine NW.then ?_
  refine CW.cond rfl (fun hb5 => ?_) (fun hb5 => ?_)
  · replace h := h.1 hb5
    refine CW.seq ?_
    refine CW.region fun L hL => ?_
    refine LW.rd hL rfl (Wants.free rfl) rfl (Rd.assign (v := .pointer none) rfl) ?_
    refine LW.rd hL rfl (Wants.free rfl) rfl (Rd.assign (v := .int .i64 2) rfl) ?_
    refine LW.nil hL rfl ?_
    refine NW.then ?_
    refine CW.ret ?_
    refine RW.then ?_
    exact res2 rfl rfl rfl ⟨none, 2, rfl, h⟩
  · replace h := h.2 hb5
    refine CW.skip ?_
    refine NW.then ?_
    refine CW.seq ?_
    refine CW.region fun L hL => ?_
    obtain ⟨t3, t4, hc3, h⟩ := h
    refine LW.rd hL rfl (Wants.free rfl) rfl (Rd.ldN (cs := [.int .i64 t3, .int .i64 t4]) rfl (by kernel_rfl) (by kernel_rfl) (cellsS hc3)) ?_
    refine LW.rd hL rfl (Wants.free rfl) rfl (Rd.move (v := .pointer r3) rfl) ?_
    refine LW.rd hL rfl (Wants.free rfl) rfl (Rd.move (v := .pointer r5) rfl) ?_
    refine LW.rd hL rfl (Wants.free rfl) rfl (Rd.move (v := .pointer r7) rfl) ?_
    obtain ⟨b2, hb_b2⟩ : ∃ b2, b2 = World.size w4 := ⟨_, rfl⟩
    obtain ⟨w5, hw_w5⟩ : ∃ w5, w5 = World.alloc w4 (.map #[] 0) := ⟨_, rfl⟩
    replace h := h b2 hb_b2 w5 hw_w5
    refine LW.val hL rfl (Wants.free rfl) rfl (mapE hb_b2 hw_w5 Vl.makeMap) ?_
    refine LW.rd hL rfl (Wants.free rfl) rfl (Rd.build (v := .agg #[.int .i64 t3, .int .i64 t4, .pointer r3, .pointer r5, .pointer r7, .map (some b2)]) rfl (fun _ => by kernel_rfl)) ?_
    obtain ⟨b3, hb_b3⟩ : ∃ b3, b3 = World.size w5 := ⟨_, rfl⟩
    obtain ⟨w6, hw_w6⟩ : ∃ w6, w6 = World.alloc w5 (.cells #[.int .i64 t3, .int .i64 t4, .pointer r3, .pointer r5, .pointer r7, .map (some b2)] 101) := ⟨_, rfl⟩
    replace h := h b3 hb_b3 w6 hw_w6
    refine LW.val hL rfl (Wants.free rfl) rfl (boxE hb_b3 hw_w6 (Vl.box (v := .agg #[.int .i64 t3, .int .i64 t4, .pointer r3, .pointer r5, .pointer r7, .map (some b2)]) rfl)) ?_
    refine LW.rd hL rfl (Wants.free rfl) rfl (Rd.assign (v := .pointer (some (⟨b3, 0, none⟩ : Addr))) rfl) ?_
    refine LW.rd hL rfl (Wants.free rfl) rfl (Rd.assign (v := .int .i64 0) rfl) ?_
    refine LW.nil hL rfl ?_
    refine NW.then ?_
    refine CW.ret ?_
    exact res2 rfl rfl rfl ⟨some (⟨b3, 0, none⟩ : Addr), 0, rfl, h⟩

/- (*pomander/flow.Flow).Get -/
def V_flow_Flow_Get (f1 : Option Addr) (p1 : Int) (p2 : Int) (w : World) (R : Int → Int → World → Prop) : Prop :=
  ∀ b1 : Nat, b1 = World.size w → ∀ w1 : World, w1 = World.alloc w (.cells #[.int .i64 p1, .int .i64 p2] 62) → (∃ J1 : Int × Int → World → Prop, (∀ (s1 : Int × Int) (w2 : World), J1 s1 w2 → R 0 s1.2 w2) ∧ (Calls Tryz.prog 43 #[.pointer f1] w1 fun e w3 => ∃ (r3 : Bool), e = .returned (.bool r3) ∧ ((r3 = true → J1 (0, 1) w3) ∧ (r3 = false → ∃ (t1 : Int) (t2 : Int), CellsAt w3 (⟨b1, 0, none⟩ : Addr) 0 [.int .i64 t1, .int .i64 t2] ∧ (Calls Tryz.prog 63 #[.pointer f1, .agg #[.int .i64 t1, .int .i64 t2]] w3 fun e w4 => ∃ (r4 : Bool), e = .returned (.bool r4) ∧ (((!r4) = true → J1 (0, 2) w4) ∧ ((!r4) = false → ∃ (t3 : Int) (t4 : Int), CellsAt w4 (⟨b1, 0, none⟩ : Addr) 0 [.int .i64 t3, .int .i64 t4] ∧ (Calls Tryz.prog 73 #[.pointer f1, .agg #[.int .i64 t3, .int .i64 t4]] w4 fun e w5 => ∃ (r5 : Int), e = .returned (.int .u32 r5) ∧ (R r5 0 w5)))))))))
set_option maxRecDepth 100000 in
theorem ok_flow_Flow_Get (f1 : Option Addr) (p1 : Int) (p2 : Int) (w : World) (R : Int → Int → World → Prop) (h : V_flow_Flow_Get f1 p1 p2 w R) : Calls Tryz.prog 35 #[.pointer f1, .agg #[.int .i64 p1, .int .i64 p2]] w (fun e w' => ∃ (r1 : Int) (r2 : Int), e = .returned (.tuple #[.int .u32 r1, .int .i64 r2]) ∧ R r1 r2 w') := by
  unfold V_flow_Flow_Get at h
  refine enter (N := 16) Tryz.func35 rfl rfl ?_
  refine CW.seq ?_
  refine CW.region fun L hL => ?_
  obtain ⟨b1, hb_b1⟩ : ∃ b1, b1 = World.size w := ⟨_, rfl⟩
  obtain ⟨w1, hw_w1⟩ : ∃ w1, w1 = World.alloc w (.cells #[.int .i64 p1, .int .i64 p2] 62) := ⟨_, rfl⟩
  replace h := h b1 hb_b1 w1 hw_w1
  refine LW.val hL rfl (Wants.free rfl) rfl (boxE hb_b1 hw_w1 (Vl.box (v := .agg #[.int .i64 p1, .int .i64 p2]) rfl)) ?_
  refine LW.rd hL rfl (Wants.free rfl) rfl (Rd.assign (v := .int .u32 0) rfl) ?_
  refine LW.rd hL rfl (Wants.free rfl) rfl (Rd.assign (v := .int .i64 0) rfl) ?_
  refine LW.nil hL rfl ?_
  refine NW.then ?_
  obtain ⟨J1, hJ1, h⟩ := h
  refine CW.scope (S := Int × Int) 0 (fun s1 => [(4, .int .u32 s1.1), (5, .int .i64 s1.2)]) J1 rfl (fun s1 w2 h_ => ?_) ?_
  · replace h := hJ1 s1 w2 h_; clear h_
    refine CW.seq ?_
    refine CW.skip ?_
    refine NW.then ?_
    refine CW.seq ?_
    refine CW.region fun L hL => ?_
    refine LW.rd hL rfl (Wants.free rfl) rfl (Rd.move (v := .int .i64 s1.2) rfl) ?_
    refine LW.rd hL rfl (Wants.free rfl) rfl (Rd.assign (v := .int .u32 0) rfl) ?_
    refine LW.rd hL rfl (Wants.free rfl) rfl (Rd.assign (v := .int .i64 s1.2) rfl) ?_
    refine LW.nil hL rfl ?_
    refine NW.then ?_
    refine CW.ret ?_
    refine RW.jump ?_
    exact res2 rfl rfl rfl ⟨0, s1.2, rfl, h⟩
  · skip
    refine CW.seq ?_
    refine CW.seq ?_
    refine CW.region fun L hL => ?_
    refine LW.rd hL rfl (Wants.free rfl) rfl (Rd.assign (v := .int .i64 1) rfl) ?_
    refine LW.nil hL rfl ?_
    refine NW.then ?_
    refine CW.seq ?_
    refine CW.region fun L hL => ?_
    refine LW.rd hL rfl (Wants.free rfl) rfl (Rd.move (v := .pointer f1) rfl) ?_
    refine LW.call hL rfl (Wants.free rfl) rfl (Cl.fn (f := 43) rfl Tryz.func43 (by kernel_rfl) rfl) h (fun e w3 h_ => ?_)
    clear h
    obtain ⟨r3, rfl, h⟩ := h_
    refine ⟨_, rfl, ?_⟩
    refine LW.nil hL rfl ?_
    refine NW.then ?_
    refine CW.cond rfl (fun hb1 => ?_) (fun hb1 => ?_)
    · replace h := h.1 hb1
      refine CW.goto ?_
      refine GW.then ?_
      exact GW.hit (S := Int × Int) (Ek := fun s1 => [(4, .int .u32 s1.1), (5, .int .i64 s1.2)]) (0, 1) (by exact ⟨rfl, rfl, trivial⟩) h
    · replace h := h.2 hb1
      refine CW.skip ?_
      refine NW.then ?_
      refine CW.seq ?_
      refine CW.seq ?_
      refine CW.region fun L hL => ?_
      refine LW.rd hL rfl (Wants.free rfl) rfl (Rd.assign (v := .int .i64 2) rfl) ?_
      refine LW.nil hL rfl ?_
      refine NW.then ?_
      refine CW.seq ?_
      refine CW.region fun L hL => ?_
      refine LW.rd hL rfl (Wants.free rfl) rfl (Rd.move (v := .pointer f1) rfl) ?_
      obtain ⟨t1, t2, hc1, h⟩ := h
      refine LW.rd hL rfl (Wants.free rfl) rfl (Rd.ldN (cs := [.int .i64 t1, .int .i64 t2]) rfl (by kernel_rfl) (by kernel_rfl) (cellsS hc1)) ?_
      refine LW.call hL rfl (Wants.free rfl) rfl (Cl.fn (f := 63) rfl Tryz.func63 (by kernel_rfl) rfl) h (fun e w4 h_ => ?_)
      clear h
      obtain ⟨r4, rfl, h⟩ := h_
      refine ⟨_, rfl, ?_⟩
      refine LW.rd hL rfl (Wants.free rfl) rfl (Rd.un (v := .bool (!r4)) rfl (fun _ => by kernel_rfl)) ?_
      refine LW.nil hL rfl ?_
      refine NW.then ?_
      refine CW.cond rfl (fun hb2 => ?_) (fun hb2 => ?_)
      · replace h := h.1 hb2
        refine CW.goto ?_
        refine GW.then ?_
        exact GW.hit (S := Int × Int) (Ek := fun s1 => [(4, .int .u32 s1.1), (5, .int .i64 s1.2)]) (0, 2) (by exact ⟨rfl, rfl, trivial⟩) h
      · replace h := h.2 hb2
        refine CW.skip ?_
        refine NW.then ?_
        refine CW.seq ?_
        refine CW.seq ?_
        refine CW.region fun L hL => ?_
        refine LW.rd hL rfl (Wants.free rfl) rfl (Rd.move (v := .pointer f1) rfl) ?_
        obtain ⟨t3, t4, hc2, h⟩ := h
        refine LW.rd hL rfl (Wants.free rfl) rfl (Rd.ldN (cs := [.int .i64 t3, .int .i64 t4]) rfl (by kernel_rfl) (by kernel_rfl) (cellsS hc2)) ?_
        refine LW.call hL rfl (Wants.free rfl) rfl (Cl.fn (f := 73) rfl Tryz.func73 (by kernel_rfl) rfl) h (fun e w5 h_ => ?_)
        clear h
        obtain ⟨r5, rfl, h⟩ := h_
        refine ⟨_, rfl, ?_⟩
        refine LW.rd hL rfl (Wants.free rfl) rfl (Rd.assign (v := .int .u32 r5) rfl) ?_
        refine LW.rd hL rfl (Wants.free rfl) rfl (Rd.assign (v := .int .i64 0) rfl) ?_
        refine LW.nil hL rfl ?_
        refine NW.then ?_
        refine CW.ret ?_
        refine RW.then ?_
        refine RW.jump ?_
        exact res2 rfl rfl rfl ⟨r5, 0, rfl, h⟩

/- (*pomander/flow.Flow).Mark -/
def V_flow_Flow_Mark (f1 : Option Addr) (p1 : Int) (p2 : Int) (n1 : Int) (set1 : Int) (w : World) (R : Int → World → Prop) : Prop :=
  ∀ b1 : Nat, b1 = World.size w → ∀ w1 : World, w1 = World.alloc w (.cells #[.int .i64 p1, .int .i64 p2] 62) → (Calls Tryz.prog 43 #[.pointer f1] w1 fun e w2 => ∃ (r2 : Bool), e = .returned (.bool r2) ∧ ((r2 = true → R 1 w2) ∧ (r2 = false → ∃ (t1 : Int) (t2 : Int), CellsAt w2 (⟨b1, 0, none⟩ : Addr) 0 [.int .i64 t1, .int .i64 t2] ∧ (Calls Tryz.prog 63 #[.pointer f1, .agg #[.int .i64 t1, .int .i64 t2]] w2 fun e w3 => ∃ (r3 : Bool), e = .returned (.bool r3) ∧ (((!r3 || decide (set1 ≥ 65536)) = true → R 2 w3) ∧ ((!r3 || decide (set1 ≥ 65536)) = false → ∃ J1 : Bool → World → Prop, (∀ (b2 : Bool) (w4 : World), J1 b2 w4 → (b2 = true → R 4 w4) ∧ (b2 = false → Calls Tryz.prog 64 #[.pointer f1, .int .u32 set1] w4 fun e w7 => ∃ (r5 : Int), e = .returned (.int .i64 r5) ∧ (((!(r5 == 0)) = true → R r5 w7) ∧ ((!(r5 == 0)) = false → ∃ (I1 : Int → World → Prop) (m1 : Int → World → Nat), I1 0 w7 ∧ ∀ (s1 : Int) (w8 : World), I1 s1 w8 → ((decide (s1 < n1)) = true → ∃ (t5 : Int), w8.cell? (⟨b1, 0, none⟩ : Addr) = some (.int .i64 t5) ∧ (∃ (t6 : Int), w8.cell? (⟨b1, 1, none⟩ : Addr) = some (.int .i64 t6) ∧ (Calls Tryz.prog 65 #[.pointer f1, .agg #[.int .i64 t5, .int .i64 (IntKind.wrap .i64 (t6 + s1))], .int .u32 set1] w8 fun e w9 => e = .returned (.tuple #[]) ∧ ((I1 (IntKind.wrap .i64 (s1 + 1)) w9 ∧ m1 (IntKind.wrap .i64 (s1 + 1)) w9 < m1 s1 w8))))) ∧ ((decide (s1 < n1)) = false → R 0 w8))))) ∧ (((decide (n1 < 0) || decide (n1 > 65536)) = false → ∃ J2 : Bool → World → Prop, (∀ (b3 : Bool) (w5 : World), J2 b3 w5 → J1 b3 w5) ∧ (((decide (n1 > 0)) = true → ∃ (t3 : Int), w3.cell? (⟨b1, 0, none⟩ : Addr) = some (.int .i64 t3) ∧ (∃ (t4 : Int), w3.cell? (⟨b1, 1, none⟩ : Addr) = some (.int .i64 t4) ∧ (Calls Tryz.prog 63 #[.pointer f1, .agg #[.int .i64 t3, .int .i64 (IntKind.wrap .i64 ((IntKind.wrap .i64 (t4 + n1)) - 1))]] w3 fun e w6 => ∃ (r4 : Bool), e = .returned (.bool r4) ∧ (J2 (!r4) w6)))) ∧ ((decide (n1 > 0)) = false → J2 false w3))) ∧ ((decide (n1 < 0) || decide (n1 > 65536)) = true → J1 true w3))))))))
set_option maxRecDepth 100000 in
theorem ok_flow_Flow_Mark (f1 : Option Addr) (p1 : Int) (p2 : Int) (n1 : Int) (set1 : Int) (w : World) (R : Int → World → Prop) (h : V_flow_Flow_Mark f1 p1 p2 n1 set1 w R) : Calls Tryz.prog 31 #[.pointer f1, .agg #[.int .i64 p1, .int .i64 p2], .int .i64 n1, .int .u32 set1] w (fun e w' => ∃ (r1 : Int), e = .returned (.int .i64 r1) ∧ R r1 w') := by
  unfold V_flow_Flow_Mark at h
  refine enter (N := 68) Tryz.func31 rfl rfl ?_
  refine CW.seq ?_
  refine CW.region fun L hL => ?_
  obtain ⟨b1, hb_b1⟩ : ∃ b1, b1 = World.size w := ⟨_, rfl⟩
  obtain ⟨w1, hw_w1⟩ : ∃ w1, w1 = World.alloc w (.cells #[.int .i64 p1, .int .i64 p2] 62) := ⟨_, rfl⟩
  replace h := h b1 hb_b1 w1 hw_w1
  refine LW.val hL rfl (Wants.free rfl) rfl (boxE hb_b1 hw_w1 (Vl.box (v := .agg #[.int .i64 p1, .int .i64 p2]) rfl)) ?_
  refine LW.rd hL rfl (Wants.free rfl) rfl (Rd.assign (v := .int .i64 0) rfl) ?_
  refine LW.nil hL rfl ?_
  refine NW.then ?_
  refine CW.seq ?_
  refine CW.block ?_
  refine CW.seq ?_
  refine CW.region fun L hL => ?_
  refine LW.rd hL rfl (Wants.free rfl) rfl (Rd.move (v := .pointer f1) rfl) ?_
  refine LW.call hL rfl (Wants.free rfl) rfl (Cl.fn (f := 43) rfl Tryz.func43 (by kernel_rfl) rfl) h (fun e w2 h_ => ?_)
  clear h
  obtain ⟨r2, rfl, h⟩ := h_
  refine ⟨_, rfl, ?_⟩
  refine LW.rd hL rfl (Wants.free rfl) rfl (Rd.assign (v := .bool r2) rfl) ?_
  refine LW.nil hL rfl ?_
  refine NW.then ?_
  refine CW.cond rfl (fun hb1 => ?_) (fun hb1 => ?_)
  · replace h := h.1 hb1
    refine CW.seq ?_
    refine CW.region fun L hL => ?_
    refine LW.rd hL rfl (Wants.free rfl) rfl (Rd.assign (v := .int .i64 1) rfl) ?_
    refine LW.nil hL rfl ?_
    refine NW.then ?_
    refine CW.ret ?_
    refine RW.block ?_
    refine RW.then ?_
    exact res1 rfl rfl ⟨1, rfl, h⟩
  · replace h := h.2 hb1
    refine CW.seq ?_
    refine CW.region fun L hL => ?_
    refine LW.rd hL rfl (Wants.free rfl) rfl (Rd.move (v := .pointer f1) rfl) ?_
    obtain ⟨t1, t2, hc1, h⟩ := h
    refine LW.rd hL rfl (Wants.free rfl) rfl (Rd.ldN (cs := [.int .i64 t1, .int .i64 t2]) rfl (by kernel_rfl) (by kernel_rfl) (cellsS hc1)) ?_
    refine LW.call hL rfl (Wants.free rfl) rfl (Cl.fn (f := 63) rfl Tryz.func63 (by kernel_rfl) rfl) h (fun e w3 h_ => ?_)
    clear h
    obtain ⟨r3, rfl, h⟩ := h_
    refine ⟨_, rfl, ?_⟩
    refine LW.rd hL rfl (Wants.free rfl) rfl (Rd.un (v := .bool (!r3)) rfl (fun _ => by kernel_rfl)) ?_
    refine LW.rd hL rfl (Wants.free rfl) rfl (Rd.move (v := .bool (!r3)) rfl) ?_
    suffices K1 : L 8 [(0, .pointer f1), (2, .int .i64 n1), (3, .int .u32 set1), (5, .pointer (some (⟨b1, 0, none⟩ : Addr))), (8, .int .i64 0), (22, .bool (!r3 || decide (set1 ≥ 65536)))] w3 by
      rcases Bool.eq_false_or_eq_true (!r3) with hb3 | hb3
      · skip
        refine LW.skip hL rfl (Skips.on rfl rfl rfl rfl rfl hb3) rfl ?_
        refine LW.skip hL rfl (Skips.on rfl rfl rfl rfl rfl hb3) rfl ?_
        refine LW.rd hL rfl (Wants.free rfl) rfl (Rd.pickT rfl hb3 rfl) ?_
        exact LW.sub hL (by exact ⟨rfl, rfl, rfl, rfl, rfl, (by rw [hb3]; rfl), trivial⟩) K1
      · skip
        refine LW.rd hL rfl (Wants.on rfl rfl rfl rfl rfl hb3) rfl (Rd.move (v := .int .u32 set1) rfl) ?_
        refine LW.rd hL rfl (Wants.on rfl rfl rfl rfl rfl hb3) rfl (Rd.bin (v := .bool (decide (set1 ≥ 65536))) rfl rfl (fun w => by kernel_rfl)) ?_
        refine LW.rd hL rfl (Wants.free rfl) rfl (Rd.pickF rfl hb3 rfl) ?_
        exact LW.sub hL (by exact ⟨rfl, rfl, rfl, rfl, rfl, (by rw [hb3]; rfl), trivial⟩) K1
    refine LW.rd hL rfl (Wants.free rfl) rfl (Rd.assign (v := .bool (!r3 || decide (set1 ≥ 65536))) rfl) ?_
    refine LW.nil hL rfl ?_
    refine NW.then ?_
    refine CW.cond rfl (fun hb4 => ?_) (fun hb4 => ?_)
    · replace h := h.1 hb4
      refine CW.seq ?_
      refine CW.region fun L hL => ?_
      refine LW.rd hL rfl (Wants.free rfl) rfl (Rd.assign (v := .int .i64 2) rfl) ?_
      refine LW.nil hL rfl ?_
      refine NW.then ?_
      refine CW.ret ?_
      refine RW.block ?_
      refine RW.then ?_
      exact res1 rfl rfl ⟨2, rfl, h⟩
    · replace h := h.2 hb4
      refine CW.seq ?_
      refine CW.region fun L hL => ?_
      refine LW.rd hL rfl (Wants.free rfl) rfl (Rd.move (v := .int .i64 n1) rfl) ?_
      refine LW.rd hL rfl (Wants.free rfl) rfl (Rd.bin (v := .bool (decide (n1 < 0))) rfl rfl (fun w => by kernel_rfl)) ?_
      refine LW.rd hL rfl (Wants.free rfl) rfl (Rd.move (v := .bool (decide (n1 < 0))) rfl) ?_
      suffices K2 : L 6 [(0, .pointer f1), (2, .int .i64 n1), (3, .int .u32 set1), (5, .pointer (some (⟨b1, 0, none⟩ : Addr))), (8, .int .i64 0), (29, .bool (decide (n1 < 0) || decide (n1 > 65536)))] w3 by
        rcases Bool.eq_false_or_eq_true (decide (n1 < 0)) with hb6 | hb6
        · skip
          refine LW.skip hL rfl (Skips.on rfl rfl rfl rfl rfl hb6) rfl ?_
          refine LW.skip hL rfl (Skips.on rfl rfl rfl rfl rfl hb6) rfl ?_
          refine LW.rd hL rfl (Wants.free rfl) rfl (Rd.pickT rfl hb6 rfl) ?_
          exact LW.sub hL (by exact ⟨rfl, rfl, rfl, rfl, rfl, (by rw [hb6]; rfl), trivial⟩) K2
        · skip
          refine LW.rd hL rfl (Wants.on rfl rfl rfl rfl rfl hb6) rfl (Rd.move (v := .int .i64 n1) rfl) ?_
          refine LW.rd hL rfl (Wants.on rfl rfl rfl rfl rfl hb6) rfl (Rd.bin (v := .bool (decide (n1 > 65536))) rfl rfl (fun w => by kernel_rfl)) ?_
          refine LW.rd hL rfl (Wants.free rfl) rfl (Rd.pickF rfl hb6 rfl) ?_
          exact LW.sub hL (by exact ⟨rfl, rfl, rfl, rfl, rfl, (by rw [hb6]; rfl), trivial⟩) K2
      refine LW.rd hL rfl (Wants.free rfl) rfl (Rd.move (v := .bool (decide (n1 < 0) || decide (n1 > 65536))) rfl) ?_
      obtain ⟨J1, hJ1, h1_J1, h0_J1⟩ := h
      suffices K3 : ∀ (b2 : Bool) (w4 : World), J1 b2 w4 → L 23 [(0, .pointer f1), (2, .int .i64 n1), (3, .int .u32 set1), (5, .pointer (some (⟨b1, 0, none⟩ : Addr))), (8, .int .i64 0), (46, .bool b2)] w4 by
        rcases Bool.eq_false_or_eq_true (decide (n1 < 0) || decide (n1 > 65536)) with hb7 | hb7
        · have h := h0_J1 hb7
          refine LW.skip hL rfl (Skips.on rfl rfl rfl rfl rfl hb7) rfl ?_
          refine LW.skip hL rfl (Skips.on rfl rfl rfl rfl rfl hb7) rfl ?_
          refine LW.skip hL rfl (Skips.on rfl rfl rfl rfl rfl hb7) rfl ?_
          refine LW.skip hL rfl (Skips.un rfl rfl rfl rfl rfl) rfl ?_
          refine LW.skip hL rfl (Skips.un rfl rfl rfl rfl rfl) rfl ?_
          refine LW.skip hL rfl (Skips.un rfl rfl rfl rfl rfl) rfl ?_
          refine LW.skip hL rfl (Skips.un rfl rfl rfl rfl rfl) rfl ?_
          refine LW.skip hL rfl (Skips.un rfl rfl rfl rfl rfl) rfl ?_
          refine LW.skip hL rfl (Skips.un rfl rfl rfl rfl rfl) rfl ?_
          refine LW.skip hL rfl (Skips.un rfl rfl rfl rfl rfl) rfl ?_
          refine LW.skip hL rfl (Skips.un rfl rfl rfl rfl rfl) rfl ?_
          refine LW.skip hL rfl (Skips.un rfl rfl rfl rfl rfl) rfl ?_
          refine LW.skip hL rfl (Skips.un rfl rfl rfl rfl rfl) rfl ?_
          refine LW.skip hL rfl (Skips.un rfl rfl rfl rfl rfl) rfl ?_
          refine LW.skip hL rfl (Skips.on rfl rfl rfl rfl rfl hb7) rfl ?_
          refine LW.rd hL rfl (Wants.free rfl) rfl (Rd.pickT rfl hb7 rfl) ?_
          exact LW.sub hL (by exact ⟨rfl, rfl, rfl, rfl, rfl, rfl, trivial⟩) (K3 true w3 h)
        · have h := h1_J1 hb7
          refine LW.rd hL rfl (Wants.on rfl rfl rfl rfl rfl hb7) rfl (Rd.move (v := .int .i64 n1) rfl) ?_
          refine LW.rd hL rfl (Wants.on rfl rfl rfl rfl rfl hb7) rfl (Rd.bin (v := .bool (decide (n1 > 0))) rfl rfl (fun w => by kernel_rfl)) ?_
          refine LW.rd hL rfl (Wants.on rfl rfl rfl rfl rfl hb7) rfl (Rd.move (v := .bool (decide (n1 > 0))) rfl) ?_
          obtain ⟨J2, hJ2, h1_J2, h0_J2⟩ := h
          suffices K4 : ∀ (b3 : Bool) (w5 : World), J2 b3 w5 → L 22 [(0, .pointer f1), (2, .int .i64 n1), (3, .int .u32 set1), (5, .pointer (some (⟨b1, 0, none⟩ : Addr))), (8, .int .i64 0), (30, .bool (decide (n1 < 0) || decide (n1 > 65536))), (45, .bool b3)] w5 by
            rcases Bool.eq_false_or_eq_true (decide (n1 > 0)) with hb8 | hb8
            · have h := h1_J2 hb8
              refine LW.rd hL rfl (Wants.on rfl rfl rfl rfl rfl hb8) rfl (Rd.move (v := .pointer f1) rfl) ?_
              refine LW.rd hL rfl (Wants.on rfl rfl rfl rfl rfl hb8) rfl (Rd.fa (v := .pointer (some (⟨b1, 0, none⟩ : Addr))) rfl (fun _ => by kernel_rfl)) ?_
              obtain ⟨t3, hc2, h⟩ := h
              refine LW.rd hL rfl (Wants.on rfl rfl rfl rfl rfl hb8) rfl (Rd.ld (v := .int .i64 t3) rfl (by kernel_rfl) (eqs hc2)) ?_
              refine LW.rd hL rfl (Wants.on rfl rfl rfl rfl rfl hb8) rfl (Rd.fa (v := .pointer (some (⟨b1, 1, none⟩ : Addr))) rfl (fun _ => by kernel_rfl)) ?_
              obtain ⟨t4, hc3, h⟩ := h
              refine LW.rd hL rfl (Wants.on rfl rfl rfl rfl rfl hb8) rfl (Rd.ld (v := .int .i64 t4) rfl (by kernel_rfl) (eqs hc3)) ?_
              refine LW.rd hL rfl (Wants.on rfl rfl rfl rfl rfl hb8) rfl (Rd.move (v := .int .i64 n1) rfl) ?_
              refine LW.rd hL rfl (Wants.on rfl rfl rfl rfl rfl hb8) rfl (Rd.bin (v := .int .i64 (IntKind.wrap .i64 (t4 + n1))) rfl rfl (fun w => by kernel_rfl)) ?_
              refine LW.rd hL rfl (Wants.on rfl rfl rfl rfl rfl hb8) rfl (Rd.bin (v := .int .i64 (IntKind.wrap .i64 ((IntKind.wrap .i64 (t4 + n1)) - 1))) rfl rfl (fun w => by kernel_rfl)) ?_
              refine LW.rd hL rfl (Wants.on rfl rfl rfl rfl rfl hb8) rfl (Rd.build (v := .agg #[.int .i64 t3, .int .i64 (IntKind.wrap .i64 ((IntKind.wrap .i64 (t4 + n1)) - 1))]) rfl (fun _ => by kernel_rfl)) ?_
              refine LW.call hL rfl (Wants.on rfl rfl rfl rfl rfl hb8) rfl (Cl.fn (f := 63) rfl Tryz.func63 (by kernel_rfl) rfl) h (fun e w6 h_ => ?_)
              clear h
              obtain ⟨r4, rfl, h⟩ := h_
              refine ⟨_, rfl, ?_⟩
              refine LW.rd hL rfl (Wants.on rfl rfl rfl rfl rfl hb8) rfl (Rd.un (v := .bool (!r4)) rfl (fun _ => by kernel_rfl)) ?_
              refine LW.rd hL rfl (Wants.on rfl rfl rfl rfl rfl hb7) rfl (Rd.pickT rfl hb8 rfl) ?_
              exact LW.sub hL (by exact ⟨rfl, rfl, rfl, rfl, rfl, rfl, rfl, trivial⟩) (K4 (!r4) w6 h)
            · have h := h0_J2 hb8
              refine LW.skip hL rfl (Skips.on rfl rfl rfl rfl rfl hb8) rfl ?_
              refine LW.skip hL rfl (Skips.on rfl rfl rfl rfl rfl hb8) rfl ?_
              refine LW.skip hL rfl (Skips.on rfl rfl rfl rfl rfl hb8) rfl ?_
              refine LW.skip hL rfl (Skips.on rfl rfl rfl rfl rfl hb8) rfl ?_
              refine LW.skip hL rfl (Skips.on rfl rfl rfl rfl rfl hb8) rfl ?_
              refine LW.skip hL rfl (Skips.on rfl rfl rfl rfl rfl hb8) rfl ?_
              refine LW.skip hL rfl (Skips.on rfl rfl rfl rfl rfl hb8) rfl ?_
              refine LW.skip hL rfl (Skips.on rfl rfl rfl rfl rfl hb8) rfl ?_
              refine LW.skip hL rfl (Skips.on rfl rfl rfl rfl rfl hb8) rfl ?_
              refine LW.skip hL rfl (Skips.on rfl rfl rfl rfl rfl hb8) rfl ?_
              refine LW.skip hL rfl (Skips.on rfl rfl rfl rfl rfl hb8) rfl ?_
              refine LW.rd hL rfl (Wants.on rfl rfl rfl rfl rfl hb7) rfl (Rd.pickF rfl hb8 rfl) ?_
              exact LW.sub hL (by exact ⟨rfl, rfl, rfl, rfl, rfl, rfl, rfl, trivial⟩) (K4 false w3 h)
          intro b3 w5 h_
          have h := hJ2 b3 w5 h_; clear h_
          refine LW.rd hL rfl (Wants.free rfl) rfl (Rd.pickF rfl hb7 rfl) ?_
          exact LW.sub hL (by exact ⟨rfl, rfl, rfl, rfl, rfl, rfl, trivial⟩) (K3 b3 w5 h)
      intro b2 w4 h_
      have h := hJ1 b2 w4 h_; clear h_
      refine LW.rd hL rfl (Wants.free rfl) rfl (Rd.assign (v := .bool b2) rfl) ?_
      refine LW.nil hL rfl ?_
      refine NW.then ?_
      refine CW.cond rfl (fun hb9 => ?_) (fun hb9 => ?_)
      · replace h := h.1 hb9
        refine CW.seq ?_
        refine CW.region fun L hL => ?_
        refine LW.rd hL rfl (Wants.free rfl) rfl (Rd.assign (v := .int .i64 4) rfl) ?_
        refine LW.nil hL rfl ?_
        refine NW.then ?_
        refine CW.ret ?_
        refine RW.block ?_
        refine RW.then ?_
        exact res1 rfl rfl ⟨4, rfl, h⟩
      · replace h := h.2 hb9
        refine CW.skip ?_
        refine NW.block ?_
        refine NW.then ?_
        refine CW.seq ?_
        refine CW.seq ?_
        refine CW.region fun L hL => ?_
        refine LW.rd hL rfl (Wants.free rfl) rfl (Rd.move (v := .pointer f1) rfl) ?_
        refine LW.rd hL rfl (Wants.free rfl) rfl (Rd.move (v := .int .u32 set1) rfl) ?_
        refine LW.call hL rfl (Wants.free rfl) rfl (Cl.fn (f := 64) rfl Tryz.func64 (by kernel_rfl) rfl) h (fun e w7 h_ => ?_)
        clear h
        obtain ⟨r5, rfl, h⟩ := h_
        refine ⟨_, rfl, ?_⟩
        refine LW.rd hL rfl (Wants.free rfl) rfl (Rd.assign (v := .int .i64 r5) rfl) ?_
        refine LW.nil hL rfl ?_
        refine NW.then ?_
        refine CW.seq ?_
        refine CW.region fun L hL => ?_
        refine LW.rd hL rfl (Wants.free rfl) rfl (Rd.move (v := .int .i64 r5) rfl) ?_
        refine LW.rd hL rfl (Wants.free rfl) rfl (Rd.bin (v := .bool (!(r5 == 0))) rfl rfl (fun w => by kernel_rfl)) ?_
        refine LW.nil hL rfl ?_
        refine NW.then ?_
        refine CW.cond rfl (fun hb10 => ?_) (fun hb10 => ?_)
        · replace h := h.1 hb10
          refine CW.seq ?_
          refine CW.region fun L hL => ?_
          refine LW.rd hL rfl (Wants.free rfl) rfl (Rd.move (v := .int .i64 r5) rfl) ?_
          refine LW.rd hL rfl (Wants.free rfl) rfl (Rd.assign (v := .int .i64 r5) rfl) ?_
          refine LW.nil hL rfl ?_
          refine NW.then ?_
          refine CW.ret ?_
          refine RW.then ?_
          exact res1 rfl rfl ⟨r5, rfl, h⟩
        · replace h := h.2 hb10
          refine CW.skip ?_
          refine NW.then ?_
          refine CW.seq ?_
          refine CW.seq ?_
          refine CW.region fun L hL => ?_
          refine LW.rd hL rfl (Wants.free rfl) rfl (Rd.move (v := .int .i64 n1) rfl) ?_
          refine LW.rd hL rfl (Wants.free rfl) rfl (Rd.move (v := .int .i64 0) rfl) ?_
          refine LW.nil hL rfl ?_
          refine NW.then ?_
          refine CW.block ?_
          obtain ⟨I1, m1, hI1, h⟩ := h
          refine CW.loop (S := Int) (fun s1 => [(0, .pointer f1), (3, .int .u32 set1), (5, .pointer (some (⟨b1, 0, none⟩ : Addr))), (8, .int .i64 0), (53, .int .i64 n1), (54, .int .i64 s1)]) I1 m1 0 (by exact ⟨rfl, rfl, rfl, rfl, rfl, rfl, trivial⟩) hI1 (fun s1 w8 hI1 => ?_)
          replace h := h s1 w8 hI1
          refine CW.seq ?_
          refine CW.region fun L hL => ?_
          refine LW.rd hL rfl (Wants.free rfl) rfl (Rd.bin (v := .bool (decide (s1 < n1))) rfl rfl (fun w => by kernel_rfl)) ?_
          refine LW.nil hL rfl ?_
          refine NW.then ?_
          refine CW.seq ?_
          refine CW.cond rfl (fun hb11 => ?_) (fun hb11 => ?_)
          · replace h := h.1 hb11
            refine CW.skip ?_
            refine NW.then ?_
            refine CW.seq ?_
            refine CW.block ?_
            refine CW.seq ?_
            refine CW.region fun L hL => ?_
            refine LW.rd hL rfl (Wants.free rfl) rfl (Rd.move (v := .int .i64 s1) rfl) ?_
            refine LW.rd hL rfl (Wants.free rfl) rfl (Rd.assign (v := .int .i64 s1) rfl) ?_
            refine LW.nil hL rfl ?_
            refine NW.then ?_
            refine CW.region fun L hL => ?_
            refine LW.rd hL rfl (Wants.free rfl) rfl (Rd.move (v := .pointer f1) rfl) ?_
            refine LW.rd hL rfl (Wants.free rfl) rfl (Rd.fa (v := .pointer (some (⟨b1, 0, none⟩ : Addr))) rfl (fun _ => by kernel_rfl)) ?_
            obtain ⟨t5, hc4, h⟩ := h
            refine LW.rd hL rfl (Wants.free rfl) rfl (Rd.ld (v := .int .i64 t5) rfl (by kernel_rfl) (eqs hc4)) ?_
            refine LW.rd hL rfl (Wants.free rfl) rfl (Rd.fa (v := .pointer (some (⟨b1, 1, none⟩ : Addr))) rfl (fun _ => by kernel_rfl)) ?_
            obtain ⟨t6, hc5, h⟩ := h
            refine LW.rd hL rfl (Wants.free rfl) rfl (Rd.ld (v := .int .i64 t6) rfl (by kernel_rfl) (eqs hc5)) ?_
            refine LW.rd hL rfl (Wants.free rfl) rfl (Rd.move (v := .int .i64 s1) rfl) ?_
            refine LW.rd hL rfl (Wants.free rfl) rfl (Rd.bin (v := .int .i64 (IntKind.wrap .i64 (t6 + s1))) rfl rfl (fun w => by kernel_rfl)) ?_
            refine LW.rd hL rfl (Wants.free rfl) rfl (Rd.build (v := .agg #[.int .i64 t5, .int .i64 (IntKind.wrap .i64 (t6 + s1))]) rfl (fun _ => by kernel_rfl)) ?_
            refine LW.rd hL rfl (Wants.free rfl) rfl (Rd.move (v := .int .u32 set1) rfl) ?_
            refine LW.call hL rfl (Wants.free rfl) rfl (Cl.fn (f := 65) rfl Tryz.func65 (by kernel_rfl) rfl) h (fun e w9 h_ => ?_)
            clear h
            obtain ⟨rfl, h⟩ := h_
            refine ⟨_, rfl, ?_⟩
            refine LW.nil hL rfl ?_
            refine NW.block ?_
            refine NW.then ?_
            refine CW.region fun L hL => ?_
            refine LW.rd hL rfl (Wants.free rfl) rfl (Rd.bin (v := .int .i64 (IntKind.wrap .i64 (s1 + 1))) rfl rfl (fun w => by kernel_rfl)) ?_
            refine LW.rd hL rfl (Wants.free rfl) rfl (Rd.move (v := .int .i64 (IntKind.wrap .i64 (s1 + 1))) rfl) ?_
            refine LW.nil hL rfl ?_
            exact NW.loop (S := Int) (Ek := fun s1 => [(0, .pointer f1), (3, .int .u32 set1), (5, .pointer (some (⟨b1, 0, none⟩ : Addr))), (8, .int .i64 0), (53, .int .i64 n1), (54, .int .i64 s1)]) (IntKind.wrap .i64 (s1 + 1)) (by exact ⟨rfl, rfl, rfl, rfl, rfl, rfl, trivial⟩) h
          · replace h := h.2 hb11
            refine CW.exit ?_
            refine XW.then ?_
            refine XW.then ?_
            refine XW.hit ?_
            refine NW.then ?_
            refine CW.seq ?_
            refine CW.region fun L hL => ?_
            refine LW.rd hL rfl (Wants.free rfl) rfl (Rd.assign (v := .int .i64 0) rfl) ?_
            refine LW.nil hL rfl ?_
            refine NW.then ?_
            refine CW.ret ?_
            exact res1 rfl rfl ⟨0, rfl, h⟩

end Go.Proofs.YtfcfkhbkkfpehaaGreat
end

/- XFlow2 -/
section
/- Flows: get, put, keep, Mark, New. -/
set_option linter.unusedVariables false
set_option linter.unusedSimpArgs false
namespace Go.Proofs.YtfcfkhbkkfpehaaGreat
open Go Go.RowKit Go.X

def i64s (n : Int) : Prop := -9223372036854775808 ≤ n ∧ n ≤ 9223372036854775807

theorem nd_swap {A B B' C : List Nat} {n : Nat} (h : (A ++ (B ++ C)).Nodup) (hB' : B'.Nodup) (hs : ∀ i ∈ B', i ∈ B ∨ n ≤ i) (hA : ∀ i ∈ A, i < n) (hC : ∀ i ∈ C, i < n) : (A ++ (B' ++ C)).Nodup := by
  rw [List.nodup_append] at h ⊢
  obtain ⟨h1, h2, h3⟩ := h
  rw [List.nodup_append] at h2
  obtain ⟨h4, h5, h6⟩ := h2
  refine ⟨h1, ?_, ?_⟩
  · rw [List.nodup_append]
    refine ⟨hB', h5, fun a ha c hc e => ?_⟩
    rcases hs a ha with h | h
    · exact h6 a h c hc e
    · have := hC c hc; omega
  · intro a ha c hc e
    rcases List.mem_append.1 hc with hc | hc
    · rcases hs c hc with h | h
      · exact h3 a ha c (List.mem_append.2 (.inl h)) e
      · have := hA a ha; omega
    · exact h3 a ha c (List.mem_append.2 (.inr hc)) e

theorem flow_get {w : World} {b : Nat} {F : Fl} {fp : List Nat} (h : FlowAt w b F fp) {p1 p2 : Int} (hp : i64s p2) :
    Calls Tryz.prog 73 #[.pointer (some ⟨b, 0, none⟩), .agg #[.int .i64 p1, .int .i64 p2]] w fun e w' => ∃ r : Int, e = .returned (.int .u32 r) ∧ (r = F.g (p1, p2) ∧ Chg [] w w') := by
  obtain ⟨T, m, d, r, l, fpT, fpm, fpd, gm, gd, h1, h2, h3, h4, h5, h6, h7, h8, h9, rfl⟩ := h.there
  refine ok_flow_Flow_get _ _ _ _ _ ?_
  unfold V_flow_Flow_get
  refine v_alloc fun b1 w1 e1 hb1 c1 => ?_
  refine ⟨p1, by rw [cell_of hb1]; rfl, fun hk => ?_, fun hk => ⟨fun hk2 => ?_, fun hk2 => ?_⟩⟩
  · have hk' : p1 = 10 := by simpa using hk
    subst hk'
    refine v_drew fun w2 c2 => ?_
    have c02 := c1.trans0 c2
    refine ⟨_, rfl, _, by rw [add_at, cell_of (c02.obj (by simp) h1)]; rfl, p2, by rw [cell_of (c2.obj (by simp) hb1)]; rfl, ?_⟩
    refine (shadow_getp (h3.chg c02 (by simp)) hp).mono ?_
    rintro _ w3 ⟨r1, r2, rfl, c3, rfl, _⟩
    exact ⟨_, _, rfl, (h6 p2).symm, c02.trans0 c3⟩
  · have hk' : p1 = 12 := by simpa using hk2
    subst hk'
    refine v_drew fun w2 c2 => ?_
    have c02 := c1.trans0 c2
    refine ⟨_, rfl, _, by rw [add_at, cell_of (c02.obj (by simp) h1)]; rfl, p2, by rw [cell_of (c2.obj (by simp) hb1)]; rfl, ?_⟩
    refine (shadow_getp (h4.chg c02 (by simp)) hp).mono ?_
    rintro _ w3 ⟨r1, r2, rfl, c3, rfl, _⟩
    exact ⟨_, _, rfl, (h7 p2).symm, c02.trans0 c3⟩
  · have hk' : p1 ≠ 10 := by simpa using hk
    have hk2' : p1 ≠ 12 := by simpa using hk2
    refine v_drew fun w2 c2 => ?_
    have c02 := c1.trans0 c2
    refine ⟨_, rfl, _, by rw [add_at, cell_of (c02.obj (by simp) h1)]; rfl, p1, p2, cellsAt_of (c2.obj (by simp) hb1), ?_⟩
    have hl := (h5.chg c02 (by simp)).lookup (P := Tryz.prog) (T := 99) u143 keyPlace zero22 (p1, p2) false
    refine ⟨F.g (p1, p2), ?_, rfl, c02⟩
    rw [h8 _ hk' hk2']
    rw [show (Value.agg #[.int .i64 p1, .int .i64 p2]) = encP (p1, p2) from rfl, hl]
    cases lookK (p1, p2) l <;> rfl

def putP (g : Int × Int → Int) (p : Int × Int) (set : Int) : Int × Int → Int := fun q => if q = p then set else g q

theorem flow_put {w : World} {b : Nat} {F : Fl} {fp : List Nat} (h : FlowAt w b F fp) {p1 p2 set : Int} (hm : mayP F.fr F.se (p1, p2)) (hs0 : 0 ≤ set) (hs1 : set < 65536) :
    Calls Tryz.prog 65 #[.pointer (some ⟨b, 0, none⟩), .agg #[.int .i64 p1, .int .i64 p2], .int .u32 set] w fun e w' => e = .returned (.tuple #[]) ∧
      (∃ fp', FlowAt w' b { F with g := putP F.g (p1, p2) set } fp' ∧ Chg fp w w' ∧ ∀ i ∈ fp', i ∈ fp ∨ w.heap.size ≤ i) := by
  have hlt := h.lt
  have hnd := h.nodup
  have hw := h.wide
  obtain ⟨T, m, d, r, l, fpT, fpm, fpd, gm, gd, h1, h2, h3, h4, h5, h6, h7, h8, h9, rfl⟩ := h.there
  have hm' := hm
  unfold mayP boundP at hm'
  simp only [] at hm'
  have hnd0 := hnd
  simp only [List.nodup_cons, List.mem_cons, List.mem_append, not_or, List.nodup_append] at hnd
  obtain ⟨⟨nbr, nbT, nbm, nbd⟩, ⟨nrT, nrm, nrd⟩, ndT, ⟨ndm, ndd, nmd⟩, nTmd⟩ := hnd
  have hcase : ∀ {w1 : World}, Chg [] w w1 → w1.heap[b]? = some (.cells #[.int .i64 F.fr, .int .i64 F.se, .pointer (some ⟨T, 0, none⟩), .pointer (some ⟨m, 0, none⟩), .pointer (some ⟨d, 0, none⟩), .map (some r)] 101 (0, 0)) := fun c => c.obj (by simp) h1
  refine ok_flow_Flow_put _ _ _ _ _ _ ?_
  unfold V_flow_Flow_put
  refine v_alloc fun b1 w1 e1 hb1 c1 => ?_
  refine ⟨p1, by rw [cell_of hb1]; rfl, fun hk => ?_, fun hk => ⟨p1, by rw [cell_of hb1]; rfl, fun hk2 => ?_, fun hk2 => ?_⟩⟩
  · have hk' : p1 = 10 := by simpa using hk
    subst hk'
    simp at hm'
    refine v_drew fun w2 c2 => ?_
    have c02 := c1.trans0 c2
    refine ⟨_, rfl, _, by rw [add_at, cell_of (hcase c02)]; rfl, p2, by rw [cell_of (c2.obj (by simp) hb1)]; rfl, ?_⟩
    refine (shadow_setp (h3.chg c02 (by simp)) ⟨by omega, by omega⟩ hs0).mono ?_
    rintro _ w3 ⟨r1, rfl, hr⟩
    rw [if_neg (by omega), if_pos (by omega)] at hr
    obtain ⟨rfl, fpm', hS, c3, hf⟩ := hr
    have c03 : Chg fpm w w3 := c02.nil.trans c3 (fun _ h _ => h)
    have hf' : ∀ i ∈ fpm', i ∈ fpm ∨ w.heap.size ≤ i := fun i hi => (hf i hi).imp id (fun h => Nat.le_trans c02.size h)
    refine ⟨_, rfl, b :: r :: (fpT ++ (fpm' ++ fpd)), ⟨⟨T, m, d, r, l, fpT, fpm', fpd, putG gm p2 set, gd, c03.obj nbm h1, h2.chg c03 (fun i hi hm => nTmd i hi i (.inl hm) rfl), hS, h4.chg c03 (fun i hi hm => nmd i hm i hi rfl), h5.chg c03 nrm, ?_, ?_, ?_, h9, rfl⟩, ?_⟩, ?_, ?_⟩
    · intro n; simp only [putP, putG]
      by_cases e : n = p2 <;> simp [e, h6]
    · intro n; simp [putP, h7]
    · intro p hp1 hp2; simp only [putP]
      rw [if_neg (by intro e; rw [e] at hp1; exact hp1 rfl)]; exact h8 p hp1 hp2
    · have := nd_swap (A := b :: r :: fpT) (B := fpm) (B' := fpm') (C := fpd) (n := w.heap.size) (by simpa using hnd0) hS.nodup hf' (fun i hi => hlt i (by simp at hi ⊢; rcases hi with h | h | h <;> simp [h])) (fun i hi => hlt i (by simp [hi]))
      simpa using this
    · exact c03.mono (fun i hi _ => by simp [hi])
    · intro i hi
      simp only [List.mem_cons, List.mem_append] at hi ⊢
      rcases hi with h | h | h | h | h
      · simp [h]
      · simp [h]
      · simp [h]
      · rcases hf' i h with h | h <;> simp [h]
      · simp [h]
  · have hk' : p1 = 12 := by simpa using hk2
    subst hk'
    simp at hm'
    refine v_drew fun w2 c2 => ?_
    have c02 := c1.trans0 c2
    refine ⟨_, rfl, _, by rw [add_at, cell_of (hcase c02)]; rfl, p2, by rw [cell_of (c2.obj (by simp) hb1)]; rfl, ?_⟩
    refine (shadow_setp (h4.chg c02 (by simp)) ⟨by omega, by omega⟩ hs0).mono ?_
    rintro _ w3 ⟨r1, rfl, hr⟩
    rw [if_neg (by omega), if_pos (by omega)] at hr
    obtain ⟨rfl, fpd', hS, c3, hf⟩ := hr
    have c03 : Chg fpd w w3 := c02.nil.trans c3 (fun _ h _ => h)
    have hf' : ∀ i ∈ fpd', i ∈ fpd ∨ w.heap.size ≤ i := fun i hi => (hf i hi).imp id (fun h => Nat.le_trans c02.size h)
    refine ⟨_, rfl, b :: r :: (fpT ++ (fpm ++ fpd')), ⟨⟨T, m, d, r, l, fpT, fpm, fpd', gm, putG gd p2 set, c03.obj nbd h1, h2.chg c03 (fun i hi hm => nTmd i hi i (.inr hm) rfl), h3.chg c03 (fun i hi hm => nmd i hi i hm rfl), hS, h5.chg c03 nrd, ?_, ?_, ?_, h9, rfl⟩, ?_⟩, ?_, ?_⟩
    · intro n; simp [putP, h6]
    · intro n; simp only [putP, putG]
      by_cases e : n = p2 <;> simp [e, h7]
    · intro p hp1 hp2; simp only [putP]
      rw [if_neg (by intro e; rw [e] at hp2; exact hp2 rfl)]; exact h8 p hp1 hp2
    · have := nd_swap (A := b :: r :: (fpT ++ fpm)) (B := fpd) (B' := fpd') (C := []) (n := w.heap.size) (by simpa using hnd0) hS.nodup hf' (fun i hi => hlt i (by simp at hi ⊢; rcases hi with h | h | h | h <;> simp [h])) (by simp)
      simpa using this
    · exact c03.mono (fun i hi _ => by simp [hi])
    · intro i hi
      simp only [List.mem_cons, List.mem_append] at hi ⊢
      rcases hi with h | h | h | h | h
      · simp [h]
      · simp [h]
      · simp [h]
      · simp [h]
      · rcases hf' i h with h | h <;> simp [h]
  · have hk' : p1 ≠ 10 := by simpa using hk
    have hk2' : p1 ≠ 12 := by simpa using hk2
    refine ⟨fun hz => ?_, fun hz => ?_⟩
    · have hz' : set = 0 := by simpa using hz
      subst hz'
      refine v_drew fun w2 c2 => ?_
      have c02 := c1.trans0 c2
      obtain ⟨w3, hd, c3, _, hm3⟩ := (h5.chg c02 (by simp)).delete (P := Tryz.prog) (T := 99) u143 keyPlace (p1, p2) (ty := 0)
      have c03 : Chg [r] w w3 := c02.nil.trans c3 (fun _ h _ => h)
      refine ⟨_, rfl, _, by rw [add_at, cell_of (hcase c02)]; rfl, p1, p2, cellsAt_of (c2.obj (by simp) hb1), w3, hd, ?_⟩
      refine ⟨b :: r :: (fpT ++ (fpm ++ fpd)), ⟨⟨T, m, d, r, _, fpT, fpm, fpd, gm, gd, c03.obj (by simpa using nbr) h1, h2.chg c03 (fun i hi hm => nrT (by simp at hm; exact hm ▸ hi)), h3.chg c03 (fun i hi hm => nrm (by simp at hm; exact hm ▸ hi)), h4.chg c03 (fun i hi hm => nrd (by simp at hm; exact hm ▸ hi)), hm3, ?_, ?_, ?_, ?_, rfl⟩, hnd0⟩, ?_, fun i hi => .inl hi⟩
      · intro n; simp only [putP]; rw [if_neg (by intro e; exact hk' (congrArg Prod.fst e).symm)]; exact h6 n
      · intro n; simp only [putP]; rw [if_neg (by intro e; exact hk2' (congrArg Prod.fst e).symm)]; exact h7 n
      · intro p hp1 hp2; simp only [putP]
        simp only [lookK_del]
        by_cases e : p = (p1, p2)
        · simp [e]
        · simp [e, h8 p hp1 hp2]
      · intro x hx; exact h9 x (List.mem_filter.1 hx).1
      · exact c03.mono (by simp)
    · have hz' : set ≠ 0 := by simpa using hz
      refine v_drew fun w2 c2 => ?_
      have c02 := c1.trans0 c2
      obtain ⟨w3, hd, c3, _, hm3⟩ := (h5.chg c02 (by simp)).update (P := Tryz.prog) (T := 99) u143 keyPlace (p1, p2) set
      have c03 : Chg [r] w w3 := c02.nil.trans c3 (fun _ h _ => h)
      refine ⟨_, rfl, _, by rw [add_at, cell_of (hcase c02)]; rfl, p1, p2, cellsAt_of (c2.obj (by simp) hb1), w3, hd, ?_⟩
      refine ⟨b :: r :: (fpT ++ (fpm ++ fpd)), ⟨⟨T, m, d, r, _, fpT, fpm, fpd, gm, gd, c03.obj (by simpa using nbr) h1, h2.chg c03 (fun i hi hm => nrT (by simp at hm; exact hm ▸ hi)), h3.chg c03 (fun i hi hm => nrm (by simp at hm; exact hm ▸ hi)), h4.chg c03 (fun i hi hm => nrd (by simp at hm; exact hm ▸ hi)), hm3, ?_, ?_, ?_, ?_, rfl⟩, hnd0⟩, ?_, fun i hi => .inl hi⟩
      · intro n; simp only [putP]; rw [if_neg (by intro e; exact hk' (congrArg Prod.fst e).symm)]; exact h6 n
      · intro n; simp only [putP]; rw [if_neg (by intro e; exact hk2' (congrArg Prod.fst e).symm)]; exact h7 n
      · intro p hp1 hp2; simp only [putP]
        simp only [lookK_upd]
        by_cases e : p = (p1, p2)
        · simp [e]
        · simp [e, h8 p hp1 hp2]
      · intro x hx
        unfold upd at hx
        split at hx
        · obtain ⟨y, hy, rfl⟩ := List.mem_map.1 hx
          by_cases e : y.1 = (p1, p2)
          · rw [if_pos e]; exact ⟨hk', hk2', hm, by show 0 < set; omega, hs1⟩
          · rw [if_neg e]; exact h9 y hy
        · rcases List.mem_append.1 hx with hx | hx
          · exact h9 x hx
          · simp at hx; subst hx; exact ⟨hk', hk2', hm, by show 0 < set; omega, hs1⟩
      · exact c03.mono (by simp)

theorem flow_keep {w : World} {b : Nat} {F : Fl} {fp : List Nat} (h : FlowAt w b F fp) {set : Int} (hs0 : 0 ≤ set) :
    Calls Tryz.prog 64 #[.pointer (some ⟨b, 0, none⟩), .int .u32 set] w fun e w' => ∃ r : Int, e = .returned (.int .i64 r) ∧
      (r = keepE F.most F.sets set ∧ ∃ fp', FlowAt w' b { F with sets := keepS F.most F.sets set } fp' ∧ Chg fp w w' ∧ ∀ i ∈ fp', i ∈ fp ∨ w.heap.size ≤ i) := by
  have hlt := h.lt
  have hnd := h.nodup
  obtain ⟨T, m, d, r, l, fpT, fpm, fpd, gm, gd, h1, h2, h3, h4, h5, h6, h7, h8, h9, rfl⟩ := h.there
  have hnd0 := hnd
  simp only [List.nodup_cons, List.mem_cons, List.mem_append, not_or, List.nodup_append] at hnd
  obtain ⟨⟨nbr, nbT, nbm, nbd⟩, ⟨nrT, nrm, nrd⟩, ndT, ⟨ndm, ndd, nmd⟩, nTmd⟩ := hnd
  refine ok_flow_Flow_keep _ _ _ _ ?_
  unfold V_flow_Flow_keep
  refine ⟨_, rfl, _, by rw [add_at, cell_of h1]; rfl, ?_⟩
  refine (table_keep h2 hs0).mono ?_
  rintro _ w3 ⟨r1, r2, rfl, rfl, fpT', hT, c3, hf⟩
  refine ⟨_, _, rfl, rfl, b :: r :: (fpT' ++ (fpm ++ fpd)), ⟨⟨T, m, d, r, l, fpT', fpm, fpd, gm, gd, c3.obj nbT h1, hT, h3.chg c3 (fun i hi hm => nTmd i hm i (.inl hi) rfl), h4.chg c3 (fun i hi hm => nTmd i hm i (.inr hi) rfl), h5.chg c3 nrT, h6, h7, h8, h9, rfl⟩, ?_⟩, ?_, ?_⟩
  · have := nd_swap (A := [b, r]) (B := fpT) (B' := fpT') (C := fpm ++ fpd) (n := w.heap.size) (by simpa using hnd0) hT.nodup hf (fun i hi => hlt i (by simp at hi ⊢; rcases hi with h | h <;> simp [h])) (fun i hi => hlt i (by simp at hi ⊢; rcases hi with h | h <;> simp [h]))
    simpa using this
  · exact c3.mono (fun i hi _ => by simp [hi])
  · intro i hi
    simp only [List.mem_cons, List.mem_append] at hi ⊢
    rcases hi with h | h | h | h | h
    · simp [h]
    · simp [h]
    · rcases hf i h with h | h <;> simp [h]
    · simp [h]
    · simp [h]

def flowNew (fr se most : Int) : Fl := ⟨fr, se, most, [0], fun _ => 0⟩
def rightP (fr se most : Int) : Prop := 1 ≤ fr ∧ fr ≤ 32 ∧ 1 ≤ se ∧ se ≤ 32 ∧ 1 ≤ most ∧ most ≤ 65536
instance (fr se most : Int) : Decidable (rightP fr se most) := by unfold rightP; exact inferInstance

theorem flow_new (w : World) (fr se most : Int) :
    Calls Tryz.prog 26 #[.agg #[.int .i64 fr, .int .i64 se], .int .i64 most] w fun e w' => ∃ (r1 : Option Addr) (r2 : Int), e = .returned (.tuple #[.pointer r1, .int .i64 r2]) ∧
      (Chg [] w w' ∧ if rightP fr se most then r2 = 0 ∧ ∃ b fp, r1 = some ⟨b, 0, none⟩ ∧ FlowAt w' b (flowNew fr se most) fp ∧ ∀ i ∈ fp, w.heap.size ≤ i else r1 = none ∧ r2 = 2) := by
  refine ok_flow_New _ _ _ _ _ ?_
  unfold V_flow_New
  refine v_alloc fun b1 w1 e1 hb1 c1 => ?_
  refine (table_new w1 most).mono ?_
  rintro _ w2 ⟨r3, r4, rfl, c2, ht⟩
  have hb2 := c2.obj (by simp) hb1
  refine ⟨_, _, rfl, fr, by rw [cell_of hb2]; rfl, ?_⟩
  refine (shadow_new w2 fr).mono ?_
  rintro _ w3 ⟨r5, r6, rfl, c3, hm⟩
  have hb3 := c3.obj (by simp) hb2
  refine ⟨_, _, rfl, se, by rw [cell_of hb3]; rfl, ?_⟩
  refine (shadow_new w3 se).mono ?_
  rintro _ w4 ⟨r7, r8, rfl, c4, hd⟩
  have hb4 := c4.obj (by simp) hb3
  have c04 : Chg [] w w4 := ((c1.trans0 c2).trans0 c3).trans0 c4
  refine ⟨_, _, rfl, fun hbad => ?_, fun hgood => ?_⟩
  · refine ⟨c04, ?_⟩
    rw [if_neg]
    · exact ⟨rfl, rfl⟩
    · rintro ⟨k1, k2, k3, k4, k5, k6⟩
      rw [if_pos ⟨k5, k6⟩] at ht
      rw [if_pos ⟨k1, k2⟩] at hm
      rw [if_pos ⟨k3, k4⟩] at hd
      simp [ht.1, hm.1, hd.1] at hbad
  simp at hgood
  by_cases k1 : 1 ≤ most ∧ most ≤ 65536
  case neg => rw [if_neg k1] at ht; omega
  by_cases k2 : 1 ≤ fr ∧ fr ≤ 32
  case neg => rw [if_neg k2] at hm; omega
  by_cases k3 : 1 ≤ se ∧ se ≤ 32
  case neg => rw [if_neg k3] at hd; omega
  rw [if_pos k1] at ht
  rw [if_pos k2] at hm
  rw [if_pos k3] at hd
  obtain ⟨rfl, T, fpT, rfl, hT, fT⟩ := ht
  obtain ⟨rfl, m, fpm, rfl, hM, fM⟩ := hm
  obtain ⟨rfl, d, fpd, rfl, hD, fD⟩ := hd
  refine ⟨fr, se, cellsAt_of hb4, ?_⟩
  refine v_alloc fun b2 w5 e5 h5 c5 => ?_
  refine v_alloc fun b3 w6 e6 h6 c6 => ?_
  have c06 := (c04.trans0 c5).trans0 c6
  have l5 : b2 < w5.heap.size := lt_of_heap h5
  have s1 := c1.size
  have s2 := c2.size
  have s3 := c3.size
  have s4 := c4.size
  have s5 := c5.size
  have lT := hT.lt
  have lM := hM.lt
  have lD := hD.lt
  refine ⟨c06, ?_⟩
  rw [if_pos ⟨k2.1, k2.2, k3.1, k3.2, k1.1, k1.2⟩]
  have hmap : MapIs w5 b2 encP (fun n : Int => .int .u32 n) [] := ⟨#[], 0, h5, rfl, by simp, by simp, by simp⟩
  have c26 := ((c3.trans0 c4).trans0 c5).trans0 c6
  have c36 := (c4.trans0 c5).trans0 c6
  have c46 := c5.trans0 c6
  refine ⟨rfl, b3, b3 :: b2 :: (fpT ++ (fpm ++ fpd)), rfl, ⟨⟨T, m, d, b2, [], fpT, fpm, fpd, fun _ => 0, fun _ => 0, h6, hT.chg c26 (by simp), hM.chg c36 (by simp), hD.chg c46 (by simp), hmap.chg c6 (by simp), fun _ => rfl, fun _ => rfl, fun _ _ _ => rfl, by simp, rfl⟩, ?_⟩, ?_⟩
  · simp only [List.nodup_cons, List.mem_cons, List.mem_append, not_or, List.nodup_append]
    refine ⟨⟨by omega, fun h => ?_, fun h => ?_, fun h => ?_⟩, ⟨fun h => ?_, fun h => ?_, fun h => ?_⟩, hT.nodup, ⟨hM.nodup, hD.nodup, fun a ha c hc e => ?_⟩, fun a ha c hc e => ?_⟩
    · have := lT _ h; omega
    · have := lM _ h; omega
    · have := lD _ h; omega
    · have := lT _ h; omega
    · have := lM _ h; omega
    · have := lD _ h; omega
    · have := lM _ ha; have := fD _ hc; omega
    · have := lT _ ha
      rcases hc with hc | hc
      · have := fM _ hc; omega
      · have := fD _ hc; omega
  · intro i hi
    simp only [List.mem_cons, List.mem_append] at hi
    rcases hi with h | h | h | h | h
    · omega
    · omega
    · have := fT i h; omega
    · have := fM i h; omega
    · have := fD i h; omega
end Go.Proofs.YtfcfkhbkkfpehaaGreat
end

/- XG4 -/
section
set_option linter.unusedVariables false
set_option linter.unusedSimpArgs false
namespace Go.Proofs.YtfcfkhbkkfpehaaGreat
open Go Go.X

/- (*pomander/flow.Flow).Copy -/
def W_flow_Flow_Copy (f1 : Option Addr) (w : World) (R : (Option Addr) → World → Prop) : Prop :=
  Calls Tryz.prog 43 #[.pointer f1] w fun e w1 => ∃ (r2 : Bool), e = .returned (.bool r2) ∧ ((r2 = true → R none w1) ∧ (r2 = false → ∀ (w2 : World), Chg [] w1 w2 → (∃ a1 : Addr, f1 = some a1 ∧ (∃ (t1 : Int) (t2 : Int), CellsAt w2 a1 0 [.int .i64 t1, .int .i64 t2] ∧ (∃ (t3 : Option Addr), w2.cell? (a1.add 2) = some (.pointer t3) ∧ (∃ (t4 : Option Addr), w2.cell? (a1.add 3) = some (.pointer t4) ∧ (∃ (t5 : Option Addr), w2.cell? (a1.add 4) = some (.pointer t5) ∧ (∃ (t6 : Option Nat), w2.cell? (a1.add 5) = some (.map t6) ∧ (Calls Tryz.prog 44 #[.pointer t3] w2 fun e w3 => ∃ (r3 : Option Addr), e = .returned (.pointer r3) ∧ ((CellsAt w3 a1 0 [.int .i64 t1, .int .i64 t2] ∧ w3.cell? (a1.add 2) = some (.pointer t3) ∧ w3.cell? (a1.add 3) = some (.pointer t4) ∧ w3.cell? (a1.add 4) = some (.pointer t5) ∧ w3.cell? (a1.add 5) = some (.map t6)) ∧ (Calls Tryz.prog 45 #[.pointer t4] w3 fun e w4 => ∃ (r4 : Option Addr), e = .returned (.pointer r4) ∧ ((CellsAt w4 a1 0 [.int .i64 t1, .int .i64 t2] ∧ w4.cell? (a1.add 2) = some (.pointer t3) ∧ w4.cell? (a1.add 3) = some (.pointer t4) ∧ w4.cell? (a1.add 4) = some (.pointer t5) ∧ w4.cell? (a1.add 5) = some (.map t6)) ∧ (Calls Tryz.prog 45 #[.pointer t5] w4 fun e w5 => ∃ (r5 : Option Addr), e = .returned (.pointer r5) ∧ ((CellsAt w5 a1 0 [.int .i64 t1, .int .i64 t2] ∧ w5.cell? (a1.add 2) = some (.pointer t3) ∧ w5.cell? (a1.add 3) = some (.pointer t4) ∧ w5.cell? (a1.add 4) = some (.pointer t5) ∧ w5.cell? (a1.add 5) = some (.map t6)) ∧ (Calls Tryz.prog 46 #[.map t6] w5 fun e w6 => ∃ (r6 : Option Nat), e = .returned (.map r6) ∧ ((CellsAt w6 a1 0 [.int .i64 t1, .int .i64 t2] ∧ w6.cell? (a1.add 2) = some (.pointer t3) ∧ w6.cell? (a1.add 3) = some (.pointer t4) ∧ w6.cell? (a1.add 4) = some (.pointer t5) ∧ w6.cell? (a1.add 5) = some (.map t6)) ∧ (∀ b1 : Nat, b1 = World.size w6 → ∀ w7 : World, w7 = World.alloc w6 (.cells #[.int .i64 t1, .int .i64 t2, .pointer r3, .pointer r4, .pointer r5, .map r6] 101) → (R (some (⟨b1, 0, none⟩ : Addr)) w7))))))))))))))))))
set_option maxRecDepth 100000 in
theorem go_flow_Flow_Copy (f1 : Option Addr) (w : World) (R : (Option Addr) → World → Prop) (h : W_flow_Flow_Copy f1 w R) : Calls Tryz.prog 15 #[.pointer f1] w (fun e w' => ∃ (r1 : Option Addr), e = .returned (.pointer r1) ∧ R r1 w') := by
  unfold W_flow_Flow_Copy at h
  refine enter (N := 31) Tryz.func15 rfl rfl ?_
  refine CW.seq ?_
  refine CW.region fun L hL => ?_
  refine LW.rd hL rfl (Wants.free rfl) rfl (Rd.assign (v := .pointer none) rfl) ?_
  refine LW.nil hL rfl ?_
  refine NW.then ?_
  refine CW.seq ?_
  refine CW.seq ?_
  refine CW.region fun L hL => ?_
  refine LW.rd hL rfl (Wants.free rfl) rfl (Rd.move (v := .pointer f1) rfl) ?_
  refine LW.call hL rfl (Wants.free rfl) rfl (Cl.fn (f := 43) rfl Tryz.func43 (by kernel_rfl) rfl) h (fun e w1 h_ => ?_)
  clear h
  obtain ⟨r2, rfl, h⟩ := h_
  refine ⟨_, rfl, ?_⟩
  refine LW.nil hL rfl ?_
  refine NW.then ?_
  refine CW.cond rfl (fun hb1 => ?_) (fun hb1 => ?_)
  · replace h := h.1 hb1
    refine CW.seq ?_
    refine CW.region fun L hL => ?_
    refine LW.rd hL rfl (Wants.free rfl) rfl (Rd.assign (v := .pointer none) rfl) ?_
    refine LW.nil hL rfl ?_
    refine NW.then ?_
    refine CW.ret ?_
    refine RW.then ?_
    exact res1 rfl rfl ⟨none, rfl, h⟩
  · replace h := h.2 hb1
    refine CW.skip ?_
    refine NW.then ?_
    refine CW.seq ?_
    obtain ⟨w2, hw_w2⟩ : ∃ x, x = World.drew w1 := ⟨_, rfl⟩
    have hc_w2 := sil_drew (Chg.refl [] w1) hw_w2
    replace h := h  w2  hc_w2
    obtain ⟨a1, ha1, h⟩ := h
    obtain ⟨t1, t2, hc1, h⟩ := h
    obtain ⟨t3, hc2, h⟩ := h
    obtain ⟨t4, hc3, h⟩ := h
    obtain ⟨t5, hc4, h⟩ := h
    obtain ⟨t6, hc5, h⟩ := h
    refine CW.drawn (fun w => CellsAt w a1 0 [.int .i64 t1, .int .i64 t2] ∧ w.cell? (a1.add 2) = some (.pointer t3) ∧ w.cell? (a1.add 3) = some (.pointer t4) ∧ w.cell? (a1.add 4) = some (.pointer t5) ∧ w.cell? (a1.add 5) = some (.map t6) ∧ True) 25 (by kernel_rfl) fun H hH => ?_
    rw [← hw_w2]
    have hS1 : CellsAt w2 a1 0 [.int .i64 t1, .int .i64 t2] ∧ w2.cell? (a1.add 2) = some (.pointer t3) ∧ w2.cell? (a1.add 3) = some (.pointer t4) ∧ w2.cell? (a1.add 4) = some (.pointer t5) ∧ w2.cell? (a1.add 5) = some (.map t6) ∧ True := ⟨hc1, hc2, hc3, hc4, hc5, trivial⟩
    refine HW.pure (i := 0) hH rfl (by kernel_rfl) (Wants.free rfl) rfl (fun _ => hS1) (Rd.move (v := .pointer f1) rfl) ?_
    refine HW.pure (i := 1) hH rfl (by kernel_rfl) (Wants.free rfl) rfl (fun _ => hS1) (Rd.nil (q := a1) (by rw [← ha1]; rfl)) ?_
    refine HW.pure (i := 2) hH rfl (by kernel_rfl) (Wants.free rfl) rfl (fun _ => hS1) (Rd.fa (v := .pointer (some a1)) rfl (fun _ => by kernel_rfl)) ?_
    refine HW.take (i := 3) hH rfl (by kernel_rfl) (by kernel_rfl) (Wants.free rfl) rfl (fun _ => hS1) (Rd.ldN (cs := [.int .i64 t1, .int .i64 t2]) rfl (by kernel_rfl) (by kernel_rfl) (fun w h => cellsAt_get h.1)) ?_
    refine HW.pure (i := 4) hH rfl (by kernel_rfl) (Wants.free rfl) rfl (fun _ => hS1) (Rd.move (v := .pointer f1) rfl) ?_
    refine HW.pure (i := 5) hH rfl (by kernel_rfl) (Wants.free rfl) rfl (fun _ => hS1) (Rd.nil (q := a1) (by rw [← ha1]; rfl)) ?_
    refine HW.pure (i := 6) hH rfl (by kernel_rfl) (Wants.free rfl) rfl (fun _ => hS1) (Rd.fa (v := .pointer (some (a1.add 2))) rfl (fun _ => by kernel_rfl)) ?_
    refine HW.take (i := 7) hH rfl (by kernel_rfl) (by kernel_rfl) (Wants.free rfl) rfl (fun _ => hS1) (Rd.ld (v := .pointer t3) rfl (by kernel_rfl) (fun w h => h.2.1)) ?_
    refine HW.pure (i := 9) hH rfl (by kernel_rfl) (Wants.free rfl) rfl (fun _ => hS1) (Rd.move (v := .pointer f1) rfl) ?_
    refine HW.pure (i := 10) hH rfl (by kernel_rfl) (Wants.free rfl) rfl (fun _ => hS1) (Rd.nil (q := a1) (by rw [← ha1]; rfl)) ?_
    refine HW.pure (i := 11) hH rfl (by kernel_rfl) (Wants.free rfl) rfl (fun _ => hS1) (Rd.fa (v := .pointer (some (a1.add 3))) rfl (fun _ => by kernel_rfl)) ?_
    refine HW.take (i := 12) hH rfl (by kernel_rfl) (by kernel_rfl) (Wants.free rfl) rfl (fun _ => hS1) (Rd.ld (v := .pointer t4) rfl (by kernel_rfl) (fun w h => h.2.2.1)) ?_
    refine HW.pure (i := 14) hH rfl (by kernel_rfl) (Wants.free rfl) rfl (fun _ => hS1) (Rd.move (v := .pointer f1) rfl) ?_
    refine HW.pure (i := 15) hH rfl (by kernel_rfl) (Wants.free rfl) rfl (fun _ => hS1) (Rd.nil (q := a1) (by rw [← ha1]; rfl)) ?_
    refine HW.pure (i := 16) hH rfl (by kernel_rfl) (Wants.free rfl) rfl (fun _ => hS1) (Rd.fa (v := .pointer (some (a1.add 4))) rfl (fun _ => by kernel_rfl)) ?_
    refine HW.take (i := 17) hH rfl (by kernel_rfl) (by kernel_rfl) (Wants.free rfl) rfl (fun _ => hS1) (Rd.ld (v := .pointer t5) rfl (by kernel_rfl) (fun w h => h.2.2.2.1)) ?_
    refine HW.pure (i := 19) hH rfl (by kernel_rfl) (Wants.free rfl) rfl (fun _ => hS1) (Rd.move (v := .pointer f1) rfl) ?_
    refine HW.pure (i := 20) hH rfl (by kernel_rfl) (Wants.free rfl) rfl (fun _ => hS1) (Rd.nil (q := a1) (by rw [← ha1]; rfl)) ?_
    refine HW.pure (i := 21) hH rfl (by kernel_rfl) (Wants.free rfl) rfl (fun _ => hS1) (Rd.fa (v := .pointer (some (a1.add 5))) rfl (fun _ => by kernel_rfl)) ?_
    refine HW.take (i := 22) hH rfl (by kernel_rfl) (by kernel_rfl) (Wants.free rfl) rfl (fun _ => hS1) (Rd.ld (v := .map t6) rfl (by kernel_rfl) (fun w h => h.2.2.2.2.1)) ?_
    refine HW.call (i := 8) hH (by kernel_rfl) rfl (Wants.free rfl) rfl (Cl.fn (f := 44) rfl Tryz.func44 (by kernel_rfl) rfl) h (fun e w3 h_ => ?_)
    clear h
    obtain ⟨r3, rfl, hS2, h⟩ := h_
    have hS3 := (⟨hS2.1, hS2.2.1, hS2.2.2.1, hS2.2.2.2.1, hS2.2.2.2.2, trivial⟩ : CellsAt w3 a1 0 [.int .i64 t1, .int .i64 t2] ∧ w3.cell? (a1.add 2) = some (.pointer t3) ∧ w3.cell? (a1.add 3) = some (.pointer t4) ∧ w3.cell? (a1.add 4) = some (.pointer t5) ∧ w3.cell? (a1.add 5) = some (.map t6) ∧ True)
    refine ⟨_, rfl, (fun _ => hS3), ?_⟩
    refine HW.call (i := 13) hH (by kernel_rfl) rfl (Wants.free rfl) rfl (Cl.fn (f := 45) rfl Tryz.func45 (by kernel_rfl) rfl) h (fun e w4 h_ => ?_)
    clear h
    obtain ⟨r4, rfl, hS4, h⟩ := h_
    have hS5 := (⟨hS4.1, hS4.2.1, hS4.2.2.1, hS4.2.2.2.1, hS4.2.2.2.2, trivial⟩ : CellsAt w4 a1 0 [.int .i64 t1, .int .i64 t2] ∧ w4.cell? (a1.add 2) = some (.pointer t3) ∧ w4.cell? (a1.add 3) = some (.pointer t4) ∧ w4.cell? (a1.add 4) = some (.pointer t5) ∧ w4.cell? (a1.add 5) = some (.map t6) ∧ True)
    refine ⟨_, rfl, (fun _ => hS5), ?_⟩
    refine HW.call (i := 18) hH (by kernel_rfl) rfl (Wants.free rfl) rfl (Cl.fn (f := 45) rfl Tryz.func45 (by kernel_rfl) rfl) h (fun e w5 h_ => ?_)
    clear h
    obtain ⟨r5, rfl, hS6, h⟩ := h_
    have hS7 := (⟨hS6.1, hS6.2.1, hS6.2.2.1, hS6.2.2.2.1, hS6.2.2.2.2, trivial⟩ : CellsAt w5 a1 0 [.int .i64 t1, .int .i64 t2] ∧ w5.cell? (a1.add 2) = some (.pointer t3) ∧ w5.cell? (a1.add 3) = some (.pointer t4) ∧ w5.cell? (a1.add 4) = some (.pointer t5) ∧ w5.cell? (a1.add 5) = some (.map t6) ∧ True)
    refine ⟨_, rfl, (fun _ => hS7), ?_⟩
    refine HW.call (i := 23) hH (by kernel_rfl) rfl (Wants.free rfl) rfl (Cl.fn (f := 46) rfl Tryz.func46 (by kernel_rfl) rfl) h (fun e w6 h_ => ?_)
    clear h
    obtain ⟨r6, rfl, hS8, h⟩ := h_
    have hS9 := (⟨hS8.1, hS8.2.1, hS8.2.2.1, hS8.2.2.2.1, hS8.2.2.2.2, trivial⟩ : CellsAt w6 a1 0 [.int .i64 t1, .int .i64 t2] ∧ w6.cell? (a1.add 2) = some (.pointer t3) ∧ w6.cell? (a1.add 3) = some (.pointer t4) ∧ w6.cell? (a1.add 4) = some (.pointer t5) ∧ w6.cell? (a1.add 5) = some (.map t6) ∧ True)
    refine ⟨_, rfl, (fun _ => hS9), ?_⟩
    refine HW.pure (i := 24) hH rfl (by kernel_rfl) (Wants.free rfl) rfl (fun _ => hS9) (Rd.build (v := .agg #[.int .i64 t1, .int .i64 t2, .pointer r3, .pointer r4, .pointer r5, .map r6]) rfl (fun _ => by kernel_rfl)) ?_
    obtain ⟨b1, hb_b1⟩ : ∃ b1, b1 = World.size w6 := ⟨_, rfl⟩
    obtain ⟨w7, hw_w7⟩ : ∃ w7, w7 = World.alloc w6 (.cells #[.int .i64 t1, .int .i64 t2, .pointer r3, .pointer r4, .pointer r5, .map r6] 101) := ⟨_, rfl⟩
    replace h := h b1 hb_b1 w7 hw_w7
    refine HW.val (i := 25) hH (by kernel_rfl) rfl (Wants.free rfl) rfl (boxE hb_b1 hw_w7 (Vl.box (v := .agg #[.int .i64 t1, .int .i64 t2, .pointer r3, .pointer r4, .pointer r5, .map r6]) rfl)) (fun hc => by cases hc) ?_
    refine HW.pure (i := 26) hH rfl (by kernel_rfl) (Wants.free rfl) rfl (fun hc => by cases hc) (Rd.assign (v := .pointer (some (⟨b1, 0, none⟩ : Addr))) rfl) ?_
    refine HW.done hH (by kernel_rfl) ?_
    refine NW.then ?_
    refine CW.ret ?_
    exact res1 rfl rfl ⟨some (⟨b1, 0, none⟩ : Addr), rfl, h⟩

end Go.Proofs.YtfcfkhbkkfpehaaGreat
end

/- XG5 -/
section
set_option linter.unusedVariables false
set_option linter.unusedSimpArgs false
namespace Go.Proofs.YtfcfkhbkkfpehaaGreat
open Go Go.X

end Go.Proofs.YtfcfkhbkkfpehaaGreat
end

/- XClone -/
section
/- maps.Clone, slices.Clone; Copy of a table, of a flow. -/
set_option linter.unusedVariables false
set_option linter.unusedSimpArgs false
namespace Go.Proofs.YtfcfkhbkkfpehaaGreat
open Go Go.RowKit Go.X Go.XR

end Go.Proofs.YtfcfkhbkkfpehaaGreat
end

/- XGall -/
section
set_option linter.unusedVariables false
set_option linter.unusedSimpArgs false
namespace Go.Proofs.YtfcfkhbkkfpehaaGreat
open Go Go.X

end Go.Proofs.YtfcfkhbkkfpehaaGreat
end

/- XFlowAll -/
section
/- Flows: the map of all places that have sets. -/
set_option linter.unusedVariables false
set_option linter.unusedSimpArgs false
namespace Go.Proofs.YtfcfkhbkkfpehaaGreat
open Go Go.RowKit Go.X Go.XR

/-- What all places' map says. -/
structure AllIs (w : World) (m : Nat) (F : Fl) (L : List ((Int × Int) × Int)) : Prop where
  map : MapIs w m encP (fun n : Int => .int .u32 n) L
  look : ∀ p, lookK p L = if F.g p = 0 then none else some (F.g p)
  may : ∀ x ∈ L, mayP F.fr F.se x.1

end Go.Proofs.YtfcfkhbkkfpehaaGreat
end

/- XG10 -/
section
set_option linter.unusedVariables false
set_option linter.unusedSimpArgs false
namespace Go.Proofs.YtfcfkhbkkfpehaaGreat
open Go Go.X

/- maps.Keys[map[pomander/api.Place]uint32,pomander/api.Place,uint32] -/
def W_maps_Keys_134 (m1 : Option Nat) (w : World) (R : Value → World → Prop) : Prop :=
  ∀ b1 : Nat, b1 = World.size w → ∀ w1 : World, w1 = World.alloc w (.cells #[.map m1] 99) → (R (.func (.func 94) #[] #[.pointer (some (⟨b1, 0, none⟩ : Addr))]) w1)
set_option maxRecDepth 100000 in
theorem go_maps_Keys_134 (m1 : Option Nat) (w : World) (R : Value → World → Prop) (h : W_maps_Keys_134 m1 w R) : Calls Tryz.prog 71 #[.map m1] w (fun e w' => ∃ (r1 : Value), e = .returned (r1) ∧ R r1 w') := by
  unfold W_maps_Keys_134 at h
  refine enter (N := 4) Tryz.func71 rfl rfl ?_
  refine CW.seq ?_
  refine CW.region fun L hL => ?_
  obtain ⟨b1, hb_b1⟩ : ∃ b1, b1 = World.size w := ⟨_, rfl⟩
  obtain ⟨w1, hw_w1⟩ : ∃ w1, w1 = World.alloc w (.cells #[.map m1] 99) := ⟨_, rfl⟩
  replace h := h b1 hb_b1 w1 hw_w1
  refine LW.val hL rfl (Wants.free rfl) rfl (boxE hb_b1 hw_w1 (Vl.box (v := .map m1) rfl)) ?_
  refine LW.rd hL rfl (Wants.free rfl) rfl (Rd.assign (v := .nilFunc) rfl) ?_
  refine LW.nil hL rfl ?_
  refine NW.then ?_
  refine CW.seq ?_
  refine CW.region fun L hL => ?_
  refine LW.rd hL rfl (Wants.free rfl) rfl (Rd.makeFunc rfl) ?_
  refine LW.rd hL rfl (Wants.free rfl) rfl (Rd.assign (v := .func (.func 94) #[] #[.pointer (some (⟨b1, 0, none⟩ : Addr))]) rfl) ?_
  refine LW.nil hL rfl ?_
  refine NW.then ?_
  refine CW.ret ?_
  exact res1 rfl rfl ⟨.func (.func 94) #[] #[.pointer (some (⟨b1, 0, none⟩ : Addr))], rfl, h⟩

/- maps.Keys[map[pomander/api.Place]uint32,pomander/api.Place,uint32]$1 -/
def W_maps_Keys_134_1 (yield1 : Value) (cap1 : Addr) (w : World) (R : World → Prop) : Prop :=
  ∃ (t1 : Option Nat), w.cell? cap1 = some (.map t1) ∧ (∃ (it1 : Option Addr) (w1 : World), (Instr.range 99 (.map t1)).run Tryz.prog w = .ok (.pointer it1) w1 ∧ (∃ (I1 : World → Prop) (m1 : World → Nat), I1 w1 ∧ ∀ (w2 : World), I1 w2 → ∃ (nx1 : Array Value) (ok1 : Bool) (w3 : World), (Instr.next (.pointer it1) false 0).run Tryz.prog w2 = .ok (.tuple nx1) w3 ∧ nx1[0]? = some (.bool ok1) ∧ ((ok1 = true → ∃ (k1 : Int) (k2 : Int) (v1 : Int), (Instr.entry (.pointer it1)).run Tryz.prog w3 = .ok (.tuple #[.agg #[.int .i64 k1, .int .i64 k2], .int .u32 v1]) w3 ∧ (∀ (b1 : Nat) (w5 : World), (w3.heap.size ≤ b1 ∧ b1 < w5.heap.size) → Chg [] w3 w5 → (XR.CallsY Tryz.prog yield1 #[.agg #[.int .i64 k1, .int .i64 k2]] w5 fun e w6 => ∃ (r1 : Bool), e = .returned (.bool r1) ∧ (((!r1) = true → R w6) ∧ ((!r1) = false → (I1 w6 ∧ m1 w6 < m1 w2)))))) ∧ (ok1 = false → R w3))))
set_option maxRecDepth 100000 in
theorem go_maps_Keys_134_1 (yield1 : Value) (cap1 : Addr) (w : World) (R : World → Prop) (h : W_maps_Keys_134_1 yield1 cap1 w R) : Calls Tryz.prog 94 #[yield1, .pointer (some cap1)] w (fun e w' => e = .returned (.tuple #[]) ∧ R w') := by
  unfold W_maps_Keys_134_1 at h
  refine enter (N := 14) Tryz.func94 rfl rfl ?_
  refine CW.seq ?_
  refine CW.region fun L hL => ?_
  obtain ⟨t1, hc1, h⟩ := h
  refine LW.rd hL rfl (Wants.free rfl) rfl (Rd.ld (v := .map t1) rfl (by kernel_rfl) (eqs hc1)) ?_
  obtain ⟨it1, w1, hm1, h⟩ := h
  refine LW.val hL rfl (Wants.free rfl) rfl (Vl.range (v := .pointer it1) rfl hm1) ?_
  refine LW.nil hL rfl ?_
  refine NW.then ?_
  refine CW.block ?_
  obtain ⟨I1, m1, hI1, h⟩ := h
  refine CW.loop (S := Unit) (fun s1 => [(0, yield1), (5, .pointer it1)]) (fun s1 w2 => I1 w2) (fun s1 w2 => m1 w2) () (by exact ⟨rfl, rfl, trivial⟩) hI1 (fun s1 w2 hI1 => ?_)
  replace h := h w2 hI1
  refine CW.seq ?_
  refine CW.region fun L hL => ?_
  obtain ⟨nx1, ok1, w3, hm2, hk1, h⟩ := h
  refine LW.val hL rfl (Wants.free rfl) rfl (Vl.next (v := .tuple nx1) rfl hm2) ?_
  refine LW.rd hL rfl (Wants.free rfl) rfl (Rd.extract (v := .bool ok1) rfl hk1) ?_
  refine LW.nil hL rfl ?_
  refine NW.then ?_
  refine CW.seq ?_
  refine CW.cond rfl (fun hb1 => ?_) (fun hb1 => ?_)
  · replace h := h.1 hb1
    refine CW.skip ?_
    refine NW.then ?_
    refine CW.block ?_
    refine CW.seq ?_
    refine CW.region fun L hL => ?_
    obtain ⟨k1, k2, v1, hl1, h⟩ := h
    refine LW.rd hL rfl (Wants.free rfl) rfl (Rd.entry (v := .tuple #[.agg #[.int .i64 k1, .int .i64 k2], .int .u32 v1]) rfl (fun _ e => e ▸ hl1)) ?_
    refine LW.rd hL rfl (Wants.free rfl) rfl (Rd.extract (v := .agg #[.int .i64 k1, .int .i64 k2]) rfl rfl) ?_
    obtain ⟨b1, hb_b1⟩ : ∃ b1, b1 = World.size w3 := ⟨_, rfl⟩
    obtain ⟨w4, hw_w4⟩ : ∃ w4, w4 = World.alloc w3 (.cells #[.int .i64 0, .int .i64 0] 62) := ⟨_, rfl⟩
    refine LW.val hL rfl (Wants.free rfl) rfl (boxE hb_b1 hw_w4 (Vl.alloc (z := .agg #[.int .i64 0, .int .i64 0]) (by kernel_rfl))) ?_
    have hB := Boxes.alloc (cs := [.int .i64 0, .int .i64 0]) (T := 62) (Boxes.nil w3) hb_b1 hw_w4
    have hlo_b1 := sil_lo (Chg.refl [] w3) hb_b1
    have hc_w4 := sil_alloc (Chg.refl [] w3) hw_w4
    obtain ⟨w5, hw_w5⟩ : ∃ x, x = setCells w4 (⟨b1, 0, none⟩ : Addr) 0 [.int .i64 k1, .int .i64 k2] := ⟨_, rfl⟩
    refine LW.eff hL rfl (Wants.free rfl) rfl (stNE hw_w5 (Ef.stN (cs := [.int .i64 k1, .int .i64 k2]) rfl rfl (by kernel_rfl) (List.forall_mem_cons.2 ⟨rfl, (List.forall_mem_cons.2 ⟨rfl, (List.forall_mem_nil _)⟩)⟩) (has_of (hB.at (i := 0) rfl) (by simp)) (free_of' (hB.at (i := 0) rfl)))) ?_
    replace hB : Boxes w5 [(b1, [.int .i64 k1, .int .i64 k2], 62)] := Boxes.store (vs := [.int .i64 k1, .int .i64 k2]) (i := 0) (o := 0) hB rfl rfl rfl rfl hw_w5
    have hc_w5 := sil_new hc_w4 (sil_cN hw_w5) hlo_b1
    refine LW.nil hL rfl ?_
    refine NW.then ?_
    refine CW.seq ?_
    refine XR.CW.un ?_
    refine XR.CW.region fun L hL => ?_
    refine XR.LW.rd hL rfl (Wants.free rfl) rfl (Rd.move (v := yield1) rfl) ?_
    refine XR.LW.rd hL rfl (Wants.free rfl) rfl (Rd.ldN (cs := [.int .i64 k1, .int .i64 k2]) rfl (by kernel_rfl) (by kernel_rfl) (cellsS (box_cells (hB.at (i := 0) rfl) rfl))) ?_
    replace h := h b1 w5 ⟨hlo_b1, lt_of_heap (hB.at (i := 0) rfl)⟩ hc_w5
    refine XR.LW.callY hL rfl (Wants.free rfl) rfl rfl rfl h (fun e w6 h_ => ?_)
    clear h
    obtain ⟨r1, rfl, h⟩ := h_
    refine ⟨_, rfl, ?_⟩
    refine XR.LW.rd hL rfl (Wants.free rfl) rfl (Rd.un (v := .bool (!r1)) rfl (fun _ => by kernel_rfl)) ?_
    refine XR.LW.nil hL rfl ?_
    refine NW.then ?_
    refine CW.cond rfl (fun hb2 => ?_) (fun hb2 => ?_)
    · replace h := h.1 hb2
      refine CW.ret ?_
      refine RW.block ?_
      refine RW.then ?_
      refine RW.block ?_
      exact res0 rfl ⟨rfl, h⟩
    · replace h := h.2 hb2
      refine CW.skip ?_
      refine NW.block ?_
      exact NW.loop (S := Unit) (Ek := fun s1 => [(0, yield1), (5, .pointer it1)]) () (by exact ⟨rfl, rfl, trivial⟩) h
  · replace h := h.2 hb1
    refine CW.exit ?_
    refine XW.then ?_
    refine XW.then ?_
    refine XW.hit ?_
    exact res0n rfl (by exact ⟨rfl, h⟩)

/- slices.AppendSeq[[]pomander/api.Place,pomander/api.Place] -/
def W_slices_AppendSeq_194 (s1 : Option Addr) (s1n : Nat) (s1c : Nat) (seq1 : Value) (w : World) (R : (Option Addr) → Nat → Nat → World → Prop) : Prop :=
  ∀ (b1 : Nat) (w1 : World), (w.heap.size ≤ b1 ∧ b1 < w1.heap.size) → Chg [] w w1 → (∃ (S1 Sp1 : List (Int × Int) → Prop) (keep1 : List Nat), XR.IsFn Tryz.prog seq1 ∧ XR.Iterates Tryz.prog seq1 (fun x : Int × Int => #[.agg #[.int .i64 x.1, .int .i64 x.2]]) S1 Sp1 keep1 w1 ∧ (∀ i_ ∈ keep1, i_ < w1.heap.size) ∧ ∃ (I1 : (Option Addr) → Nat → Nat → List Nat → List (Int × Int) → World → Prop), (∀ (c1 : Option Addr) (c1n : Nat) (c1c : Nat) (pre_ : List (Int × Int)), XR.Stab w1 (fun O_ w_ => I1 c1 c1n c1c O_ pre_ w_)) ∧ (∀ (O1 : List Nat) (w2 : World), Chg [] w1 w2 → XR.InO w1 O1 w2 → I1 s1 s1n s1c O1 ([]) w2) ∧ (∀ (l1 : Nat) (O1 : List Nat) (pre1 : List (Int × Int)) (x1 : Int) (x2 : Int) (c1 : Option Addr) (c1n : Nat) (c1c : Nat) (w2 : World), XR.InO w1 O1 w2 → l1 ∈ O1 → Sp1 (pre1 ++ [(x1, x2)]) → I1 c1 c1n c1c O1 pre1 w2 → (∀ (b2 : Nat) (w5 : World), (w2.heap.size ≤ b2 ∧ b2 < w5.heap.size) → Chg [l1] w2 w5 → (∀ b3 : Nat, b3 = World.size w5 → ∀ w6 : World, w6 = World.alloc w5 (.cells #[.int .i64 x1, .int .i64 x2] 62) → (∃ (l2 : Option Addr) (l2n : Nat) (l2c : Nat) (w7 : World), (Builtin.append_ #[63, 63] 63 #[.slice c1 c1n c1c, .slice (some (⟨b3, 0, none⟩ : Addr)) 1 1]).run Tryz.prog w6 = .ok (.slice l2 l2n l2c) w7 ∧ (Same w6 w7 [b1] ∧ (∀ (w8 : World), Chg [b1] w7 w8 → ((w5.heap.size ≤ w8.heap.size ∧ I1 l2 l2n l2c O1 (pre1 ++ [(x1, x2)]) w8 ∧ Same w5 w8 (keep1 ++ O1))))))))) ∧ (∀ (d1 : Nat) (O2 : List Nat) (xs1 : List (Int × Int)) (c1 : Option Addr) (c1n : Nat) (c1c : Nat) (w9 : World), XR.InO w1 O2 w9 → d1 ∈ O2 → S1 xs1 → I1 c1 c1n c1c O2 xs1 w9 → (∀ w10 : World, Chg [d1] w9 w10 → (R c1 c1n c1c w10))))
set_option maxRecDepth 100000 in
theorem go_slices_AppendSeq_194 (s1 : Option Addr) (s1n : Nat) (s1c : Nat) (seq1 : Value) (w : World) (R : (Option Addr) → Nat → Nat → World → Prop) (h : W_slices_AppendSeq_194 s1 s1n s1c seq1 w R) : Calls Tryz.prog 112 #[.slice s1 s1n s1c, seq1] w (fun e w' => ∃ (r1 : Option Addr) (r1n : Nat) (r1c : Nat), e = .returned (.slice r1 r1n r1c) ∧ R r1 r1n r1c w') := by
  unfold W_slices_AppendSeq_194 at h
  refine XR.enterM (N := 13) Tryz.func112 rfl rfl ?_
  refine CW.seq ?_
  refine CW.region fun L hL => ?_
  obtain ⟨b1, hb_b1⟩ : ∃ b1, b1 = World.size w := ⟨_, rfl⟩
  obtain ⟨w1, hw_w1⟩ : ∃ w1, w1 = World.alloc w (.cells #[.slice s1 s1n s1c] 63) := ⟨_, rfl⟩
  refine LW.val hL rfl (Wants.free rfl) rfl (boxE hb_b1 hw_w1 (Vl.box (v := .slice s1 s1n s1c) rfl)) ?_
  have hB := Boxes.alloc (cs := [.slice s1 s1n s1c]) (T := 63) (Boxes.nil w) hb_b1 hw_w1
  have hlo_b1 := sil_lo (Chg.refl [] w) hb_b1
  have hc_w1 := sil_alloc (Chg.refl [] w) hw_w1
  refine LW.rd hL rfl (Wants.free rfl) rfl (Rd.assign (v := .slice none 0 0) rfl) ?_
  refine LW.nil hL rfl ?_
  refine NW.then ?_
  refine CW.seq ?_
  refine CW.seq ?_
  refine CW.region fun L hL => ?_
  refine LW.rd hL rfl (Wants.free rfl) rfl (Rd.move (v := seq1) rfl) ?_
  refine LW.nil hL rfl ?_
  refine NW.then ?_
  refine CW.block ?_
  replace h := h b1 w1 ⟨hlo_b1, lt_of_heap (hB.at (i := 0) rfl)⟩ hc_w1
  obtain ⟨S1, Sp1, keep1, hfn_, hit_, hkp_, I1, hst_I1, h0_, hrd_, hdn_⟩ := h
  refine XR.CW.rangeV (α := Int × Int) (enc := (fun x : Int × Int => #[.agg #[.int .i64 x.1, .int .i64 x.2]])) (S := S1) (Sp := Sp1) (keep := keep1) rfl hfn_ (fun _ => rfl) (by decide) hit_ (fun (O_ : List Nat) (pre_ : List (Int × Int)) (w_ : World) => ∃ (c1 : Option Addr) (c1n : Nat) (c1c : Nat), I1 c1 c1n c1c O_ pre_ w_ ∧ Boxes w_ [(b1, [.slice c1 c1n c1c], 63)]) (fun (c_ : Code) (O_ : List Nat) (pre_ : List (Int × Int)) (w_ : World) => False) ?_ ?_ ?_ hkp_ ?_ ?_ ?_
  · intro pre_ O_ O2_ A_ B_ hi_ hO_ hc_ hO2_ hg_
    have hB0_ := hB
    obtain ⟨c1, c1n, c1c, hi_, hB⟩ := hi_
    exact ⟨c1, c1n, c1c, hst_I1 c1 c1n c1c pre_ O_ O2_ A_ B_ hi_ hO_ hc_ hO2_ hg_, hB.stab hB0_ rfl hO_ hc_⟩
  · intro c_ pre_ O_ O2_ A_ B_ hi_ hO_ hc_ hO2_ hg_
    exact hi_.elim
  · intro O_ A_ hc_ hO_
    exact ⟨s1, s1n, s1c, h0_ O_ A_ hc_ hO_, Boxes.chg hB hc_ (by simp)⟩
  · intro l1 O1 pre1 x_ w2 hO_ hl_ hSp_ hi_
    obtain ⟨x1, x2⟩ := x_
    obtain ⟨c1, c1n, c1c, hi_, hB⟩ := hi_
    have h := hrd_ l1 O1 pre1 x1 x2 c1 c1n c1c w2 hO_ hl_ hSp_ hi_
    refine XR.CW.region fun L hL => ?_
    obtain ⟨b2, hb_b2⟩ : ∃ b2, b2 = World.size w2 := ⟨_, rfl⟩
    obtain ⟨w3, hw_w3⟩ : ∃ w3, w3 = World.alloc w2 (.cells #[.int .i64 0, .int .i64 0] 62) := ⟨_, rfl⟩
    refine XR.LW.val hL rfl (Wants.free rfl) rfl (boxE hb_b2 hw_w3 (Vl.alloc (z := .agg #[.int .i64 0, .int .i64 0]) (by kernel_rfl))) ?_
    replace hB := Boxes.alloc (cs := [.int .i64 0, .int .i64 0]) (T := 62) hB hb_b2 hw_w3
    have hlo_b2 := sil_lo (Chg.refl [] w2) hb_b2
    have hc_w3 := sil_alloc (Chg.refl [] w2) hw_w3
    obtain ⟨w4, hw_w4⟩ : ∃ x, x = setCells w3 (⟨b2, 0, none⟩ : Addr) 0 [.int .i64 x1, .int .i64 x2] := ⟨_, rfl⟩
    refine XR.LW.eff hL rfl (Wants.free rfl) rfl (stNE hw_w4 (Ef.stN (cs := [.int .i64 x1, .int .i64 x2]) rfl rfl (by kernel_rfl) (List.forall_mem_cons.2 ⟨rfl, (List.forall_mem_cons.2 ⟨rfl, (List.forall_mem_nil _)⟩)⟩) (has_of (hB.at (i := 0) rfl) (by simp)) (free_of' (hB.at (i := 0) rfl)))) ?_
    replace hB : Boxes w4 [(b2, [.int .i64 x1, .int .i64 x2], 62), (b1, [.slice c1 c1n c1c], 63)] := Boxes.store (vs := [.int .i64 x1, .int .i64 x2]) (i := 0) (o := 0) hB rfl rfl rfl rfl hw_w4
    have hc_w4 := sil_new hc_w3 (sil_cN hw_w4) hlo_b2
    refine XR.LW.nil hL rfl ?_
    refine XR.NW.begin hc_w4 (fun w5 hcb_w5 hlp_ hib_ => ?_)
    have hc_w5 : Chg [l1] w2 w5 := sil_more hc_w4 hcb_w5
    replace hB := hB.notloop hlp_ hcb_w5
    replace h := h b2 w5 ⟨hlo_b2, lt_of_heap (hB.at (i := 0) rfl)⟩ hc_w5
    refine XR.CW.block ?_
    refine XR.CW.region fun L hL => ?_
    refine XR.LW.rd hL rfl (Wants.free rfl) rfl (Rd.ld (v := .slice c1 c1n c1c) rfl (by kernel_rfl) (eqs (box_cell (hB.at (i := 1) rfl) rfl))) ?_
    refine XR.LW.rd hL rfl (Wants.free rfl) rfl (Rd.ldN (cs := [.int .i64 x1, .int .i64 x2]) rfl (by kernel_rfl) (by kernel_rfl) (cellsS (box_cells (hB.at (i := 0) rfl) rfl))) ?_
    obtain ⟨b3, hb_b3⟩ : ∃ b3, b3 = World.size w5 := ⟨_, rfl⟩
    obtain ⟨w6, hw_w6⟩ : ∃ w6, w6 = World.alloc w5 (.cells #[.int .i64 x1, .int .i64 x2] 62) := ⟨_, rfl⟩
    replace h := h b3 hb_b3 w6 hw_w6
    refine XR.LW.val hL rfl (Wants.free rfl) rfl (sliceE (n := 1) hb_b3 hw_w6 (fun w => Vl.buildSlice (vs := [(0, .agg #[.int .i64 x1, .int .i64 x2])]) rfl (by kernel_rfl))) ?_
    replace hB := hB.grow hw_w6
    obtain ⟨l2, l2n, l2c, w7, ha1, h⟩ := h
    refine XR.LW.val hL rfl (Wants.free rfl) rfl (Vl.builtin (v := .slice l2 l2n l2c) rfl (valB ha1)) ?_
    obtain ⟨hsm1, h⟩ := h
    replace hB := Boxes.sameS (hB.sel [1] (by decide) rfl) hsm1 (by simp)
    obtain ⟨w8, hw_w8⟩ : ∃ x, x = World.setCell w7 (⟨b1, 0, none⟩ : Addr) (.slice l2 l2n l2c) := ⟨_, rfl⟩
    refine XR.LW.eff hL rfl (Wants.free rfl) rfl (stE hw_w8 (Ef.st rfl rfl rfl (by kernel_rfl) (box_cell (v := .slice c1 c1n c1c) (hB.at (i := 0) rfl) rfl) (free_of (hB.at (i := 0) rfl) 0))) ?_
    replace hB : Boxes w8 [(b1, [.slice l2 l2n l2c], 63)] := Boxes.store1  (i := 0) (o := 0) hB rfl rfl rfl rfl hw_w8
    have hc_w8 : Chg [b1] w7 w8 := sil_more (Chg.refl [] w7) (sil_c1 hw_w8)
    refine XR.LW.nil hL rfl ?_
    refine NW.block ?_
    replace h := h  w8  hc_w8
    exact fun a_ ha_ => ⟨h.1, ⟨l2, l2n, l2c, h.2.1, hB⟩, h.2.2⟩
  · intro d1 O2 xs1 w9 hO_ hd_ hdh_ hS_ hi_
    obtain ⟨c1, c1n, c1c, hi_, hB⟩ := hi_
    have h := hdn_ d1 O2 xs1 c1 c1n c1c w9 hO_ hd_ hS_ hi_
    have hK := XR.Marks.cons (XR.Marks.nil _) hdh_ (by simp)
    refine NW.block ?_
    refine NW.then ?_
    refine CW.seq ?_
    refine CW.region fun L hL => ?_
    refine LW.rd hL rfl (Wants.free rfl) rfl (Rd.ld (v := .slice c1 c1n c1c) rfl (by kernel_rfl) (eqs (box_cell (hB.at (i := 0) rfl) rfl))) ?_
    refine LW.rd hL rfl (Wants.free rfl) rfl (Rd.assign (v := .slice c1 c1n c1c) rfl) ?_
    refine LW.nil hL rfl ?_
    refine NW.then ?_
    refine CW.ret ?_
    exact XR.resM (ms := [d1]) (vs := [.slice c1 c1n c1c]) hK rfl (fun w_ hc_ => ⟨(ResOK.t rfl ResOK.nil), c1, c1n, c1c, rfl, h w_ hc_⟩)
  · intro d2 c_ O3 xs2 w11 hO_ hd_ hdh_ hS_ hi_
    exact hi_.elim

/- slices.Collect[pomander/api.Place] -/
def W_slices_Collect_841 (seq1 : Value) (w : World) (R : (Option Addr) → Nat → Nat → World → Prop) : Prop :=
  Calls Tryz.prog 112 #[.slice none 0 0, seq1] w fun e w1 => ∃ (r2 : Option Addr) (r2n : Nat) (r2c : Nat), e = .returned (.slice r2 r2n r2c) ∧ (R r2 r2n r2c w1)
set_option maxRecDepth 100000 in
theorem go_slices_Collect_841 (seq1 : Value) (w : World) (R : (Option Addr) → Nat → Nat → World → Prop) (h : W_slices_Collect_841 seq1 w R) : Calls Tryz.prog 92 #[seq1] w (fun e w' => ∃ (r1 : Option Addr) (r1n : Nat) (r1c : Nat), e = .returned (.slice r1 r1n r1c) ∧ R r1 r1n r1c w') := by
  unfold W_slices_Collect_841 at h
  refine enter (N := 5) Tryz.func92 rfl rfl ?_
  refine CW.seq ?_
  refine CW.region fun L hL => ?_
  refine LW.rd hL rfl (Wants.free rfl) rfl (Rd.assign (v := .slice none 0 0) rfl) ?_
  refine LW.nil hL rfl ?_
  refine NW.then ?_
  refine CW.seq ?_
  refine CW.region fun L hL => ?_
  refine LW.rd hL rfl (Wants.free rfl) rfl (Rd.move (v := seq1) rfl) ?_
  refine LW.call hL rfl (Wants.free rfl) rfl (Cl.fn (f := 112) rfl Tryz.func112 (by kernel_rfl) rfl) h (fun e w1 h_ => ?_)
  clear h
  obtain ⟨r2, r2n, r2c, rfl, h⟩ := h_
  refine ⟨_, rfl, ?_⟩
  refine LW.rd hL rfl (Wants.free rfl) rfl (Rd.assign (v := .slice r2 r2n r2c) rfl) ?_
  refine LW.nil hL rfl ?_
  refine NW.then ?_
  refine CW.ret ?_
  exact res1 rfl rfl ⟨r2, r2n, r2c, rfl, h⟩

/- slices.SortedFunc[pomander/api.Place] -/
def W_slices_SortedFunc_841 (seq1 : Value) (cmp1 : Value) (w : World) (R : (Option Addr) → Nat → Nat → World → Prop) : Prop :=
  Calls Tryz.prog 92 #[seq1] w fun e w1 => ∃ (r2 : Option Addr) (r2n : Nat) (r2c : Nat), e = .returned (.slice r2 r2n r2c) ∧ (Calls Tryz.prog 93 #[.slice r2 r2n r2c, cmp1] w1 fun e w2 => e = .returned (.tuple #[]) ∧ (R r2 r2n r2c w2))
set_option maxRecDepth 100000 in
theorem go_slices_SortedFunc_841 (seq1 : Value) (cmp1 : Value) (w : World) (R : (Option Addr) → Nat → Nat → World → Prop) (h : W_slices_SortedFunc_841 seq1 cmp1 w R) : Calls Tryz.prog 70 #[seq1, cmp1] w (fun e w' => ∃ (r1 : Option Addr) (r1n : Nat) (r1c : Nat), e = .returned (.slice r1 r1n r1c) ∧ R r1 r1n r1c w') := by
  unfold W_slices_SortedFunc_841 at h
  refine enter (N := 12) Tryz.func70 rfl rfl ?_
  refine CW.seq ?_
  refine CW.region fun L hL => ?_
  refine LW.rd hL rfl (Wants.free rfl) rfl (Rd.assign (v := .slice none 0 0) rfl) ?_
  refine LW.nil hL rfl ?_
  refine NW.then ?_
  refine CW.seq ?_
  refine CW.region fun L hL => ?_
  refine LW.rd hL rfl (Wants.free rfl) rfl (Rd.move (v := seq1) rfl) ?_
  refine LW.call hL rfl (Wants.free rfl) rfl (Cl.fn (f := 92) rfl Tryz.func92 (by kernel_rfl) rfl) h (fun e w1 h_ => ?_)
  clear h
  obtain ⟨r2, r2n, r2c, rfl, h⟩ := h_
  refine ⟨_, rfl, ?_⟩
  refine LW.rd hL rfl (Wants.free rfl) rfl (Rd.assign (v := .slice r2 r2n r2c) rfl) ?_
  refine LW.nil hL rfl ?_
  refine NW.then ?_
  refine CW.seq ?_
  refine CW.region fun L hL => ?_
  refine LW.rd hL rfl (Wants.free rfl) rfl (Rd.move (v := .slice r2 r2n r2c) rfl) ?_
  refine LW.rd hL rfl (Wants.free rfl) rfl (Rd.move (v := cmp1) rfl) ?_
  refine LW.call hL rfl (Wants.free rfl) rfl (Cl.fn (f := 93) rfl Tryz.func93 (by kernel_rfl) rfl) h (fun e w2 h_ => ?_)
  clear h
  obtain ⟨rfl, h⟩ := h_
  refine ⟨_, rfl, ?_⟩
  refine LW.nil hL rfl ?_
  refine NW.then ?_
  refine CW.seq ?_
  refine CW.region fun L hL => ?_
  refine LW.rd hL rfl (Wants.free rfl) rfl (Rd.move (v := .slice r2 r2n r2c) rfl) ?_
  refine LW.rd hL rfl (Wants.free rfl) rfl (Rd.assign (v := .slice r2 r2n r2c) rfl) ?_
  refine LW.nil hL rfl ?_
  refine NW.then ?_
  refine CW.ret ?_
  exact res1 rfl rfl ⟨r2, r2n, r2c, rfl, h⟩

/- cmp.Compare[pomander/api.PlaceKind] -/
def W_cmp_Compare_942 (x1 : Int) (y1 : Int) (w : World) (R : Int → World → Prop) : Prop :=
  Calls Tryz.prog 115 #[.int .i64 x1] w fun e w1 => ∃ (r2 : Bool), e = .returned (.bool r2) ∧ (Calls Tryz.prog 115 #[.int .i64 y1] w1 fun e w2 => ∃ (r3 : Bool), e = .returned (.bool r3) ∧ ((r2 = true → (r3 = true → R 0 w2) ∧ (r3 = false → R (-1) w2)) ∧ (r2 = false → (r3 = true → R 1 w2) ∧ (r3 = false → ((decide (x1 < y1)) = true → R (-1) w2) ∧ ((decide (x1 < y1)) = false → ((decide (x1 > y1)) = true → R 1 w2) ∧ ((decide (x1 > y1)) = false → R 0 w2))))))
set_option maxRecDepth 100000 in
theorem go_cmp_Compare_942 (x1 : Int) (y1 : Int) (w : World) (R : Int → World → Prop) (h : W_cmp_Compare_942 x1 y1 w R) : Calls Tryz.prog 95 #[.int .i64 x1, .int .i64 y1] w (fun e w' => ∃ (r1 : Int), e = .returned (.int .i64 r1) ∧ R r1 w') := by
  unfold W_cmp_Compare_942 at h
  refine enter (N := 20) Tryz.func95 rfl rfl ?_
  refine CW.seq ?_
  refine CW.region fun L hL => ?_
  refine LW.rd hL rfl (Wants.free rfl) rfl (Rd.assign (v := .int .i64 0) rfl) ?_
  refine LW.nil hL rfl ?_
  refine NW.then ?_
  refine CW.seq ?_
  refine CW.region fun L hL => ?_
  refine LW.rd hL rfl (Wants.free rfl) rfl (Rd.move (v := .int .i64 x1) rfl) ?_
  refine LW.call hL rfl (Wants.free rfl) rfl (Cl.fn (f := 115) rfl Tryz.func115 (by kernel_rfl) rfl) h (fun e w1 h_ => ?_)
  clear h
  obtain ⟨r2, rfl, h⟩ := h_
  refine ⟨_, rfl, ?_⟩
  refine LW.rd hL rfl (Wants.free rfl) rfl (Rd.assign (v := .bool r2) rfl) ?_
  refine LW.nil hL rfl ?_
  refine NW.then ?_
  refine CW.seq ?_
  refine CW.region fun L hL => ?_
  refine LW.rd hL rfl (Wants.free rfl) rfl (Rd.move (v := .int .i64 y1) rfl) ?_
  refine LW.call hL rfl (Wants.free rfl) rfl (Cl.fn (f := 115) rfl Tryz.func115 (by kernel_rfl) rfl) h (fun e w2 h_ => ?_)
  clear h
  obtain ⟨r3, rfl, h⟩ := h_
  refine ⟨_, rfl, ?_⟩
  refine LW.rd hL rfl (Wants.free rfl) rfl (Rd.assign (v := .bool r3) rfl) ?_
  refine LW.nil hL rfl ?_
  refine NW.then ?_
  refine CW.seq ?_
  refine CW.seq ?_
  refine CW.region fun L hL => ?_
  refine LW.rd hL rfl (Wants.free rfl) rfl (Rd.move (v := .bool r2) rfl) ?_
  refine LW.nil hL rfl ?_
  refine NW.then ?_
  refine CW.cond rfl (fun hb1 => ?_) (fun hb1 => ?_)
  · replace h := h.1 hb1
    refine CW.seq ?_
    refine CW.seq ?_
    refine CW.region fun L hL => ?_
    refine LW.rd hL rfl (Wants.free rfl) rfl (Rd.move (v := .bool r3) rfl) ?_
    refine LW.nil hL rfl ?_
    refine NW.then ?_
    refine CW.cond rfl (fun hb2 => ?_) (fun hb2 => ?_)
    · replace h := h.1 hb2
      refine CW.seq ?_
      refine CW.region fun L hL => ?_
      refine LW.rd hL rfl (Wants.free rfl) rfl (Rd.assign (v := .int .i64 0) rfl) ?_
      refine LW.nil hL rfl ?_
      refine NW.then ?_
      refine CW.ret ?_
      refine RW.then ?_
      refine RW.then ?_
      exact res1 rfl rfl ⟨0, rfl, h⟩
    · replace h := h.2 hb2
      refine CW.skip ?_
      refine NW.then ?_
      refine CW.seq ?_
      refine CW.region fun L hL => ?_
      refine LW.rd hL rfl (Wants.free rfl) rfl (Rd.assign (v := .int .i64 (-1)) rfl) ?_
      refine LW.nil hL rfl ?_
      refine NW.then ?_
      refine CW.ret ?_
      refine RW.then ?_
      exact res1 rfl rfl ⟨(-1), rfl, h⟩
  · replace h := h.2 hb1
    refine CW.skip ?_
    refine NW.then ?_
    refine CW.seq ?_
    refine CW.seq ?_
    refine CW.region fun L hL => ?_
    refine LW.rd hL rfl (Wants.free rfl) rfl (Rd.move (v := .bool r3) rfl) ?_
    refine LW.nil hL rfl ?_
    refine NW.then ?_
    refine CW.cond rfl (fun hb3 => ?_) (fun hb3 => ?_)
    · replace h := h.1 hb3
      refine CW.seq ?_
      refine CW.region fun L hL => ?_
      refine LW.rd hL rfl (Wants.free rfl) rfl (Rd.assign (v := .int .i64 1) rfl) ?_
      refine LW.nil hL rfl ?_
      refine NW.then ?_
      refine CW.ret ?_
      refine RW.then ?_
      exact res1 rfl rfl ⟨1, rfl, h⟩
    · replace h := h.2 hb3
      refine CW.skip ?_
      refine NW.then ?_
      refine CW.seq ?_
      refine CW.seq ?_
      refine CW.region fun L hL => ?_
      refine LW.rd hL rfl (Wants.free rfl) rfl (Rd.move (v := .int .i64 x1) rfl) ?_
      refine LW.rd hL rfl (Wants.free rfl) rfl (Rd.move (v := .int .i64 y1) rfl) ?_
      refine LW.rd hL rfl (Wants.free rfl) rfl (Rd.bin (v := .bool (decide (x1 < y1))) rfl rfl (fun w => by kernel_rfl)) ?_
      refine LW.nil hL rfl ?_
      refine NW.then ?_
      refine CW.cond rfl (fun hb4 => ?_) (fun hb4 => ?_)
      · replace h := h.1 hb4
        refine CW.seq ?_
        refine CW.region fun L hL => ?_
        refine LW.rd hL rfl (Wants.free rfl) rfl (Rd.assign (v := .int .i64 (-1)) rfl) ?_
        refine LW.nil hL rfl ?_
        refine NW.then ?_
        refine CW.ret ?_
        refine RW.then ?_
        exact res1 rfl rfl ⟨(-1), rfl, h⟩
      · replace h := h.2 hb4
        refine CW.skip ?_
        refine NW.then ?_
        refine CW.seq ?_
        refine CW.seq ?_
        refine CW.region fun L hL => ?_
        refine LW.rd hL rfl (Wants.free rfl) rfl (Rd.move (v := .int .i64 x1) rfl) ?_
        refine LW.rd hL rfl (Wants.free rfl) rfl (Rd.move (v := .int .i64 y1) rfl) ?_
        refine LW.rd hL rfl (Wants.free rfl) rfl (Rd.bin (v := .bool (decide (x1 > y1))) rfl rfl (fun w => by kernel_rfl)) ?_
        refine LW.nil hL rfl ?_
        refine NW.then ?_
        refine CW.cond rfl (fun hb5 => ?_) (fun hb5 => ?_)
        · replace h := h.1 hb5
          refine CW.seq ?_
          refine CW.region fun L hL => ?_
          refine LW.rd hL rfl (Wants.free rfl) rfl (Rd.assign (v := .int .i64 1) rfl) ?_
          refine LW.nil hL rfl ?_
          refine NW.then ?_
          refine CW.ret ?_
          refine RW.then ?_
          exact res1 rfl rfl ⟨1, rfl, h⟩
        · replace h := h.2 hb5
          refine CW.skip ?_
          refine NW.then ?_
          refine CW.seq ?_
          refine CW.region fun L hL => ?_
          refine LW.rd hL rfl (Wants.free rfl) rfl (Rd.assign (v := .int .i64 0) rfl) ?_
          refine LW.nil hL rfl ?_
          refine NW.then ?_
          refine CW.ret ?_
          exact res1 rfl rfl ⟨0, rfl, h⟩

/- cmp.Compare[int] -/
def W_cmp_Compare_61 (x1 : Int) (y1 : Int) (w : World) (R : Int → World → Prop) : Prop :=
  Calls Tryz.prog 116 #[.int .i64 x1] w fun e w1 => ∃ (r2 : Bool), e = .returned (.bool r2) ∧ (Calls Tryz.prog 116 #[.int .i64 y1] w1 fun e w2 => ∃ (r3 : Bool), e = .returned (.bool r3) ∧ ((r2 = true → (r3 = true → R 0 w2) ∧ (r3 = false → R (-1) w2)) ∧ (r2 = false → (r3 = true → R 1 w2) ∧ (r3 = false → ((decide (x1 < y1)) = true → R (-1) w2) ∧ ((decide (x1 < y1)) = false → ((decide (x1 > y1)) = true → R 1 w2) ∧ ((decide (x1 > y1)) = false → R 0 w2))))))
set_option maxRecDepth 100000 in
theorem go_cmp_Compare_61 (x1 : Int) (y1 : Int) (w : World) (R : Int → World → Prop) (h : W_cmp_Compare_61 x1 y1 w R) : Calls Tryz.prog 96 #[.int .i64 x1, .int .i64 y1] w (fun e w' => ∃ (r1 : Int), e = .returned (.int .i64 r1) ∧ R r1 w') := by
  unfold W_cmp_Compare_61 at h
  refine enter (N := 20) Tryz.func96 rfl rfl ?_
  refine CW.seq ?_
  refine CW.region fun L hL => ?_
  refine LW.rd hL rfl (Wants.free rfl) rfl (Rd.assign (v := .int .i64 0) rfl) ?_
  refine LW.nil hL rfl ?_
  refine NW.then ?_
  refine CW.seq ?_
  refine CW.region fun L hL => ?_
  refine LW.rd hL rfl (Wants.free rfl) rfl (Rd.move (v := .int .i64 x1) rfl) ?_
  refine LW.call hL rfl (Wants.free rfl) rfl (Cl.fn (f := 116) rfl Tryz.func116 (by kernel_rfl) rfl) h (fun e w1 h_ => ?_)
  clear h
  obtain ⟨r2, rfl, h⟩ := h_
  refine ⟨_, rfl, ?_⟩
  refine LW.rd hL rfl (Wants.free rfl) rfl (Rd.assign (v := .bool r2) rfl) ?_
  refine LW.nil hL rfl ?_
  refine NW.then ?_
  refine CW.seq ?_
  refine CW.region fun L hL => ?_
  refine LW.rd hL rfl (Wants.free rfl) rfl (Rd.move (v := .int .i64 y1) rfl) ?_
  refine LW.call hL rfl (Wants.free rfl) rfl (Cl.fn (f := 116) rfl Tryz.func116 (by kernel_rfl) rfl) h (fun e w2 h_ => ?_)
  clear h
  obtain ⟨r3, rfl, h⟩ := h_
  refine ⟨_, rfl, ?_⟩
  refine LW.rd hL rfl (Wants.free rfl) rfl (Rd.assign (v := .bool r3) rfl) ?_
  refine LW.nil hL rfl ?_
  refine NW.then ?_
  refine CW.seq ?_
  refine CW.seq ?_
  refine CW.region fun L hL => ?_
  refine LW.rd hL rfl (Wants.free rfl) rfl (Rd.move (v := .bool r2) rfl) ?_
  refine LW.nil hL rfl ?_
  refine NW.then ?_
  refine CW.cond rfl (fun hb1 => ?_) (fun hb1 => ?_)
  · replace h := h.1 hb1
    refine CW.seq ?_
    refine CW.seq ?_
    refine CW.region fun L hL => ?_
    refine LW.rd hL rfl (Wants.free rfl) rfl (Rd.move (v := .bool r3) rfl) ?_
    refine LW.nil hL rfl ?_
    refine NW.then ?_
    refine CW.cond rfl (fun hb2 => ?_) (fun hb2 => ?_)
    · replace h := h.1 hb2
      refine CW.seq ?_
      refine CW.region fun L hL => ?_
      refine LW.rd hL rfl (Wants.free rfl) rfl (Rd.assign (v := .int .i64 0) rfl) ?_
      refine LW.nil hL rfl ?_
      refine NW.then ?_
      refine CW.ret ?_
      refine RW.then ?_
      refine RW.then ?_
      exact res1 rfl rfl ⟨0, rfl, h⟩
    · replace h := h.2 hb2
      refine CW.skip ?_
      refine NW.then ?_
      refine CW.seq ?_
      refine CW.region fun L hL => ?_
      refine LW.rd hL rfl (Wants.free rfl) rfl (Rd.assign (v := .int .i64 (-1)) rfl) ?_
      refine LW.nil hL rfl ?_
      refine NW.then ?_
      refine CW.ret ?_
      refine RW.then ?_
      exact res1 rfl rfl ⟨(-1), rfl, h⟩
  · replace h := h.2 hb1
    refine CW.skip ?_
    refine NW.then ?_
    refine CW.seq ?_
    refine CW.seq ?_
    refine CW.region fun L hL => ?_
    refine LW.rd hL rfl (Wants.free rfl) rfl (Rd.move (v := .bool r3) rfl) ?_
    refine LW.nil hL rfl ?_
    refine NW.then ?_
    refine CW.cond rfl (fun hb3 => ?_) (fun hb3 => ?_)
    · replace h := h.1 hb3
      refine CW.seq ?_
      refine CW.region fun L hL => ?_
      refine LW.rd hL rfl (Wants.free rfl) rfl (Rd.assign (v := .int .i64 1) rfl) ?_
      refine LW.nil hL rfl ?_
      refine NW.then ?_
      refine CW.ret ?_
      refine RW.then ?_
      exact res1 rfl rfl ⟨1, rfl, h⟩
    · replace h := h.2 hb3
      refine CW.skip ?_
      refine NW.then ?_
      refine CW.seq ?_
      refine CW.seq ?_
      refine CW.region fun L hL => ?_
      refine LW.rd hL rfl (Wants.free rfl) rfl (Rd.move (v := .int .i64 x1) rfl) ?_
      refine LW.rd hL rfl (Wants.free rfl) rfl (Rd.move (v := .int .i64 y1) rfl) ?_
      refine LW.rd hL rfl (Wants.free rfl) rfl (Rd.bin (v := .bool (decide (x1 < y1))) rfl rfl (fun w => by kernel_rfl)) ?_
      refine LW.nil hL rfl ?_
      refine NW.then ?_
      refine CW.cond rfl (fun hb4 => ?_) (fun hb4 => ?_)
      · replace h := h.1 hb4
        refine CW.seq ?_
        refine CW.region fun L hL => ?_
        refine LW.rd hL rfl (Wants.free rfl) rfl (Rd.assign (v := .int .i64 (-1)) rfl) ?_
        refine LW.nil hL rfl ?_
        refine NW.then ?_
        refine CW.ret ?_
        refine RW.then ?_
        exact res1 rfl rfl ⟨(-1), rfl, h⟩
      · replace h := h.2 hb4
        refine CW.skip ?_
        refine NW.then ?_
        refine CW.seq ?_
        refine CW.seq ?_
        refine CW.region fun L hL => ?_
        refine LW.rd hL rfl (Wants.free rfl) rfl (Rd.move (v := .int .i64 x1) rfl) ?_
        refine LW.rd hL rfl (Wants.free rfl) rfl (Rd.move (v := .int .i64 y1) rfl) ?_
        refine LW.rd hL rfl (Wants.free rfl) rfl (Rd.bin (v := .bool (decide (x1 > y1))) rfl rfl (fun w => by kernel_rfl)) ?_
        refine LW.nil hL rfl ?_
        refine NW.then ?_
        refine CW.cond rfl (fun hb5 => ?_) (fun hb5 => ?_)
        · replace h := h.1 hb5
          refine CW.seq ?_
          refine CW.region fun L hL => ?_
          refine LW.rd hL rfl (Wants.free rfl) rfl (Rd.assign (v := .int .i64 1) rfl) ?_
          refine LW.nil hL rfl ?_
          refine NW.then ?_
          refine CW.ret ?_
          refine RW.then ?_
          exact res1 rfl rfl ⟨1, rfl, h⟩
        · replace h := h.2 hb5
          refine CW.skip ?_
          refine NW.then ?_
          refine CW.seq ?_
          refine CW.region fun L hL => ?_
          refine LW.rd hL rfl (Wants.free rfl) rfl (Rd.assign (v := .int .i64 0) rfl) ?_
          refine LW.nil hL rfl ?_
          refine NW.then ?_
          refine CW.ret ?_
          exact res1 rfl rfl ⟨0, rfl, h⟩

/- cmp.isNaN[pomander/api.PlaceKind] -/
def W_cmp_isNaN_942 (x1 : Int) (w : World) (R : Bool → World → Prop) : Prop :=
  R (!(x1 == x1)) w
set_option maxRecDepth 100000 in
theorem go_cmp_isNaN_942 (x1 : Int) (w : World) (R : Bool → World → Prop) (h : W_cmp_isNaN_942 x1 w R) : Calls Tryz.prog 115 #[.int .i64 x1] w (fun e w' => ∃ (r1 : Bool), e = .returned (.bool r1) ∧ R r1 w') := by
  unfold W_cmp_isNaN_942 at h
  refine enter (N := 6) Tryz.func115 rfl rfl ?_
  refine CW.seq ?_
  refine CW.region fun L hL => ?_
  refine LW.rd hL rfl (Wants.free rfl) rfl (Rd.assign (v := .bool false) rfl) ?_
  refine LW.nil hL rfl ?_
  refine NW.then ?_
  refine CW.seq ?_
  refine CW.region fun L hL => ?_
  refine LW.rd hL rfl (Wants.free rfl) rfl (Rd.move (v := .int .i64 x1) rfl) ?_
  refine LW.rd hL rfl (Wants.free rfl) rfl (Rd.move (v := .int .i64 x1) rfl) ?_
  refine LW.rd hL rfl (Wants.free rfl) rfl (Rd.bin (v := .bool (!(x1 == x1))) rfl rfl (fun w => by kernel_rfl)) ?_
  refine LW.rd hL rfl (Wants.free rfl) rfl (Rd.assign (v := .bool (!(x1 == x1))) rfl) ?_
  refine LW.nil hL rfl ?_
  refine NW.then ?_
  refine CW.ret ?_
  exact res1 rfl rfl ⟨!(x1 == x1), rfl, h⟩

/- cmp.isNaN[int] -/
def W_cmp_isNaN_61 (x1 : Int) (w : World) (R : Bool → World → Prop) : Prop :=
  R (!(x1 == x1)) w
set_option maxRecDepth 100000 in
theorem go_cmp_isNaN_61 (x1 : Int) (w : World) (R : Bool → World → Prop) (h : W_cmp_isNaN_61 x1 w R) : Calls Tryz.prog 116 #[.int .i64 x1] w (fun e w' => ∃ (r1 : Bool), e = .returned (.bool r1) ∧ R r1 w') := by
  unfold W_cmp_isNaN_61 at h
  refine enter (N := 6) Tryz.func116 rfl rfl ?_
  refine CW.seq ?_
  refine CW.region fun L hL => ?_
  refine LW.rd hL rfl (Wants.free rfl) rfl (Rd.assign (v := .bool false) rfl) ?_
  refine LW.nil hL rfl ?_
  refine NW.then ?_
  refine CW.seq ?_
  refine CW.region fun L hL => ?_
  refine LW.rd hL rfl (Wants.free rfl) rfl (Rd.move (v := .int .i64 x1) rfl) ?_
  refine LW.rd hL rfl (Wants.free rfl) rfl (Rd.move (v := .int .i64 x1) rfl) ?_
  refine LW.rd hL rfl (Wants.free rfl) rfl (Rd.bin (v := .bool (!(x1 == x1))) rfl rfl (fun w => by kernel_rfl)) ?_
  refine LW.rd hL rfl (Wants.free rfl) rfl (Rd.assign (v := .bool (!(x1 == x1))) rfl) ?_
  refine LW.nil hL rfl ?_
  refine NW.then ?_
  refine CW.ret ?_
  exact res1 rfl rfl ⟨!(x1 == x1), rfl, h⟩

/- (*pomander/flow.Flow).All -/
def W_flow_Flow_All (f1 : Option Addr) (w : World) (R : Value → World → Prop) : Prop :=
  ∀ b1 : Nat, b1 = World.size w → ∀ w1 : World, w1 = World.alloc w (.map #[] 0) → (∀ b2 : Nat, b2 = World.size w1 → ∀ w2 : World, w2 = World.alloc w1 (.cells #[.map none] 99) → ((∃ o : Value, w2.cell? (⟨b2, 0, none⟩ : Addr) = some o) ∧ w2.frozen? (⟨b2, 0, none⟩ : Addr) = false ∧ ∀ w3 : World, w3 = World.setCell w2 (⟨b2, 0, none⟩ : Addr) (.map (some b1)) → (∃ J1 : World → Prop, (∀ (w4 : World), J1 w4 → R (.func (.func 69) #[] #[.pointer (some (⟨b2, 0, none⟩ : Addr))]) w4) ∧ (Calls Tryz.prog 43 #[.pointer f1] w3 fun e w5 => ∃ (r2 : Bool), e = .returned (.bool r2) ∧ (((!r2) = true → Calls Tryz.prog 55 #[.pointer f1] w5 fun e w6 => ∃ (r3 : Option Nat), e = .returned (.map r3) ∧ ((∃ o : Value, w6.cell? (⟨b2, 0, none⟩ : Addr) = some o) ∧ w6.frozen? (⟨b2, 0, none⟩ : Addr) = false ∧ ∀ w7 : World, w7 = World.setCell w6 (⟨b2, 0, none⟩ : Addr) (.map r3) → (J1 w7))) ∧ ((!r2) = false → J1 w5))))))
set_option maxRecDepth 100000 in
theorem go_flow_Flow_All (f1 : Option Addr) (w : World) (R : Value → World → Prop) (h : W_flow_Flow_All f1 w R) : Calls Tryz.prog 34 #[.pointer f1] w (fun e w' => ∃ (r1 : Value), e = .returned (r1) ∧ R r1 w') := by
  unfold W_flow_Flow_All at h
  refine enter (N := 11) Tryz.func34 rfl rfl ?_
  refine CW.seq ?_
  refine CW.region fun L hL => ?_
  refine LW.rd hL rfl (Wants.free rfl) rfl (Rd.assign (v := .nilFunc) rfl) ?_
  refine LW.nil hL rfl ?_
  refine NW.then ?_
  refine CW.seq ?_
  refine CW.region fun L hL => ?_
  obtain ⟨b1, hb_b1⟩ : ∃ b1, b1 = World.size w := ⟨_, rfl⟩
  obtain ⟨w1, hw_w1⟩ : ∃ w1, w1 = World.alloc w (.map #[] 0) := ⟨_, rfl⟩
  replace h := h b1 hb_b1 w1 hw_w1
  refine LW.val hL rfl (Wants.free rfl) rfl (mapE hb_b1 hw_w1 Vl.makeMap) ?_
  obtain ⟨b2, hb_b2⟩ : ∃ b2, b2 = World.size w1 := ⟨_, rfl⟩
  obtain ⟨w2, hw_w2⟩ : ∃ w2, w2 = World.alloc w1 (.cells #[.map none] 99) := ⟨_, rfl⟩
  replace h := h b2 hb_b2 w2 hw_w2
  refine LW.val hL rfl (Wants.free rfl) rfl (boxE hb_b2 hw_w2 (Vl.alloc (z := .map none) (by kernel_rfl))) ?_
  obtain ⟨⟨o_w3, ho1⟩, hf1, h⟩ := h
  obtain ⟨w3, hw_w3⟩ : ∃ w3, w3 = World.setCell w2 (⟨b2, 0, none⟩ : Addr) (.map (some b1)) := ⟨_, rfl⟩
  replace h := h w3 hw_w3
  refine LW.eff hL rfl (Wants.free rfl) rfl (stE hw_w3 (Ef.st rfl rfl rfl (by kernel_rfl) ho1 hf1)) ?_
  refine LW.nil hL rfl ?_
  refine NW.then ?_
  obtain ⟨J1, hJ1, h⟩ := h
  refine CW.cut (S := Unit) (fun s1 => [(2, .nilFunc), (3, .pointer (some (⟨b2, 0, none⟩ : Addr)))]) (fun s1 w4 => J1 w4) (fun s1 w4 h_ => ?_) ?_
  · replace h := hJ1 w4 h_; clear h_
    refine CW.seq ?_
    refine CW.region fun L hL => ?_
    refine LW.rd hL rfl (Wants.free rfl) rfl (Rd.makeFunc rfl) ?_
    refine LW.rd hL rfl (Wants.free rfl) rfl (Rd.assign (v := .func (.func 69) #[] #[.pointer (some (⟨b2, 0, none⟩ : Addr))]) rfl) ?_
    refine LW.nil hL rfl ?_
    refine NW.then ?_
    refine CW.ret ?_
    exact res1 rfl rfl ⟨.func (.func 69) #[] #[.pointer (some (⟨b2, 0, none⟩ : Addr))], rfl, h⟩
  · skip
    refine CW.seq ?_
    refine CW.region fun L hL => ?_
    refine LW.rd hL rfl (Wants.free rfl) rfl (Rd.move (v := .pointer f1) rfl) ?_
    refine LW.call hL rfl (Wants.free rfl) rfl (Cl.fn (f := 43) rfl Tryz.func43 (by kernel_rfl) rfl) h (fun e w5 h_ => ?_)
    clear h
    obtain ⟨r2, rfl, h⟩ := h_
    refine ⟨_, rfl, ?_⟩
    refine LW.rd hL rfl (Wants.free rfl) rfl (Rd.un (v := .bool (!r2)) rfl (fun _ => by kernel_rfl)) ?_
    refine LW.nil hL rfl ?_
    refine NW.then ?_
    refine CW.cond rfl (fun hb1 => ?_) (fun hb1 => ?_)
    · replace h := h.1 hb1
      refine CW.region fun L hL => ?_
      refine LW.rd hL rfl (Wants.free rfl) rfl (Rd.move (v := .pointer f1) rfl) ?_
      refine LW.call hL rfl (Wants.free rfl) rfl (Cl.fn (f := 55) rfl Tryz.func55 (by kernel_rfl) rfl) h (fun e w6 h_ => ?_)
      clear h
      obtain ⟨r3, rfl, h⟩ := h_
      refine ⟨_, rfl, ?_⟩
      obtain ⟨⟨o_w7, ho2⟩, hf2, h⟩ := h
      obtain ⟨w7, hw_w7⟩ : ∃ w7, w7 = World.setCell w6 (⟨b2, 0, none⟩ : Addr) (.map r3) := ⟨_, rfl⟩
      replace h := h w7 hw_w7
      refine LW.eff hL rfl (Wants.free rfl) rfl (stE hw_w7 (Ef.st rfl rfl rfl (by kernel_rfl) ho2 hf2)) ?_
      refine LW.nil hL rfl ?_
      exact NW.cut (S := Unit) (Ek := fun s1 => [(2, .nilFunc), (3, .pointer (some (⟨b2, 0, none⟩ : Addr)))]) () (by exact ⟨rfl, rfl, trivial⟩) h
    · replace h := h.2 hb1
      refine CW.skip ?_
      exact NW.cut (S := Unit) (Ek := fun s1 => [(2, .nilFunc), (3, .pointer (some (⟨b2, 0, none⟩ : Addr)))]) () (by exact ⟨rfl, rfl, trivial⟩) h

end Go.Proofs.YtfcfkhbkkfpehaaGreat
end

/- XOrder -/
section
/- flow.order: which place is ahead; as slices.SortFunc asks it. -/
set_option linter.unusedVariables false
set_option linter.unusedSimpArgs false
namespace Go.Proofs.YtfcfkhbkkfpehaaGreat
open Go Go.RowKit Go.X Go.Shelf Go.Sort

def cmpI (x y : Int) : Int := if x < y then -1 else if y < x then 1 else 0
def cmpP (x y : Int × Int) : Int := if cmpI x.1 y.1 = 0 then cmpI x.2 y.2 else cmpI x.1 y.1
theorem isNaN139 (w : World) (x : Int) : Calls Tryz.prog 115 #[.int .i64 x] w fun e w' => ∃ r : Bool, e = .returned (.bool r) ∧ (r = false ∧ w' = w) := by
  refine go_cmp_isNaN_942 _ _ _ ?_
  unfold W_cmp_isNaN_942
  exact ⟨by simp, rfl⟩
theorem isNaN140 (w : World) (x : Int) : Calls Tryz.prog 116 #[.int .i64 x] w fun e w' => ∃ r : Bool, e = .returned (.bool r) ∧ (r = false ∧ w' = w) := by
  refine go_cmp_isNaN_61 _ _ _ ?_
  unfold W_cmp_isNaN_61
  exact ⟨by simp, rfl⟩
theorem cmp122 (w : World) (x y : Int) : Calls Tryz.prog 95 #[.int .i64 x, .int .i64 y] w fun e w' => ∃ r : Int, e = .returned (.int .i64 r) ∧ (r = cmpI x y ∧ w' = w) := by
  refine go_cmp_Compare_942 _ _ _ _ ?_
  unfold W_cmp_Compare_942
  refine (isNaN139 w x).mono ?_
  rintro _ w1 ⟨_, rfl, rfl, hw⟩
  subst w1
  refine ⟨_, rfl, ?_⟩
  refine (isNaN139 w y).mono ?_
  rintro _ w1 ⟨_, rfl, rfl, hw⟩
  subst w1
  refine ⟨_, rfl, fun h => by simp at h, fun _ => ⟨fun h => by simp at h, fun _ => ⟨fun h => ?_, fun h => ⟨fun h' => ?_, fun h' => ?_⟩⟩⟩⟩
  · have := of_decide_eq_true h
    exact ⟨by unfold cmpI; rw [if_pos this], rfl⟩
  · have h1 := of_decide_eq_false h
    have h2 := of_decide_eq_true h'
    exact ⟨by unfold cmpI; rw [if_neg h1, if_pos h2], rfl⟩
  · have h1 := of_decide_eq_false h
    have h2 := of_decide_eq_false h'
    exact ⟨by unfold cmpI; rw [if_neg h1, if_neg h2], rfl⟩
theorem cmp123 (w : World) (x y : Int) : Calls Tryz.prog 96 #[.int .i64 x, .int .i64 y] w fun e w' => ∃ r : Int, e = .returned (.int .i64 r) ∧ (r = cmpI x y ∧ w' = w) := by
  refine go_cmp_Compare_61 _ _ _ _ ?_
  unfold W_cmp_Compare_61
  refine (isNaN140 w x).mono ?_
  rintro _ w1 ⟨_, rfl, rfl, hw⟩
  subst w1
  refine ⟨_, rfl, ?_⟩
  refine (isNaN140 w y).mono ?_
  rintro _ w1 ⟨_, rfl, rfl, hw⟩
  subst w1
  refine ⟨_, rfl, fun h => by simp at h, fun _ => ⟨fun h => by simp at h, fun _ => ⟨fun h => ?_, fun h => ⟨fun h' => ?_, fun h' => ?_⟩⟩⟩⟩
  · have := of_decide_eq_true h
    exact ⟨by unfold cmpI; rw [if_pos this], rfl⟩
  · have h1 := of_decide_eq_false h
    have h2 := of_decide_eq_true h'
    exact ⟨by unfold cmpI; rw [if_neg h1, if_pos h2], rfl⟩
  · have h1 := of_decide_eq_false h
    have h2 := of_decide_eq_false h'
    exact ⟨by unfold cmpI; rw [if_neg h1, if_neg h2], rfl⟩

set_option maxHeartbeats 1000000 in
theorem order103 (x y : Int × Int) (W : World) : Calls Tryz.prog 72 #[.agg #[.int .i64 x.1, .int .i64 x.2], .agg #[.int .i64 y.1, .int .i64 y.2]] W fun e w' => e = .returned (.int .i64 (cmpP x y)) ∧ ∃ q os', w' = grow (W.drewN q) os' := by
  have h1 := fun W' => cmp122 W' x.1 y.1
  have h2 := fun W' => cmp123 W' x.2 y.2
  unfold cmpP
  generalize cmpI x.1 y.1 = r1 at h1 ⊢
  generalize cmpI x.2 y.2 = r2 at h2 ⊢
  go_enter Tryz.func72, Tryz.ntmps72
  go_wp2_with (first
    | (go_at_call 95; refine (h1 _).mono ?_; rintro e w' ⟨_, rfl, rfl, rfl⟩)
    | (go_at_call 96; refine (h2 _).mono ?_; rintro e w' ⟨_, rfl, rfl, rfl⟩))
  all_goals first
    | (exfalso; simp_all; done)
    | (go_ret; exact ⟨by simp_all, 0, _, by rw [alloc_eq_grow, alloc_eq_grow, grow_grow]; rfl⟩)
end Go.Proofs.YtfcfkhbkkfpehaaGreat
end
