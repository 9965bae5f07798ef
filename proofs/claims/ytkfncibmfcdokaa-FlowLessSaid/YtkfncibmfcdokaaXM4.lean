/- Texts of the claim, merged: XFt3 XTable XFlow1 XFt1 XFlow2. -/
import Derived.Test.YtkfncibmfcdokaaXM3
import Derived.Test.YtkfncibmfcdokaaProg

/- XFt3 -/
section
set_option linter.unusedVariables false
set_option linter.unusedSimpArgs false
namespace Go.Proofs.Ytkfncibmfcdokaa
open Go.X

/- (pomander/pomanderref02.Table).Keep -/
def V_pomanderref02_Table_Keep (t1 : Int) (t2 : Option Addr) (t2n : Nat) (t2c : Nat) (set1 : Int) (w : World) (R : Int → (Option Addr) → Nat → Nat → Int → Int → World → Prop) : Prop :=
  ∀ b1 : Nat, b1 = World.size w → ∀ w1 : World, w1 = World.alloc w (.cells #[.int .i64 t1, .slice t2 t2n t2c] 33) → (∀ b2 : Nat, b2 = World.size w1 → ∀ w2 : World, w2 = World.alloc w1 (.cells #[.int .i64 0, .slice none 0 0] 33) → (((decide (set1 ≥ 65536)) = true → ∃ (t3 : Int) (t4 : Option Addr) (t4n : Nat) (t4c : Nat), CellsAt w2 (⟨b1, 0, none⟩ : Addr) 0 [.int .i64 t3, .slice t4 t4n t4c] ∧ (Has w2 (⟨b2, 0, none⟩ : Addr) 2 ∧ Free w2 (⟨b2, 0, none⟩ : Addr) 2 ∧ ∀ w3 : World, w3 = setCells w2 (⟨b2, 0, none⟩ : Addr) 0 [.int .i64 t3, .slice t4 t4n t4c] → (∃ (r5 : Int) (r6 : Option Addr) (r6n : Nat) (r6c : Nat), CellsAt w3 (⟨b2, 0, none⟩ : Addr) 0 [.int .i64 r5, .slice r6 r6n r6c] ∧ R r5 r6 r6n r6c 0 2 w3))) ∧ ((decide (set1 ≥ 65536)) = false → ∃ (t5 : Int) (t6 : Option Addr) (t6n : Nat) (t6c : Nat), CellsAt w2 (⟨b1, 0, none⟩ : Addr) 0 [.int .i64 t5, .slice t6 t6n t6c] ∧ (Calls Try.prog 124 #[.agg #[.int .i64 t5, .slice t6 t6n t6c], .int .u32 set1] w2 fun e w4 => ∃ (r7 : Int), e = .returned (.int .i64 r7) ∧ (((decide (r7 ≥ 0)) = true → ∃ (t7 : Int) (t8 : Option Addr) (t8n : Nat) (t8c : Nat), CellsAt w4 (⟨b1, 0, none⟩ : Addr) 0 [.int .i64 t7, .slice t8 t8n t8c] ∧ (Has w4 (⟨b2, 0, none⟩ : Addr) 2 ∧ Free w4 (⟨b2, 0, none⟩ : Addr) 2 ∧ ∀ w5 : World, w5 = setCells w4 (⟨b2, 0, none⟩ : Addr) 0 [.int .i64 t7, .slice t8 t8n t8c] → (∃ (r8 : Int) (r9 : Option Addr) (r9n : Nat) (r9c : Nat), CellsAt w5 (⟨b2, 0, none⟩ : Addr) 0 [.int .i64 r8, .slice r9 r9n r9c] ∧ R r8 r9 r9n r9c r7 0 w5))) ∧ ((decide (r7 ≥ 0)) = false → ∃ (t9 : Option Addr) (t9n : Nat) (t9c : Nat), w4.cell? (⟨b1, 1, none⟩ : Addr) = some (.slice t9 t9n t9c) ∧ (∃ (t10 : Int), w4.cell? (⟨b1, 0, none⟩ : Addr) = some (.int .i64 t10) ∧ (((decide ((t9n : Int) ≥ t10)) = true → ∃ (t11 : Int) (t12 : Option Addr) (t12n : Nat) (t12c : Nat), CellsAt w4 (⟨b1, 0, none⟩ : Addr) 0 [.int .i64 t11, .slice t12 t12n t12c] ∧ (Has w4 (⟨b2, 0, none⟩ : Addr) 2 ∧ Free w4 (⟨b2, 0, none⟩ : Addr) 2 ∧ ∀ w6 : World, w6 = setCells w4 (⟨b2, 0, none⟩ : Addr) 0 [.int .i64 t11, .slice t12 t12n t12c] → (∃ (r10 : Int) (r11 : Option Addr) (r11n : Nat) (r11c : Nat), CellsAt w6 (⟨b2, 0, none⟩ : Addr) 0 [.int .i64 r10, .slice r11 r11n r11c] ∧ R r10 r11 r11n r11c 0 120 w6))) ∧ ((decide ((t9n : Int) ≥ t10)) = false → ∃ (t13 : Option Addr) (t13n : Nat) (t13c : Nat), w4.cell? (⟨b1, 1, none⟩ : Addr) = some (.slice t13 t13n t13c) ∧ (∃ (l1 : Option Addr) (l1n : Nat) (l1c : Nat) (w7 : World), (Builtin.append_ #[31, 31] 31 #[.slice none 0 0, .slice t13 t13n t13c]).run Try.prog w4 = .ok (.slice l1 l1n l1c) w7 ∧ (∀ b3 : Nat, b3 = World.size w7 → ∀ w8 : World, w8 = World.alloc w7 (.cells #[.int .u32 set1] 22) → (∃ (l2 : Option Addr) (l2n : Nat) (l2c : Nat) (w9 : World), (Builtin.append_ #[31, 31] 31 #[.slice l1 l1n l1c, .slice (some (⟨b3, 0, none⟩ : Addr)) 1 1]).run Try.prog w8 = .ok (.slice l2 l2n l2c) w9 ∧ ((∃ o : Value, w9.cell? (⟨b1, 1, none⟩ : Addr) = some o) ∧ w9.frozen? (⟨b1, 1, none⟩ : Addr) = false ∧ ∀ w10 : World, w10 = World.setCell w9 (⟨b1, 1, none⟩ : Addr) (.slice l2 l2n l2c) → (∀ w11 : World, w11 = World.drew w10 → ∃ (t14 : Int) (t15 : Option Addr) (t15n : Nat) (t15c : Nat), CellsAt w11 (⟨b1, 0, none⟩ : Addr) 0 [.int .i64 t14, .slice t15 t15n t15c] ∧ (∃ (t16 : Option Addr) (t16n : Nat) (t16c : Nat), w11.cell? (⟨b1, 1, none⟩ : Addr) = some (.slice t16 t16n t16c) ∧ (Has w11 (⟨b2, 0, none⟩ : Addr) 2 ∧ Free w11 (⟨b2, 0, none⟩ : Addr) 2 ∧ ∀ w12 : World, w12 = setCells w11 (⟨b2, 0, none⟩ : Addr) 0 [.int .i64 t14, .slice t15 t15n t15c] → ((CellsAt w12 (⟨b1, 0, none⟩ : Addr) 0 [.int .i64 t14, .slice t15 t15n t15c] ∧ w12.cell? (⟨b1, 1, none⟩ : Addr) = some (.slice t16 t16n t16c) ∧ True) ∧ (∃ (r12 : Int) (r13 : Option Addr) (r13n : Nat) (r13c : Nat), CellsAt w12 (⟨b2, 0, none⟩ : Addr) 0 [.int .i64 r12, .slice r13 r13n r13c] ∧ R r12 r13 r13n r13c (IntKind.wrap .i64 ((t16n : Int) - 1)) 0 w12))))))))))))))))))
set_option maxRecDepth 100000 in
theorem ok_pomanderref02_Table_Keep (t1 : Int) (t2 : Option Addr) (t2n : Nat) (t2c : Nat) (set1 : Int) (w : World) (R : Int → (Option Addr) → Nat → Nat → Int → Int → World → Prop) (h : V_pomanderref02_Table_Keep t1 t2 t2n t2c set1 w R) : Calls Try.prog 104 #[.agg #[.int .i64 t1, .slice t2 t2n t2c], .int .u32 set1] w (fun e w' => ∃ (r1 : Int) (r2 : Option Addr) (r2n : Nat) (r2c : Nat) (r3 : Int) (r4 : Int), e = .returned (.tuple #[.agg #[.int .i64 r1, .slice r2 r2n r2c], .int .i64 r3, .int .i64 r4]) ∧ R r1 r2 r2n r2c r3 r4 w') := by
  unfold V_pomanderref02_Table_Keep at h
  refine enter (N := 37) Try.func104 rfl rfl ?_
  refine CW.seq ?_
  refine CW.region fun L hL => ?_
  obtain ⟨b1, hb_b1⟩ : ∃ b1, b1 = World.size w := ⟨_, rfl⟩
  obtain ⟨w1, hw_w1⟩ : ∃ w1, w1 = World.alloc w (.cells #[.int .i64 t1, .slice t2 t2n t2c] 33) := ⟨_, rfl⟩
  replace h := h b1 hb_b1 w1 hw_w1
  refine LW.val hL rfl (Wants.free rfl) rfl (boxE hb_b1 hw_w1 (Vl.box (v := .agg #[.int .i64 t1, .slice t2 t2n t2c]) rfl)) ?_
  obtain ⟨b2, hb_b2⟩ : ∃ b2, b2 = World.size w1 := ⟨_, rfl⟩
  obtain ⟨w2, hw_w2⟩ : ∃ w2, w2 = World.alloc w1 (.cells #[.int .i64 0, .slice none 0 0] 33) := ⟨_, rfl⟩
  replace h := h b2 hb_b2 w2 hw_w2
  refine LW.val hL rfl (Wants.free rfl) rfl (boxE hb_b2 hw_w2 (Vl.alloc (z := .agg #[.int .i64 0, .slice none 0 0]) (by kernel_rfl))) ?_
  refine LW.rd hL rfl (Wants.free rfl) rfl (Rd.assign (v := .int .i64 0) rfl) ?_
  refine LW.rd hL rfl (Wants.free rfl) rfl (Rd.assign (v := .int .i64 0) rfl) ?_
  refine LW.nil hL rfl ?_
  refine NW.then ?_
  refine CW.seq ?_
  refine CW.seq ?_
  refine CW.region fun L hL => ?_
  refine LW.rd hL rfl (Wants.free rfl) rfl (Rd.move (v := .int .u32 set1) rfl) ?_
  refine LW.rd hL rfl (Wants.free rfl) rfl (Rd.bin (v := .bool (decide (set1 ≥ 65536))) rfl rfl (fun w => by kernel_rfl)) ?_
  refine LW.nil hL rfl ?_
  refine NW.then ?_
  refine CW.cond rfl (fun hb1 => ?_) (fun hb1 => ?_)
  · replace h := h.1 hb1
    refine CW.seq ?_
    refine CW.region fun L hL => ?_
    obtain ⟨t3, t4, t4n, t4c, hc1, h⟩ := h
    refine LW.rd hL rfl (Wants.free rfl) rfl (Rd.ldN (cs := [.int .i64 t3, .slice t4 t4n t4c]) rfl (by kernel_rfl) (by kernel_rfl) (cellsS hc1)) ?_
    obtain ⟨ho1, hf1, h⟩ := h
    obtain ⟨w3, hw_w3⟩ : ∃ w3, w3 = setCells w2 (⟨b2, 0, none⟩ : Addr) 0 [.int .i64 t3, .slice t4 t4n t4c] := ⟨_, rfl⟩
    replace h := h w3 hw_w3
    refine LW.eff hL rfl (Wants.free rfl) rfl (stNE hw_w3 (Ef.stN (cs := [.int .i64 t3, .slice t4 t4n t4c]) rfl rfl (by kernel_rfl) (List.forall_mem_cons.2 ⟨rfl, (List.forall_mem_cons.2 ⟨rfl, (List.forall_mem_nil _)⟩)⟩) ho1 hf1)) ?_
    refine LW.rd hL rfl (Wants.free rfl) rfl (Rd.assign (v := .int .i64 0) rfl) ?_
    refine LW.rd hL rfl (Wants.free rfl) rfl (Rd.assign (v := .int .i64 2) rfl) ?_
    refine LW.nil hL rfl ?_
    refine NW.then ?_
    refine CW.ret ?_
    refine RW.then ?_
    obtain ⟨r5, r6, r6n, r6c, hr1, h⟩ := h
    exact resN (vs := [.agg #[.int .i64 r5, .slice r6 r6n r6c], .int .i64 0, .int .i64 2]) (ResOK.c rfl (lvN (cs := [.int .i64 r5, .slice r6 r6n r6c]) (by kernel_rfl) (by kernel_rfl) (cellsAt_get hr1)) (ResOK.t rfl (ResOK.t rfl ResOK.nil))) rfl ⟨r5, r6, r6n, r6c, 0, 2, rfl, h⟩
  · replace h := h.2 hb1
    refine CW.skip ?_
    refine NW.then ?_
    refine CW.seq ?_
    refine CW.region fun L hL => ?_
    obtain ⟨t5, t6, t6n, t6c, hc2, h⟩ := h
    refine LW.rd hL rfl (Wants.free rfl) rfl (Rd.ldN (cs := [.int .i64 t5, .slice t6 t6n t6c]) rfl (by kernel_rfl) (by kernel_rfl) (cellsS hc2)) ?_
    refine LW.rd hL rfl (Wants.free rfl) rfl (Rd.move (v := .int .u32 set1) rfl) ?_
    refine LW.call hL rfl (Wants.free rfl) rfl (Cl.fn (f := 124) rfl Try.func124 (by kernel_rfl) rfl) h (fun e w4 h_ => ?_)
    clear h
    obtain ⟨r7, rfl, h⟩ := h_
    refine ⟨_, rfl, ?_⟩
    refine LW.rd hL rfl (Wants.free rfl) rfl (Rd.assign (v := .int .i64 r7) rfl) ?_
    refine LW.nil hL rfl ?_
    refine NW.then ?_
    refine CW.seq ?_
    refine CW.seq ?_
    refine CW.region fun L hL => ?_
    refine LW.rd hL rfl (Wants.free rfl) rfl (Rd.move (v := .int .i64 r7) rfl) ?_
    refine LW.rd hL rfl (Wants.free rfl) rfl (Rd.bin (v := .bool (decide (r7 ≥ 0))) rfl rfl (fun w => by kernel_rfl)) ?_
    refine LW.nil hL rfl ?_
    refine NW.then ?_
    refine CW.cond rfl (fun hb2 => ?_) (fun hb2 => ?_)
    · replace h := h.1 hb2
      refine CW.seq ?_
      refine CW.region fun L hL => ?_
      obtain ⟨t7, t8, t8n, t8c, hc3, h⟩ := h
      refine LW.rd hL rfl (Wants.free rfl) rfl (Rd.ldN (cs := [.int .i64 t7, .slice t8 t8n t8c]) rfl (by kernel_rfl) (by kernel_rfl) (cellsS hc3)) ?_
      refine LW.rd hL rfl (Wants.free rfl) rfl (Rd.move (v := .int .i64 r7) rfl) ?_
      obtain ⟨ho2, hf2, h⟩ := h
      obtain ⟨w5, hw_w5⟩ : ∃ w5, w5 = setCells w4 (⟨b2, 0, none⟩ : Addr) 0 [.int .i64 t7, .slice t8 t8n t8c] := ⟨_, rfl⟩
      replace h := h w5 hw_w5
      refine LW.eff hL rfl (Wants.free rfl) rfl (stNE hw_w5 (Ef.stN (cs := [.int .i64 t7, .slice t8 t8n t8c]) rfl rfl (by kernel_rfl) (List.forall_mem_cons.2 ⟨rfl, (List.forall_mem_cons.2 ⟨rfl, (List.forall_mem_nil _)⟩)⟩) ho2 hf2)) ?_
      refine LW.rd hL rfl (Wants.free rfl) rfl (Rd.assign (v := .int .i64 r7) rfl) ?_
      refine LW.rd hL rfl (Wants.free rfl) rfl (Rd.assign (v := .int .i64 0) rfl) ?_
      refine LW.nil hL rfl ?_
      refine NW.then ?_
      refine CW.ret ?_
      refine RW.then ?_
      obtain ⟨r8, r9, r9n, r9c, hr2, h⟩ := h
      exact resN (vs := [.agg #[.int .i64 r8, .slice r9 r9n r9c], .int .i64 r7, .int .i64 0]) (ResOK.c rfl (lvN (cs := [.int .i64 r8, .slice r9 r9n r9c]) (by kernel_rfl) (by kernel_rfl) (cellsAt_get hr2)) (ResOK.t rfl (ResOK.t rfl ResOK.nil))) rfl ⟨r8, r9, r9n, r9c, r7, 0, rfl, h⟩
    · replace h := h.2 hb2
      refine CW.skip ?_
      refine NW.then ?_
      refine CW.seq ?_
      refine CW.seq ?_
      refine CW.region fun L hL => ?_
      refine LW.rd hL rfl (Wants.free rfl) rfl (Rd.fa (v := .pointer (some (⟨b1, 1, none⟩ : Addr))) rfl (fun _ => by kernel_rfl)) ?_
      obtain ⟨t9, t9n, t9c, hc4, h⟩ := h
      refine LW.rd hL rfl (Wants.free rfl) rfl (Rd.ld (v := .slice t9 t9n t9c) rfl (by kernel_rfl) (eqs hc4)) ?_
      refine LW.rd hL rfl (Wants.free rfl) rfl (Rd.builtin (v := .int .i64 (t9n : Int)) rfl (fun _ _ => by kernel_rfl)) ?_
      refine LW.rd hL rfl (Wants.free rfl) rfl (Rd.fa (v := .pointer (some (⟨b1, 0, none⟩ : Addr))) rfl (fun _ => by kernel_rfl)) ?_
      obtain ⟨t10, hc5, h⟩ := h
      refine LW.rd hL rfl (Wants.free rfl) rfl (Rd.ld (v := .int .i64 t10) rfl (by kernel_rfl) (eqs hc5)) ?_
      refine LW.rd hL rfl (Wants.free rfl) rfl (Rd.bin (v := .bool (decide ((t9n : Int) ≥ t10))) rfl rfl (fun w => by kernel_rfl)) ?_
      refine LW.nil hL rfl ?_
      refine NW.then ?_
      refine CW.cond rfl (fun hb3 => ?_) (fun hb3 => ?_)
      · replace h := h.1 hb3
        refine CW.seq ?_
        refine CW.region fun L hL => ?_
        obtain ⟨t11, t12, t12n, t12c, hc6, h⟩ := h
        refine LW.rd hL rfl (Wants.free rfl) rfl (Rd.ldN (cs := [.int .i64 t11, .slice t12 t12n t12c]) rfl (by kernel_rfl) (by kernel_rfl) (cellsS hc6)) ?_
        obtain ⟨ho3, hf3, h⟩ := h
        obtain ⟨w6, hw_w6⟩ : ∃ w6, w6 = setCells w4 (⟨b2, 0, none⟩ : Addr) 0 [.int .i64 t11, .slice t12 t12n t12c] := ⟨_, rfl⟩
        replace h := h w6 hw_w6
        refine LW.eff hL rfl (Wants.free rfl) rfl (stNE hw_w6 (Ef.stN (cs := [.int .i64 t11, .slice t12 t12n t12c]) rfl rfl (by kernel_rfl) (List.forall_mem_cons.2 ⟨rfl, (List.forall_mem_cons.2 ⟨rfl, (List.forall_mem_nil _)⟩)⟩) ho3 hf3)) ?_
        refine LW.rd hL rfl (Wants.free rfl) rfl (Rd.assign (v := .int .i64 0) rfl) ?_
        refine LW.rd hL rfl (Wants.free rfl) rfl (Rd.assign (v := .int .i64 120) rfl) ?_
        refine LW.nil hL rfl ?_
        refine NW.then ?_
        refine CW.ret ?_
        refine RW.then ?_
        obtain ⟨r10, r11, r11n, r11c, hr3, h⟩ := h
        exact resN (vs := [.agg #[.int .i64 r10, .slice r11 r11n r11c], .int .i64 0, .int .i64 120]) (ResOK.c rfl (lvN (cs := [.int .i64 r10, .slice r11 r11n r11c]) (by kernel_rfl) (by kernel_rfl) (cellsAt_get hr3)) (ResOK.t rfl (ResOK.t rfl ResOK.nil))) rfl ⟨r10, r11, r11n, r11c, 0, 120, rfl, h⟩
      · replace h := h.2 hb3
        refine CW.skip ?_
        refine NW.then ?_
        refine CW.seq ?_
        refine CW.region fun L hL => ?_
        refine LW.rd hL rfl (Wants.free rfl) rfl (Rd.fa (v := .pointer (some (⟨b1, 1, none⟩ : Addr))) rfl (fun _ => by kernel_rfl)) ?_
        obtain ⟨t13, t13n, t13c, hc7, h⟩ := h
        refine LW.rd hL rfl (Wants.free rfl) rfl (Rd.ld (v := .slice t13 t13n t13c) rfl (by kernel_rfl) (eqs hc7)) ?_
        obtain ⟨l1, l1n, l1c, w7, ha1, h⟩ := h
        refine LW.val hL rfl (Wants.free rfl) rfl (Vl.builtin (v := .slice l1 l1n l1c) rfl (valB ha1)) ?_
        refine LW.rd hL rfl (Wants.free rfl) rfl (Rd.move (v := .int .u32 set1) rfl) ?_
        obtain ⟨b3, hb_b3⟩ : ∃ b3, b3 = World.size w7 := ⟨_, rfl⟩
        obtain ⟨w8, hw_w8⟩ : ∃ w8, w8 = World.alloc w7 (.cells #[.int .u32 set1] 22) := ⟨_, rfl⟩
        replace h := h b3 hb_b3 w8 hw_w8
        refine LW.val hL rfl (Wants.free rfl) rfl (sliceE (n := 1) hb_b3 hw_w8 (fun w => Vl.buildSlice (vs := [(0, .int .u32 set1)]) rfl (by kernel_rfl))) ?_
        obtain ⟨l2, l2n, l2c, w9, ha2, h⟩ := h
        refine LW.val hL rfl (Wants.free rfl) rfl (Vl.builtin (v := .slice l2 l2n l2c) rfl (valB ha2)) ?_
        refine LW.rd hL rfl (Wants.free rfl) rfl (Rd.fa (v := .pointer (some (⟨b1, 1, none⟩ : Addr))) rfl (fun _ => by kernel_rfl)) ?_
        obtain ⟨⟨o_w10, ho4⟩, hf4, h⟩ := h
        obtain ⟨w10, hw_w10⟩ : ∃ w10, w10 = World.setCell w9 (⟨b1, 1, none⟩ : Addr) (.slice l2 l2n l2c) := ⟨_, rfl⟩
        replace h := h w10 hw_w10
        refine LW.eff hL rfl (Wants.free rfl) rfl (stE hw_w10 (Ef.st rfl rfl rfl (by kernel_rfl) ho4 hf4)) ?_
        refine LW.nil hL rfl ?_
        refine NW.then ?_
        refine CW.seq ?_
        replace h := h _ rfl
        obtain ⟨t14, t15, t15n, t15c, hc8, h⟩ := h
        obtain ⟨t16, t16n, t16c, hc9, h⟩ := h
        refine CW.drawn (fun w => CellsAt w (⟨b1, 0, none⟩ : Addr) 0 [.int .i64 t14, .slice t15 t15n t15c] ∧ w.cell? (⟨b1, 1, none⟩ : Addr) = some (.slice t16 t16n t16c) ∧ True) 8 (by kernel_rfl) fun H hH => ?_
        generalize World.drew _ = w11 at *
        have hS1 : CellsAt w11 (⟨b1, 0, none⟩ : Addr) 0 [.int .i64 t14, .slice t15 t15n t15c] ∧ w11.cell? (⟨b1, 1, none⟩ : Addr) = some (.slice t16 t16n t16c) ∧ True := ⟨hc8, hc9, trivial⟩
        refine HW.take (i := 0) hH rfl (by kernel_rfl) (by kernel_rfl) (Wants.free rfl) rfl (fun _ => hS1) (Rd.ldN (cs := [.int .i64 t14, .slice t15 t15n t15c]) rfl (by kernel_rfl) (by kernel_rfl) (fun w h => cellsAt_get h.1)) ?_
        refine HW.pure (i := 1) hH rfl (by kernel_rfl) (Wants.free rfl) rfl (fun _ => hS1) (Rd.fa (v := .pointer (some (⟨b1, 1, none⟩ : Addr))) rfl (fun _ => by kernel_rfl)) ?_
        refine HW.take (i := 2) hH rfl (by kernel_rfl) (by kernel_rfl) (Wants.free rfl) rfl (fun _ => hS1) (Rd.ld (v := .slice t16 t16n t16c) rfl (by kernel_rfl) (fun w h => h.2.1)) ?_
        refine HW.pure (i := 3) hH rfl (by kernel_rfl) (Wants.free rfl) rfl (fun _ => hS1) (Rd.builtin (v := .int .i64 (t16n : Int)) rfl (fun _ _ => by kernel_rfl)) ?_
        refine HW.pure (i := 4) hH rfl (by kernel_rfl) (Wants.free rfl) rfl (fun _ => hS1) (Rd.bin (v := .int .i64 (IntKind.wrap .i64 ((t16n : Int) - 1))) rfl rfl (fun w => by kernel_rfl)) ?_
        obtain ⟨ho5, hf5, h⟩ := h
        obtain ⟨w12, hw_w12⟩ : ∃ w12, w12 = setCells w11 (⟨b2, 0, none⟩ : Addr) 0 [.int .i64 t14, .slice t15 t15n t15c] := ⟨_, rfl⟩
        replace h := h w12 hw_w12
        obtain ⟨hS2, h⟩ := h
        refine HW.eff (i := 5) hH (by kernel_rfl) rfl (Wants.free rfl) rfl (stNE hw_w12 (Ef.stN (cs := [.int .i64 t14, .slice t15 t15n t15c]) rfl rfl (by kernel_rfl) (List.forall_mem_cons.2 ⟨rfl, (List.forall_mem_cons.2 ⟨rfl, (List.forall_mem_nil _)⟩)⟩) ho5 hf5)) (fun _ => hS2) ?_
        refine HW.pure (i := 6) hH rfl (by kernel_rfl) (Wants.free rfl) rfl (fun _ => hS2) (Rd.assign (v := .int .i64 (IntKind.wrap .i64 ((t16n : Int) - 1))) rfl) ?_
        refine HW.pure (i := 7) hH rfl (by kernel_rfl) (Wants.free rfl) rfl (fun _ => hS2) (Rd.assign (v := .int .i64 0) rfl) ?_
        refine HW.done hH (by kernel_rfl) ?_
        refine NW.then ?_
        refine CW.ret ?_
        obtain ⟨r12, r13, r13n, r13c, hr4, h⟩ := h
        exact resN (vs := [.agg #[.int .i64 r12, .slice r13 r13n r13c], .int .i64 (IntKind.wrap .i64 ((t16n : Int) - 1)), .int .i64 0]) (ResOK.c rfl (lvN (cs := [.int .i64 r12, .slice r13 r13n r13c]) (by kernel_rfl) (by kernel_rfl) (cellsAt_get hr4)) (ResOK.t rfl (ResOK.t rfl ResOK.nil))) rfl ⟨r12, r13, r13n, r13c, IntKind.wrap .i64 ((t16n : Int) - 1), 0, rfl, h⟩

/- (pomander/pomanderref12.Flow).Put -/
def V_pomanderref12_Flow_Put (f1 : Int) (f2 : Int) (f3 : Int) (f4 : Option Addr) (f4n : Nat) (f4c : Nat) (f5 : Option Addr) (f5n : Nat) (f5c : Nat) (p1 : Int) (p2 : Int) (set1 : Int) (w : World) (R : Int → Int → Int → (Option Addr) → Nat → Nat → (Option Addr) → Nat → Nat → World → Prop) : Prop :=
  ∀ b1 : Nat, b1 = World.size w → ∀ w1 : World, w1 = World.alloc w (.cells #[.int .i64 f1, .int .i64 f2, .int .i64 f3, .slice f4 f4n f4c, .slice f5 f5n f5c] 36) → (∀ b2 : Nat, b2 = World.size w1 → ∀ w2 : World, w2 = World.alloc w1 (.cells #[.int .i64 p1, .int .i64 p2] 56) → (∀ b3 : Nat, b3 = World.size w2 → ∀ w3 : World, w3 = World.alloc w2 (.cells #[.int .i64 0, .int .i64 0, .int .i64 0, .slice none 0 0, .slice none 0 0] 36) → (∃ (I1 : (Option Addr) × Nat × Nat × Bool × Int → World → Prop) (m1 : (Option Addr) × Nat × Nat × Bool × Int → World → Nat), I1 (none, 0, 0, set1 == 0, 0) w3 ∧ ∀ (s1 : (Option Addr) × Nat × Nat × Bool × Int) (w4 : World), I1 s1 w4 → ∃ (t1 : Option Addr) (t1n : Nat) (t1c : Nat), w4.cell? (⟨b1, 4, none⟩ : Addr) = some (.slice t1 t1n t1c) ∧ (((decide (s1.2.2.2.2 < (t1n : Int))) = true → ∃ J1 : (Option Addr) × Nat × Nat × Bool → World → Prop, (∀ (s2 : (Option Addr) × Nat × Nat × Bool) (w5 : World), J1 s2 w5 → (I1 (s2.1, s2.2.1, s2.2.2.1, s2.2.2.2, IntKind.wrap .i64 (s1.2.2.2.2 + 1)) w5 ∧ m1 (s2.1, s2.2.1, s2.2.2.1, s2.2.2.2, IntKind.wrap .i64 (s1.2.2.2.2 + 1)) w5 < m1 s1 w4)) ∧ (∃ (t2 : Option Addr) (t2n : Nat) (t2c : Nat), w4.cell? (⟨b1, 4, none⟩ : Addr) = some (.slice t2 t2n t2c) ∧ (∃ a1 : Addr, t2 = some a1 ∧ (0 : Int) ≤ s1.2.2.2.2 ∧ s1.2.2.2.2 < (t2n : Int) ∧ (∃ (t3 : Int) (t4 : Int) (t5 : Int), CellsAt w4 (a1.add (Int.toNat s1.2.2.2.2 * 3)) 0 [.int .i64 t3, .int .i64 t4, .int .u32 t5] ∧ (∀ b4 : Nat, b4 = World.size w4 → ∀ w6 : World, w6 = World.alloc w4 (.cells #[.int .i64 0, .int .i64 0, .int .u32 0] 149) → (Has w6 (⟨b4, 0, none⟩ : Addr) 3 ∧ Free w6 (⟨b4, 0, none⟩ : Addr) 3 ∧ ∀ w7 : World, w7 = setCells w6 (⟨b4, 0, none⟩ : Addr) 0 [.int .i64 t3, .int .i64 t4, .int .u32 t5] → (∃ J2 : (Option Addr) × Nat × Nat × Bool → World → Prop, (∀ (s3 : (Option Addr) × Nat × Nat × Bool) (w8 : World), J2 s3 w8 → ∃ J3 : (Option Addr) × Nat × Nat → World → Prop, (∀ (s4 : (Option Addr) × Nat × Nat) (w9 : World), J3 s4 w9 → ∃ (t6 : Int) (t7 : Int), CellsAt w9 (⟨b4, 0, none⟩ : Addr) 0 [.int .i64 t6, .int .i64 t7] ∧ (∃ (t8 : Int) (t9 : Int), CellsAt w9 (⟨b2, 0, none⟩ : Addr) 0 [.int .i64 t8, .int .i64 t9] ∧ ((((t6 == t8) && (t7 == t9) && !s3.2.2.2) = true → ∃ (t10 : Int) (t11 : Int), CellsAt w9 (⟨b2, 0, none⟩ : Addr) 0 [.int .i64 t10, .int .i64 t11] ∧ (∀ b5 : Nat, b5 = World.size w9 → ∀ w10 : World, w10 = World.alloc w9 (.cells #[.int .i64 t10, .int .i64 t11, .int .u32 set1] 149) → (∃ (l1 : Option Addr) (l1n : Nat) (l1c : Nat) (w11 : World), (Builtin.append_ #[34, 34] 34 #[.slice s4.1 s4.2.1 s4.2.2, .slice (some (⟨b5, 0, none⟩ : Addr)) 1 1]).run Try.prog w10 = .ok (.slice l1 l1n l1c) w11 ∧ (J1 (l1, l1n, l1c, true) w11)))) ∧ (((t6 == t8) && (t7 == t9) && !s3.2.2.2) = false → J1 (s4.1, s4.2.1, s4.2.2, s3.2.2.2) w9)))) ∧ (∃ (t12 : Int) (t13 : Int), CellsAt w8 (⟨b4, 0, none⟩ : Addr) 0 [.int .i64 t12, .int .i64 t13] ∧ (∃ (t14 : Int) (t15 : Int), CellsAt w8 (⟨b2, 0, none⟩ : Addr) 0 [.int .i64 t14, .int .i64 t15] ∧ (((!((t12 == t14) && (t13 == t15))) = true → ∃ (t16 : Int) (t17 : Int) (t18 : Int), CellsAt w8 (⟨b4, 0, none⟩ : Addr) 0 [.int .i64 t16, .int .i64 t17, .int .u32 t18] ∧ (∀ b6 : Nat, b6 = World.size w8 → ∀ w12 : World, w12 = World.alloc w8 (.cells #[.int .i64 t16, .int .i64 t17, .int .u32 t18] 149) → (∃ (l2 : Option Addr) (l2n : Nat) (l2c : Nat) (w13 : World), (Builtin.append_ #[34, 34] 34 #[.slice s3.1 s3.2.1 s3.2.2.1, .slice (some (⟨b6, 0, none⟩ : Addr)) 1 1]).run Try.prog w12 = .ok (.slice l2 l2n l2c) w13 ∧ (J3 (l2, l2n, l2c) w13)))) ∧ ((!((t12 == t14) && (t13 == t15))) = false → J3 (s3.1, s3.2.1, s3.2.2.1) w8))))) ∧ (∃ J4 : Bool → World → Prop, (∀ (b7 : Bool) (w14 : World), J4 b7 w14 → (b7 = true → ∃ (t23 : Int) (t24 : Int), CellsAt w14 (⟨b2, 0, none⟩ : Addr) 0 [.int .i64 t23, .int .i64 t24] ∧ (∀ b8 : Nat, b8 = World.size w14 → ∀ w16 : World, w16 = World.alloc w14 (.cells #[.int .i64 t23, .int .i64 t24, .int .u32 set1] 149) → (∃ (l3 : Option Addr) (l3n : Nat) (l3c : Nat) (w17 : World), (Builtin.append_ #[34, 34] 34 #[.slice s1.1 s1.2.1 s1.2.2.1, .slice (some (⟨b8, 0, none⟩ : Addr)) 1 1]).run Try.prog w16 = .ok (.slice l3 l3n l3c) w17 ∧ (J2 (l3, l3n, l3c, true) w17)))) ∧ (b7 = false → J2 (s1.1, s1.2.1, s1.2.2.1, s1.2.2.2.1) w14)) ∧ (((!s1.2.2.2.1) = true → ∃ (t19 : Int) (t20 : Int), CellsAt w7 (⟨b2, 0, none⟩ : Addr) 0 [.int .i64 t19, .int .i64 t20] ∧ (∃ (t21 : Int) (t22 : Int), CellsAt w7 (⟨b4, 0, none⟩ : Addr) 0 [.int .i64 t21, .int .i64 t22] ∧ (Calls Try.prog 125 #[.agg #[.int .i64 t19, .int .i64 t20], .agg #[.int .i64 t21, .int .i64 t22]] w7 fun e w15 => ∃ (r6 : Bool), e = .returned (.bool r6) ∧ (J4 r6 w15)))) ∧ ((!s1.2.2.2.1) = false → J4 false w7)))))))))) ∧ ((decide (s1.2.2.2.2 < (t1n : Int))) = false → ∃ J5 : (Option Addr) × Nat × Nat → World → Prop, (∀ (s5 : (Option Addr) × Nat × Nat) (w18 : World), J5 s5 w18 → (∃ o : Value, w18.cell? (⟨b1, 4, none⟩ : Addr) = some o) ∧ w18.frozen? (⟨b1, 4, none⟩ : Addr) = false ∧ ∀ w19 : World, w19 = World.setCell w18 (⟨b1, 4, none⟩ : Addr) (.slice s5.1 s5.2.1 s5.2.2) → (∃ (t25 : Int) (t26 : Int) (t27 : Int) (t28 : Option Addr) (t28n : Nat) (t28c : Nat) (t29 : Option Addr) (t29n : Nat) (t29c : Nat), CellsAt w19 (⟨b1, 0, none⟩ : Addr) 0 [.int .i64 t25, .int .i64 t26, .int .i64 t27, .slice t28 t28n t28c, .slice t29 t29n t29c] ∧ (Has w19 (⟨b3, 0, none⟩ : Addr) 5 ∧ Free w19 (⟨b3, 0, none⟩ : Addr) 5 ∧ ∀ w20 : World, w20 = setCells w19 (⟨b3, 0, none⟩ : Addr) 0 [.int .i64 t25, .int .i64 t26, .int .i64 t27, .slice t28 t28n t28c, .slice t29 t29n t29c] → (∃ (r7 : Int) (r8 : Int) (r9 : Int) (r10 : Option Addr) (r10n : Nat) (r10c : Nat) (r11 : Option Addr) (r11n : Nat) (r11c : Nat), CellsAt w20 (⟨b3, 0, none⟩ : Addr) 0 [.int .i64 r7, .int .i64 r8, .int .i64 r9, .slice r10 r10n r10c, .slice r11 r11n r11c] ∧ R r7 r8 r9 r10 r10n r10c r11 r11n r11c w20)))) ∧ (((!s1.2.2.2.1) = true → ∃ (t30 : Int) (t31 : Int), CellsAt w4 (⟨b2, 0, none⟩ : Addr) 0 [.int .i64 t30, .int .i64 t31] ∧ (∀ b9 : Nat, b9 = World.size w4 → ∀ w21 : World, w21 = World.alloc w4 (.cells #[.int .i64 t30, .int .i64 t31, .int .u32 set1] 149) → (∃ (l4 : Option Addr) (l4n : Nat) (l4c : Nat) (w22 : World), (Builtin.append_ #[34, 34] 34 #[.slice s1.1 s1.2.1 s1.2.2.1, .slice (some (⟨b9, 0, none⟩ : Addr)) 1 1]).run Try.prog w21 = .ok (.slice l4 l4n l4c) w22 ∧ (J5 (l4, l4n, l4c) w22)))) ∧ ((!s1.2.2.2.1) = false → J5 (s1.1, s1.2.1, s1.2.2.1) w4)))))))
set_option maxRecDepth 100000 in
theorem ok_pomanderref12_Flow_Put (f1 : Int) (f2 : Int) (f3 : Int) (f4 : Option Addr) (f4n : Nat) (f4c : Nat) (f5 : Option Addr) (f5n : Nat) (f5c : Nat) (p1 : Int) (p2 : Int) (set1 : Int) (w : World) (R : Int → Int → Int → (Option Addr) → Nat → Nat → (Option Addr) → Nat → Nat → World → Prop) (h : V_pomanderref12_Flow_Put f1 f2 f3 f4 f4n f4c f5 f5n f5c p1 p2 set1 w R) : Calls Try.prog 105 #[.agg #[.int .i64 f1, .int .i64 f2, .int .i64 f3, .slice f4 f4n f4c, .slice f5 f5n f5c], .agg #[.int .i64 p1, .int .i64 p2], .int .u32 set1] w (fun e w' => ∃ (r1 : Int) (r2 : Int) (r3 : Int) (r4 : Option Addr) (r4n : Nat) (r4c : Nat) (r5 : Option Addr) (r5n : Nat) (r5c : Nat), e = .returned (.agg #[.int .i64 r1, .int .i64 r2, .int .i64 r3, .slice r4 r4n r4c, .slice r5 r5n r5c]) ∧ R r1 r2 r3 r4 r4n r4c r5 r5n r5c w') := by
  unfold V_pomanderref12_Flow_Put at h
  refine enter (N := 72) Try.func105 rfl rfl ?_
  refine CW.seq ?_
  refine CW.region fun L hL => ?_
  obtain ⟨b1, hb_b1⟩ : ∃ b1, b1 = World.size w := ⟨_, rfl⟩
  obtain ⟨w1, hw_w1⟩ : ∃ w1, w1 = World.alloc w (.cells #[.int .i64 f1, .int .i64 f2, .int .i64 f3, .slice f4 f4n f4c, .slice f5 f5n f5c] 36) := ⟨_, rfl⟩
  replace h := h b1 hb_b1 w1 hw_w1
  refine LW.val hL rfl (Wants.free rfl) rfl (boxE hb_b1 hw_w1 (Vl.box (v := .agg #[.int .i64 f1, .int .i64 f2, .int .i64 f3, .slice f4 f4n f4c, .slice f5 f5n f5c]) rfl)) ?_
  obtain ⟨b2, hb_b2⟩ : ∃ b2, b2 = World.size w1 := ⟨_, rfl⟩
  obtain ⟨w2, hw_w2⟩ : ∃ w2, w2 = World.alloc w1 (.cells #[.int .i64 p1, .int .i64 p2] 56) := ⟨_, rfl⟩
  replace h := h b2 hb_b2 w2 hw_w2
  refine LW.val hL rfl (Wants.free rfl) rfl (boxE hb_b2 hw_w2 (Vl.box (v := .agg #[.int .i64 p1, .int .i64 p2]) rfl)) ?_
  obtain ⟨b3, hb_b3⟩ : ∃ b3, b3 = World.size w2 := ⟨_, rfl⟩
  obtain ⟨w3, hw_w3⟩ : ∃ w3, w3 = World.alloc w2 (.cells #[.int .i64 0, .int .i64 0, .int .i64 0, .slice none 0 0, .slice none 0 0] 36) := ⟨_, rfl⟩
  replace h := h b3 hb_b3 w3 hw_w3
  refine LW.val hL rfl (Wants.free rfl) rfl (boxE hb_b3 hw_w3 (Vl.alloc (z := .agg #[.int .i64 0, .int .i64 0, .int .i64 0, .slice none 0 0, .slice none 0 0]) (by kernel_rfl))) ?_
  refine LW.nil hL rfl ?_
  refine NW.then ?_
  refine CW.seq ?_
  refine CW.region fun L hL => ?_
  refine LW.rd hL rfl (Wants.free rfl) rfl (Rd.assign (v := .slice none 0 0) rfl) ?_
  refine LW.nil hL rfl ?_
  refine NW.then ?_
  refine CW.seq ?_
  refine CW.region fun L hL => ?_
  refine LW.rd hL rfl (Wants.free rfl) rfl (Rd.move (v := .int .u32 set1) rfl) ?_
  refine LW.rd hL rfl (Wants.free rfl) rfl (Rd.bin (v := .bool (set1 == 0)) rfl rfl (fun w => by kernel_rfl)) ?_
  refine LW.rd hL rfl (Wants.free rfl) rfl (Rd.assign (v := .bool (set1 == 0)) rfl) ?_
  refine LW.nil hL rfl ?_
  refine NW.then ?_
  refine CW.seq ?_
  refine CW.seq ?_
  refine CW.region fun L hL => ?_
  refine LW.rd hL rfl (Wants.free rfl) rfl (Rd.assign (v := .int .i64 0) rfl) ?_
  refine LW.nil hL rfl ?_
  refine NW.then ?_
  refine CW.block ?_
  obtain ⟨I1, m1, hI1, h⟩ := h
  refine CW.loop (S := (Option Addr) × Nat × Nat × Bool × Int) (fun s1 => [(2, .int .u32 set1), (3, .pointer (some (⟨b1, 0, none⟩ : Addr))), (4, .pointer (some (⟨b2, 0, none⟩ : Addr))), (6, .pointer (some (⟨b3, 0, none⟩ : Addr))), (7, .slice s1.1 s1.2.1 s1.2.2.1), (8, .bool s1.2.2.2.1), (9, .int .i64 s1.2.2.2.2)]) I1 m1 (none, 0, 0, set1 == 0, 0) (by exact ⟨rfl, rfl, rfl, rfl, rfl, rfl, rfl, trivial⟩) hI1 (fun s1 w4 hI1 => ?_)
  replace h := h s1 w4 hI1
  refine CW.seq ?_
  refine CW.seq ?_
  refine CW.region fun L hL => ?_
  refine LW.rd hL rfl (Wants.free rfl) rfl (Rd.move (v := .int .i64 s1.2.2.2.2) rfl) ?_
  refine LW.rd hL rfl (Wants.free rfl) rfl (Rd.fa (v := .pointer (some (⟨b1, 4, none⟩ : Addr))) rfl (fun _ => by kernel_rfl)) ?_
  obtain ⟨t1, t1n, t1c, hc1, h⟩ := h
  refine LW.rd hL rfl (Wants.free rfl) rfl (Rd.ld (v := .slice t1 t1n t1c) rfl (by kernel_rfl) (eqs hc1)) ?_
  refine LW.rd hL rfl (Wants.free rfl) rfl (Rd.builtin (v := .int .i64 (t1n : Int)) rfl (fun _ _ => by kernel_rfl)) ?_
  refine LW.rd hL rfl (Wants.free rfl) rfl (Rd.bin (v := .bool (decide (s1.2.2.2.2 < (t1n : Int)))) rfl rfl (fun w => by kernel_rfl)) ?_
  refine LW.nil hL rfl ?_
  refine NW.then ?_
  refine CW.cond rfl (fun hb1 => ?_) (fun hb1 => ?_)
  · replace h := h.1 hb1
    refine CW.skip ?_
    refine NW.then ?_
    obtain ⟨J1, hJ1, h⟩ := h
    refine CW.cut (S := (Option Addr) × Nat × Nat × Bool) (fun s2 => [(2, .int .u32 set1), (3, .pointer (some (⟨b1, 0, none⟩ : Addr))), (4, .pointer (some (⟨b2, 0, none⟩ : Addr))), (6, .pointer (some (⟨b3, 0, none⟩ : Addr))), (9, .int .i64 s1.2.2.2.2), (7, .slice s2.1 s2.2.1 s2.2.2.1), (8, .bool s2.2.2.2)]) J1 (fun s2 w5 h_ => ?_) ?_
    · replace h := hJ1 s2 w5 h_; clear h_
      refine CW.region fun L hL => ?_
      refine LW.rd hL rfl (Wants.free rfl) rfl (Rd.move (v := .int .i64 s1.2.2.2.2) rfl) ?_
      refine LW.rd hL rfl (Wants.free rfl) rfl (Rd.bin (v := .int .i64 (IntKind.wrap .i64 (s1.2.2.2.2 + 1))) rfl rfl (fun w => by kernel_rfl)) ?_
      refine LW.rd hL rfl (Wants.free rfl) rfl (Rd.assign (v := .int .i64 (IntKind.wrap .i64 (s1.2.2.2.2 + 1))) rfl) ?_
      refine LW.nil hL rfl ?_
      exact NW.loop (S := (Option Addr) × Nat × Nat × Bool × Int) (Ek := fun s1 => [(2, .int .u32 set1), (3, .pointer (some (⟨b1, 0, none⟩ : Addr))), (4, .pointer (some (⟨b2, 0, none⟩ : Addr))), (6, .pointer (some (⟨b3, 0, none⟩ : Addr))), (7, .slice s1.1 s1.2.1 s1.2.2.1), (8, .bool s1.2.2.2.1), (9, .int .i64 s1.2.2.2.2)]) (s2.1, s2.2.1, s2.2.2.1, s2.2.2.2, IntKind.wrap .i64 (s1.2.2.2.2 + 1)) (by exact ⟨rfl, rfl, rfl, rfl, rfl, rfl, rfl, trivial⟩) h
    · skip
      refine CW.block ?_
      refine CW.seq ?_
      refine CW.region fun L hL => ?_
      refine LW.rd hL rfl (Wants.free rfl) rfl (Rd.fa (v := .pointer (some (⟨b1, 4, none⟩ : Addr))) rfl (fun _ => by kernel_rfl)) ?_
      obtain ⟨t2, t2n, t2c, hc2, h⟩ := h
      refine LW.rd hL rfl (Wants.free rfl) rfl (Rd.ld (v := .slice t2 t2n t2c) rfl (by kernel_rfl) (eqs hc2)) ?_
      refine LW.rd hL rfl (Wants.free rfl) rfl (Rd.move (v := .int .i64 s1.2.2.2.2) rfl) ?_
      obtain ⟨a1, he1, hi1, hi2, h⟩ := h
      refine LW.rd hL rfl (Wants.free rfl) rfl (Rd.iaS (q := a1) (sz := 3) (by rw [← he1]; rfl) rfl Try.underlying34 (by kernel_rfl) hi1 hi2) ?_
      obtain ⟨t3, t4, t5, hc3, h⟩ := h
      refine LW.rd hL rfl (Wants.free rfl) rfl (Rd.ldN (cs := [.int .i64 t3, .int .i64 t4, .int .u32 t5]) rfl (by kernel_rfl) (by kernel_rfl) (cellsS hc3)) ?_
      obtain ⟨b4, hb_b4⟩ : ∃ b4, b4 = World.size w4 := ⟨_, rfl⟩
      obtain ⟨w6, hw_w6⟩ : ∃ w6, w6 = World.alloc w4 (.cells #[.int .i64 0, .int .i64 0, .int .u32 0] 149) := ⟨_, rfl⟩
      replace h := h b4 hb_b4 w6 hw_w6
      refine LW.val hL rfl (Wants.free rfl) rfl (boxE hb_b4 hw_w6 (Vl.alloc (z := .agg #[.int .i64 0, .int .i64 0, .int .u32 0]) (by kernel_rfl))) ?_
      obtain ⟨ho1, hf1, h⟩ := h
      obtain ⟨w7, hw_w7⟩ : ∃ w7, w7 = setCells w6 (⟨b4, 0, none⟩ : Addr) 0 [.int .i64 t3, .int .i64 t4, .int .u32 t5] := ⟨_, rfl⟩
      replace h := h w7 hw_w7
      refine LW.eff hL rfl (Wants.free rfl) rfl (stNE hw_w7 (Ef.stN (cs := [.int .i64 t3, .int .i64 t4, .int .u32 t5]) rfl rfl (by kernel_rfl) (List.forall_mem_cons.2 ⟨rfl, (List.forall_mem_cons.2 ⟨rfl, (List.forall_mem_cons.2 ⟨rfl, (List.forall_mem_nil _)⟩)⟩)⟩) ho1 hf1)) ?_
      refine LW.nil hL rfl ?_
      refine NW.then ?_
      obtain ⟨J2, hJ2, h⟩ := h
      refine CW.cut (S := (Option Addr) × Nat × Nat × Bool) (fun s3 => [(2, .int .u32 set1), (3, .pointer (some (⟨b1, 0, none⟩ : Addr))), (4, .pointer (some (⟨b2, 0, none⟩ : Addr))), (6, .pointer (some (⟨b3, 0, none⟩ : Addr))), (9, .int .i64 s1.2.2.2.2), (10, .pointer (some (⟨b4, 0, none⟩ : Addr))), (7, .slice s3.1 s3.2.1 s3.2.2.1), (8, .bool s3.2.2.2)]) J2 (fun s3 w8 h_ => ?_) ?_
      · replace h := hJ2 s3 w8 h_; clear h_
        obtain ⟨J3, hJ3, h⟩ := h
        refine CW.cut (S := (Option Addr) × Nat × Nat) (fun s4 => [(2, .int .u32 set1), (3, .pointer (some (⟨b1, 0, none⟩ : Addr))), (4, .pointer (some (⟨b2, 0, none⟩ : Addr))), (6, .pointer (some (⟨b3, 0, none⟩ : Addr))), (8, .bool s3.2.2.2), (9, .int .i64 s1.2.2.2.2), (10, .pointer (some (⟨b4, 0, none⟩ : Addr))), (7, .slice s4.1 s4.2.1 s4.2.2)]) J3 (fun s4 w9 h_ => ?_) ?_
        · replace h := hJ3 s4 w9 h_; clear h_
          refine CW.seq ?_
          refine CW.region fun L hL => ?_
          refine LW.rd hL rfl (Wants.free rfl) rfl (Rd.fa (v := .pointer (some (⟨b4, 0, none⟩ : Addr))) rfl (fun _ => by kernel_rfl)) ?_
          obtain ⟨t6, t7, hc4, h⟩ := h
          refine LW.rd hL rfl (Wants.free rfl) rfl (Rd.ldN (cs := [.int .i64 t6, .int .i64 t7]) rfl (by kernel_rfl) (by kernel_rfl) (cellsS hc4)) ?_
          obtain ⟨t8, t9, hc5, h⟩ := h
          refine LW.rd hL rfl (Wants.free rfl) rfl (Rd.ldN (cs := [.int .i64 t8, .int .i64 t9]) rfl (by kernel_rfl) (by kernel_rfl) (cellsS hc5)) ?_
          refine LW.rd hL rfl (Wants.free rfl) rfl (Rd.bin (v := .bool ((t6 == t8) && (t7 == t9))) rfl rfl (fun w => eqS_56 _ _ _ _ w)) ?_
          refine LW.rd hL rfl (Wants.free rfl) rfl (Rd.move (v := .bool ((t6 == t8) && (t7 == t9))) rfl) ?_
          suffices K1 : L 8 [(2, .int .u32 set1), (3, .pointer (some (⟨b1, 0, none⟩ : Addr))), (4, .pointer (some (⟨b2, 0, none⟩ : Addr))), (6, .pointer (some (⟨b3, 0, none⟩ : Addr))), (7, .slice s4.1 s4.2.1 s4.2.2), (8, .bool s3.2.2.2), (9, .int .i64 s1.2.2.2.2), (54, .bool ((t6 == t8) && (t7 == t9) && !s3.2.2.2))] w9 by
            rcases Bool.eq_false_or_eq_true ((t6 == t8) && (t7 == t9)) with hb3 | hb3
            · skip
              refine LW.rd hL rfl (Wants.on rfl rfl rfl rfl rfl hb3) rfl (Rd.move (v := .bool s3.2.2.2) rfl) ?_
              refine LW.rd hL rfl (Wants.on rfl rfl rfl rfl rfl hb3) rfl (Rd.un (v := .bool (!s3.2.2.2)) rfl (fun _ => by kernel_rfl)) ?_
              refine LW.rd hL rfl (Wants.free rfl) rfl (Rd.pickT rfl hb3 rfl) ?_
              exact LW.sub hL (by exact ⟨rfl, rfl, rfl, rfl, rfl, rfl, rfl, (by rw [hb3]; rfl), trivial⟩) K1
            · skip
              refine LW.skip hL rfl (Skips.on rfl rfl rfl rfl rfl hb3) rfl ?_
              refine LW.skip hL rfl (Skips.on rfl rfl rfl rfl rfl hb3) rfl ?_
              refine LW.rd hL rfl (Wants.free rfl) rfl (Rd.pickF rfl hb3 rfl) ?_
              exact LW.sub hL (by exact ⟨rfl, rfl, rfl, rfl, rfl, rfl, rfl, (by rw [hb3]; rfl), trivial⟩) K1
          refine LW.nil hL rfl ?_
          refine NW.then ?_
          refine CW.cond rfl (fun hb4 => ?_) (fun hb4 => ?_)
          · replace h := h.1 hb4
            refine CW.seq ?_
            refine CW.region fun L hL => ?_
            refine LW.rd hL rfl (Wants.free rfl) rfl (Rd.move (v := .slice s4.1 s4.2.1 s4.2.2) rfl) ?_
            obtain ⟨t10, t11, hc6, h⟩ := h
            refine LW.rd hL rfl (Wants.free rfl) rfl (Rd.ldN (cs := [.int .i64 t10, .int .i64 t11]) rfl (by kernel_rfl) (by kernel_rfl) (cellsS hc6)) ?_
            refine LW.rd hL rfl (Wants.free rfl) rfl (Rd.move (v := .int .u32 set1) rfl) ?_
            refine LW.rd hL rfl (Wants.free rfl) rfl (Rd.build (v := .agg #[.int .i64 t10, .int .i64 t11, .int .u32 set1]) rfl (fun _ => by kernel_rfl)) ?_
            obtain ⟨b5, hb_b5⟩ : ∃ b5, b5 = World.size w9 := ⟨_, rfl⟩
            obtain ⟨w10, hw_w10⟩ : ∃ w10, w10 = World.alloc w9 (.cells #[.int .i64 t10, .int .i64 t11, .int .u32 set1] 149) := ⟨_, rfl⟩
            replace h := h b5 hb_b5 w10 hw_w10
            refine LW.val hL rfl (Wants.free rfl) rfl (sliceE (n := 1) hb_b5 hw_w10 (fun w => Vl.buildSlice (vs := [(0, .agg #[.int .i64 t10, .int .i64 t11, .int .u32 set1])]) rfl (by kernel_rfl))) ?_
            obtain ⟨l1, l1n, l1c, w11, ha1, h⟩ := h
            refine LW.val hL rfl (Wants.free rfl) rfl (Vl.builtin (v := .slice l1 l1n l1c) rfl (valB ha1)) ?_
            refine LW.rd hL rfl (Wants.free rfl) rfl (Rd.assign (v := .slice l1 l1n l1c) rfl) ?_
            refine LW.nil hL rfl ?_
            refine NW.then ?_
            refine CW.region fun L hL => ?_
            refine LW.rd hL rfl (Wants.free rfl) rfl (Rd.assign (v := .bool true) rfl) ?_
            refine LW.nil hL rfl ?_
            refine NW.block ?_
            exact NW.cut (S := (Option Addr) × Nat × Nat × Bool) (Ek := fun s2 => [(2, .int .u32 set1), (3, .pointer (some (⟨b1, 0, none⟩ : Addr))), (4, .pointer (some (⟨b2, 0, none⟩ : Addr))), (6, .pointer (some (⟨b3, 0, none⟩ : Addr))), (9, .int .i64 s1.2.2.2.2), (7, .slice s2.1 s2.2.1 s2.2.2.1), (8, .bool s2.2.2.2)]) (l1, l1n, l1c, true) (by exact ⟨rfl, rfl, rfl, rfl, rfl, rfl, rfl, trivial⟩) h
          · replace h := h.2 hb4
            refine CW.skip ?_
            refine NW.block ?_
            exact NW.cut (S := (Option Addr) × Nat × Nat × Bool) (Ek := fun s2 => [(2, .int .u32 set1), (3, .pointer (some (⟨b1, 0, none⟩ : Addr))), (4, .pointer (some (⟨b2, 0, none⟩ : Addr))), (6, .pointer (some (⟨b3, 0, none⟩ : Addr))), (9, .int .i64 s1.2.2.2.2), (7, .slice s2.1 s2.2.1 s2.2.2.1), (8, .bool s2.2.2.2)]) (s4.1, s4.2.1, s4.2.2, s3.2.2.2) (by exact ⟨rfl, rfl, rfl, rfl, rfl, rfl, rfl, trivial⟩) h
        · skip
          refine CW.seq ?_
          refine CW.region fun L hL => ?_
          refine LW.rd hL rfl (Wants.free rfl) rfl (Rd.fa (v := .pointer (some (⟨b4, 0, none⟩ : Addr))) rfl (fun _ => by kernel_rfl)) ?_
          obtain ⟨t12, t13, hc7, h⟩ := h
          refine LW.rd hL rfl (Wants.free rfl) rfl (Rd.ldN (cs := [.int .i64 t12, .int .i64 t13]) rfl (by kernel_rfl) (by kernel_rfl) (cellsS hc7)) ?_
          obtain ⟨t14, t15, hc8, h⟩ := h
          refine LW.rd hL rfl (Wants.free rfl) rfl (Rd.ldN (cs := [.int .i64 t14, .int .i64 t15]) rfl (by kernel_rfl) (by kernel_rfl) (cellsS hc8)) ?_
          refine LW.rd hL rfl (Wants.free rfl) rfl (Rd.bin (v := .bool (!((t12 == t14) && (t13 == t15)))) rfl rfl (fun w => neS_56 _ _ _ _ w)) ?_
          refine LW.nil hL rfl ?_
          refine NW.then ?_
          refine CW.cond rfl (fun hb5 => ?_) (fun hb5 => ?_)
          · replace h := h.1 hb5
            refine CW.region fun L hL => ?_
            refine LW.rd hL rfl (Wants.free rfl) rfl (Rd.move (v := .slice s3.1 s3.2.1 s3.2.2.1) rfl) ?_
            obtain ⟨t16, t17, t18, hc9, h⟩ := h
            refine LW.rd hL rfl (Wants.free rfl) rfl (Rd.ldN (cs := [.int .i64 t16, .int .i64 t17, .int .u32 t18]) rfl (by kernel_rfl) (by kernel_rfl) (cellsS hc9)) ?_
            obtain ⟨b6, hb_b6⟩ : ∃ b6, b6 = World.size w8 := ⟨_, rfl⟩
            obtain ⟨w12, hw_w12⟩ : ∃ w12, w12 = World.alloc w8 (.cells #[.int .i64 t16, .int .i64 t17, .int .u32 t18] 149) := ⟨_, rfl⟩
            replace h := h b6 hb_b6 w12 hw_w12
            refine LW.val hL rfl (Wants.free rfl) rfl (sliceE (n := 1) hb_b6 hw_w12 (fun w => Vl.buildSlice (vs := [(0, .agg #[.int .i64 t16, .int .i64 t17, .int .u32 t18])]) rfl (by kernel_rfl))) ?_
            obtain ⟨l2, l2n, l2c, w13, ha2, h⟩ := h
            refine LW.val hL rfl (Wants.free rfl) rfl (Vl.builtin (v := .slice l2 l2n l2c) rfl (valB ha2)) ?_
            refine LW.rd hL rfl (Wants.free rfl) rfl (Rd.assign (v := .slice l2 l2n l2c) rfl) ?_
            refine LW.nil hL rfl ?_
            exact NW.cut (S := (Option Addr) × Nat × Nat) (Ek := fun s4 => [(2, .int .u32 set1), (3, .pointer (some (⟨b1, 0, none⟩ : Addr))), (4, .pointer (some (⟨b2, 0, none⟩ : Addr))), (6, .pointer (some (⟨b3, 0, none⟩ : Addr))), (8, .bool s3.2.2.2), (9, .int .i64 s1.2.2.2.2), (10, .pointer (some (⟨b4, 0, none⟩ : Addr))), (7, .slice s4.1 s4.2.1 s4.2.2)]) (l2, l2n, l2c) (by exact ⟨rfl, rfl, rfl, rfl, rfl, rfl, rfl, rfl, trivial⟩) h
          · replace h := h.2 hb5
            refine CW.skip ?_
            exact NW.cut (S := (Option Addr) × Nat × Nat) (Ek := fun s4 => [(2, .int .u32 set1), (3, .pointer (some (⟨b1, 0, none⟩ : Addr))), (4, .pointer (some (⟨b2, 0, none⟩ : Addr))), (6, .pointer (some (⟨b3, 0, none⟩ : Addr))), (8, .bool s3.2.2.2), (9, .int .i64 s1.2.2.2.2), (10, .pointer (some (⟨b4, 0, none⟩ : Addr))), (7, .slice s4.1 s4.2.1 s4.2.2)]) (s3.1, s3.2.1, s3.2.2.1) (by exact ⟨rfl, rfl, rfl, rfl, rfl, rfl, rfl, rfl, trivial⟩) h
      · skip
        refine CW.seq ?_
        refine CW.region fun L hL => ?_
        refine LW.rd hL rfl (Wants.free rfl) rfl (Rd.move (v := .bool s1.2.2.2.1) rfl) ?_
        refine LW.rd hL rfl (Wants.free rfl) rfl (Rd.un (v := .bool (!s1.2.2.2.1)) rfl (fun _ => by kernel_rfl)) ?_
        refine LW.rd hL rfl (Wants.free rfl) rfl (Rd.move (v := .bool (!s1.2.2.2.1)) rfl) ?_
        obtain ⟨J4, hJ4, h1_J4, h0_J4⟩ := h
        suffices K2 : ∀ (b7 : Bool) (w14 : World), J4 b7 w14 → L 8 [(2, .int .u32 set1), (3, .pointer (some (⟨b1, 0, none⟩ : Addr))), (4, .pointer (some (⟨b2, 0, none⟩ : Addr))), (6, .pointer (some (⟨b3, 0, none⟩ : Addr))), (7, .slice s1.1 s1.2.1 s1.2.2.1), (8, .bool s1.2.2.2.1), (9, .int .i64 s1.2.2.2.2), (10, .pointer (some (⟨b4, 0, none⟩ : Addr))), (32, .bool b7)] w14 by
          rcases Bool.eq_false_or_eq_true (!s1.2.2.2.1) with hb6 | hb6
          · have h := h1_J4 hb6
            obtain ⟨t19, t20, hc10, h⟩ := h
            refine LW.rd hL rfl (Wants.on rfl rfl rfl rfl rfl hb6) rfl (Rd.ldN (cs := [.int .i64 t19, .int .i64 t20]) rfl (by kernel_rfl) (by kernel_rfl) (cellsS hc10)) ?_
            refine LW.rd hL rfl (Wants.on rfl rfl rfl rfl rfl hb6) rfl (Rd.fa (v := .pointer (some (⟨b4, 0, none⟩ : Addr))) rfl (fun _ => by kernel_rfl)) ?_
            obtain ⟨t21, t22, hc11, h⟩ := h
            refine LW.rd hL rfl (Wants.on rfl rfl rfl rfl rfl hb6) rfl (Rd.ldN (cs := [.int .i64 t21, .int .i64 t22]) rfl (by kernel_rfl) (by kernel_rfl) (cellsS hc11)) ?_
            refine LW.call hL rfl (Wants.on rfl rfl rfl rfl rfl hb6) rfl (Cl.fn (f := 125) rfl Try.func125 (by kernel_rfl) rfl) h (fun e w15 h_ => ?_)
            clear h
            obtain ⟨r6, rfl, h⟩ := h_
            refine ⟨_, rfl, ?_⟩
            refine LW.rd hL rfl (Wants.free rfl) rfl (Rd.pickT rfl hb6 rfl) ?_
            exact LW.sub hL (by exact ⟨rfl, rfl, rfl, rfl, rfl, rfl, rfl, rfl, rfl, trivial⟩) (K2 r6 w15 h)
          · have h := h0_J4 hb6
            refine LW.skip hL rfl (Skips.on rfl rfl rfl rfl rfl hb6) rfl ?_
            refine LW.skip hL rfl (Skips.on rfl rfl rfl rfl rfl hb6) rfl ?_
            refine LW.skip hL rfl (Skips.on rfl rfl rfl rfl rfl hb6) rfl ?_
            refine LW.skip hL rfl (Skips.on rfl rfl rfl rfl rfl hb6) rfl ?_
            refine LW.rd hL rfl (Wants.free rfl) rfl (Rd.pickF rfl hb6 rfl) ?_
            exact LW.sub hL (by exact ⟨rfl, rfl, rfl, rfl, rfl, rfl, rfl, rfl, rfl, trivial⟩) (K2 false w7 h)
        intro b7 w14 h_
        have h := hJ4 b7 w14 h_; clear h_
        refine LW.nil hL rfl ?_
        refine NW.then ?_
        refine CW.cond rfl (fun hb7 => ?_) (fun hb7 => ?_)
        · replace h := h.1 hb7
          refine CW.seq ?_
          refine CW.region fun L hL => ?_
          refine LW.rd hL rfl (Wants.free rfl) rfl (Rd.move (v := .slice s1.1 s1.2.1 s1.2.2.1) rfl) ?_
          obtain ⟨t23, t24, hc12, h⟩ := h
          refine LW.rd hL rfl (Wants.free rfl) rfl (Rd.ldN (cs := [.int .i64 t23, .int .i64 t24]) rfl (by kernel_rfl) (by kernel_rfl) (cellsS hc12)) ?_
          refine LW.rd hL rfl (Wants.free rfl) rfl (Rd.move (v := .int .u32 set1) rfl) ?_
          refine LW.rd hL rfl (Wants.free rfl) rfl (Rd.build (v := .agg #[.int .i64 t23, .int .i64 t24, .int .u32 set1]) rfl (fun _ => by kernel_rfl)) ?_
          obtain ⟨b8, hb_b8⟩ : ∃ b8, b8 = World.size w14 := ⟨_, rfl⟩
          obtain ⟨w16, hw_w16⟩ : ∃ w16, w16 = World.alloc w14 (.cells #[.int .i64 t23, .int .i64 t24, .int .u32 set1] 149) := ⟨_, rfl⟩
          replace h := h b8 hb_b8 w16 hw_w16
          refine LW.val hL rfl (Wants.free rfl) rfl (sliceE (n := 1) hb_b8 hw_w16 (fun w => Vl.buildSlice (vs := [(0, .agg #[.int .i64 t23, .int .i64 t24, .int .u32 set1])]) rfl (by kernel_rfl))) ?_
          obtain ⟨l3, l3n, l3c, w17, ha3, h⟩ := h
          refine LW.val hL rfl (Wants.free rfl) rfl (Vl.builtin (v := .slice l3 l3n l3c) rfl (valB ha3)) ?_
          refine LW.rd hL rfl (Wants.free rfl) rfl (Rd.assign (v := .slice l3 l3n l3c) rfl) ?_
          refine LW.nil hL rfl ?_
          refine NW.then ?_
          refine CW.region fun L hL => ?_
          refine LW.rd hL rfl (Wants.free rfl) rfl (Rd.assign (v := .bool true) rfl) ?_
          refine LW.nil hL rfl ?_
          exact NW.cut (S := (Option Addr) × Nat × Nat × Bool) (Ek := fun s3 => [(2, .int .u32 set1), (3, .pointer (some (⟨b1, 0, none⟩ : Addr))), (4, .pointer (some (⟨b2, 0, none⟩ : Addr))), (6, .pointer (some (⟨b3, 0, none⟩ : Addr))), (9, .int .i64 s1.2.2.2.2), (10, .pointer (some (⟨b4, 0, none⟩ : Addr))), (7, .slice s3.1 s3.2.1 s3.2.2.1), (8, .bool s3.2.2.2)]) (l3, l3n, l3c, true) (by exact ⟨rfl, rfl, rfl, rfl, rfl, rfl, rfl, rfl, trivial⟩) h
        · replace h := h.2 hb7
          refine CW.skip ?_
          exact NW.cut (S := (Option Addr) × Nat × Nat × Bool) (Ek := fun s3 => [(2, .int .u32 set1), (3, .pointer (some (⟨b1, 0, none⟩ : Addr))), (4, .pointer (some (⟨b2, 0, none⟩ : Addr))), (6, .pointer (some (⟨b3, 0, none⟩ : Addr))), (9, .int .i64 s1.2.2.2.2), (10, .pointer (some (⟨b4, 0, none⟩ : Addr))), (7, .slice s3.1 s3.2.1 s3.2.2.1), (8, .bool s3.2.2.2)]) (s1.1, s1.2.1, s1.2.2.1, s1.2.2.2.1) (by exact ⟨rfl, rfl, rfl, rfl, rfl, rfl, rfl, rfl, trivial⟩) h
  · replace h := h.2 hb1
    refine CW.exit ?_
    refine XW.then ?_
    refine XW.then ?_
    refine XW.hit ?_
    refine NW.then ?_
    obtain ⟨J5, hJ5, h⟩ := h
    refine CW.cut (S := (Option Addr) × Nat × Nat) (fun s5 => [(3, .pointer (some (⟨b1, 0, none⟩ : Addr))), (6, .pointer (some (⟨b3, 0, none⟩ : Addr))), (7, .slice s5.1 s5.2.1 s5.2.2)]) J5 (fun s5 w18 h_ => ?_) ?_
    · replace h := hJ5 s5 w18 h_; clear h_
      refine CW.seq ?_
      refine CW.region fun L hL => ?_
      refine LW.rd hL rfl (Wants.free rfl) rfl (Rd.move (v := .slice s5.1 s5.2.1 s5.2.2) rfl) ?_
      refine LW.rd hL rfl (Wants.free rfl) rfl (Rd.fa (v := .pointer (some (⟨b1, 4, none⟩ : Addr))) rfl (fun _ => by kernel_rfl)) ?_
      obtain ⟨⟨o_w19, ho2⟩, hf2, h⟩ := h
      obtain ⟨w19, hw_w19⟩ : ∃ w19, w19 = World.setCell w18 (⟨b1, 4, none⟩ : Addr) (.slice s5.1 s5.2.1 s5.2.2) := ⟨_, rfl⟩
      replace h := h w19 hw_w19
      refine LW.eff hL rfl (Wants.free rfl) rfl (stE hw_w19 (Ef.st rfl rfl rfl (by kernel_rfl) ho2 hf2)) ?_
      refine LW.nil hL rfl ?_
      refine NW.then ?_
      refine CW.seq ?_
      refine CW.region fun L hL => ?_
      obtain ⟨t25, t26, t27, t28, t28n, t28c, t29, t29n, t29c, hc13, h⟩ := h
      refine LW.rd hL rfl (Wants.free rfl) rfl (Rd.ldN (cs := [.int .i64 t25, .int .i64 t26, .int .i64 t27, .slice t28 t28n t28c, .slice t29 t29n t29c]) rfl (by kernel_rfl) (by kernel_rfl) (cellsS hc13)) ?_
      obtain ⟨ho3, hf3, h⟩ := h
      obtain ⟨w20, hw_w20⟩ : ∃ w20, w20 = setCells w19 (⟨b3, 0, none⟩ : Addr) 0 [.int .i64 t25, .int .i64 t26, .int .i64 t27, .slice t28 t28n t28c, .slice t29 t29n t29c] := ⟨_, rfl⟩
      replace h := h w20 hw_w20
      refine LW.eff hL rfl (Wants.free rfl) rfl (stNE hw_w20 (Ef.stN (cs := [.int .i64 t25, .int .i64 t26, .int .i64 t27, .slice t28 t28n t28c, .slice t29 t29n t29c]) rfl rfl (by kernel_rfl) (List.forall_mem_cons.2 ⟨rfl, (List.forall_mem_cons.2 ⟨rfl, (List.forall_mem_cons.2 ⟨rfl, (List.forall_mem_cons.2 ⟨rfl, (List.forall_mem_cons.2 ⟨rfl, (List.forall_mem_nil _)⟩)⟩)⟩)⟩)⟩) ho3 hf3)) ?_
      refine LW.nil hL rfl ?_
      refine NW.then ?_
      refine CW.ret ?_
      obtain ⟨r7, r8, r9, r10, r10n, r10c, r11, r11n, r11c, hr1, h⟩ := h
      exact resN (vs := [.agg #[.int .i64 r7, .int .i64 r8, .int .i64 r9, .slice r10 r10n r10c, .slice r11 r11n r11c]]) (ResOK.c rfl (lvN (cs := [.int .i64 r7, .int .i64 r8, .int .i64 r9, .slice r10 r10n r10c, .slice r11 r11n r11c]) (by kernel_rfl) (by kernel_rfl) (cellsAt_get hr1)) ResOK.nil) rfl ⟨r7, r8, r9, r10, r10n, r10c, r11, r11n, r11c, rfl, h⟩
    · skip
      refine CW.seq ?_
      refine CW.region fun L hL => ?_
      refine LW.rd hL rfl (Wants.free rfl) rfl (Rd.move (v := .bool s1.2.2.2.1) rfl) ?_
      refine LW.rd hL rfl (Wants.free rfl) rfl (Rd.un (v := .bool (!s1.2.2.2.1)) rfl (fun _ => by kernel_rfl)) ?_
      refine LW.nil hL rfl ?_
      refine NW.then ?_
      refine CW.cond rfl (fun hb8 => ?_) (fun hb8 => ?_)
      · replace h := h.1 hb8
        refine CW.region fun L hL => ?_
        refine LW.rd hL rfl (Wants.free rfl) rfl (Rd.move (v := .slice s1.1 s1.2.1 s1.2.2.1) rfl) ?_
        obtain ⟨t30, t31, hc14, h⟩ := h
        refine LW.rd hL rfl (Wants.free rfl) rfl (Rd.ldN (cs := [.int .i64 t30, .int .i64 t31]) rfl (by kernel_rfl) (by kernel_rfl) (cellsS hc14)) ?_
        refine LW.rd hL rfl (Wants.free rfl) rfl (Rd.move (v := .int .u32 set1) rfl) ?_
        refine LW.rd hL rfl (Wants.free rfl) rfl (Rd.build (v := .agg #[.int .i64 t30, .int .i64 t31, .int .u32 set1]) rfl (fun _ => by kernel_rfl)) ?_
        obtain ⟨b9, hb_b9⟩ : ∃ b9, b9 = World.size w4 := ⟨_, rfl⟩
        obtain ⟨w21, hw_w21⟩ : ∃ w21, w21 = World.alloc w4 (.cells #[.int .i64 t30, .int .i64 t31, .int .u32 set1] 149) := ⟨_, rfl⟩
        replace h := h b9 hb_b9 w21 hw_w21
        refine LW.val hL rfl (Wants.free rfl) rfl (sliceE (n := 1) hb_b9 hw_w21 (fun w => Vl.buildSlice (vs := [(0, .agg #[.int .i64 t30, .int .i64 t31, .int .u32 set1])]) rfl (by kernel_rfl))) ?_
        obtain ⟨l4, l4n, l4c, w22, ha4, h⟩ := h
        refine LW.val hL rfl (Wants.free rfl) rfl (Vl.builtin (v := .slice l4 l4n l4c) rfl (valB ha4)) ?_
        refine LW.rd hL rfl (Wants.free rfl) rfl (Rd.assign (v := .slice l4 l4n l4c) rfl) ?_
        refine LW.nil hL rfl ?_
        exact NW.cut (S := (Option Addr) × Nat × Nat) (Ek := fun s5 => [(3, .pointer (some (⟨b1, 0, none⟩ : Addr))), (6, .pointer (some (⟨b3, 0, none⟩ : Addr))), (7, .slice s5.1 s5.2.1 s5.2.2)]) (l4, l4n, l4c) (by exact ⟨rfl, rfl, rfl, trivial⟩) h
      · replace h := h.2 hb8
        refine CW.skip ?_
        exact NW.cut (S := (Option Addr) × Nat × Nat) (Ek := fun s5 => [(3, .pointer (some (⟨b1, 0, none⟩ : Addr))), (6, .pointer (some (⟨b3, 0, none⟩ : Addr))), (7, .slice s5.1 s5.2.1 s5.2.2)]) (s1.1, s1.2.1, s1.2.2.1) (by exact ⟨rfl, rfl, rfl, trivial⟩) h

/- (*pomander/flow.Flow).bounds -/
def V_flow_Flow_bounds (f1 : Option Addr) (w : World) (R : Value → Value → Value → Value → Value → Value → Value → Value → Value → Value → Value → Value → Value → Value → Value → Value → Value → Value → World → Prop) : Prop :=
  ∀ b1 : Nat, b1 = World.size w → ∀ w1 : World, w1 = World.alloc w (.cells #[.pointer f1] 28) → (∀ b2 : Nat, b2 = World.size w1 → ∀ w2 : World, w2 = World.alloc w1 (.cells #[.nilFunc, .nilFunc, .nilFunc, .nilFunc, .nilFunc, .nilFunc, .nilFunc, .nilFunc, .nilFunc, .nilFunc, .nilFunc, .nilFunc, .nilFunc, .nilFunc, .nilFunc, .nilFunc, .nilFunc, .nilFunc] 202) → (∀ b3 : Nat, b3 = World.size w2 → ∀ w3 : World, w3 = World.alloc w2 (.cells #[.nilFunc, .nilFunc, .nilFunc, .nilFunc, .nilFunc, .nilFunc, .nilFunc, .nilFunc, .nilFunc, .nilFunc, .nilFunc, .nilFunc, .nilFunc, .nilFunc, .nilFunc, .nilFunc, .nilFunc, .nilFunc] 202) → (Has w3 (⟨b3, 0, none⟩ : Addr) 18 ∧ Free w3 (⟨b3, 0, none⟩ : Addr) 18 ∧ ∀ w4 : World, w4 = setCells w3 (⟨b3, 0, none⟩ : Addr) 0 [.nilFunc, .func (.func 129) #[] #[], .nilFunc, .nilFunc, .nilFunc, .nilFunc, .nilFunc, .nilFunc, .nilFunc, .nilFunc, .func (.func 132) #[] #[.pointer (some (⟨b1, 0, none⟩ : Addr))], .func (.func 130) #[] #[], .func (.func 133) #[] #[.pointer (some (⟨b1, 0, none⟩ : Addr))], .func (.func 128) #[] #[], .func (.func 128) #[] #[], .func (.func 128) #[] #[], .func (.func 128) #[] #[], .func (.func 131) #[] #[]] → (∃ (I1 : Int → World → Prop) (m1 : Int → World → Nat), I1 2 w4 ∧ ∀ (s1 : Int) (w5 : World), I1 s1 w5 → ((decide (s1 ≤ 9)) = true → (0 : Int) ≤ s1 ∧ (s1 : Int) < 18 ∧ ((∃ o : Value, w5.cell? ((⟨b3, 0, none⟩ : Addr).add (Int.toNat s1 * 1)) = some o) ∧ w5.frozen? ((⟨b3, 0, none⟩ : Addr).add (Int.toNat s1 * 1)) = false ∧ ∀ w6 : World, w6 = World.setCell w5 ((⟨b3, 0, none⟩ : Addr).add (Int.toNat s1 * 1)) (.func (.func 127) #[] #[]) → ((I1 (IntKind.wrap .i64 (s1 + 1)) w6 ∧ m1 (IntKind.wrap .i64 (s1 + 1)) w6 < m1 s1 w5)))) ∧ ((decide (s1 ≤ 9)) = false → ∃ (t1 : Value) (t2 : Value) (t3 : Value) (t4 : Value) (t5 : Value) (t6 : Value) (t7 : Value) (t8 : Value) (t9 : Value) (t10 : Value) (t11 : Value) (t12 : Value) (t13 : Value) (t14 : Value) (t15 : Value) (t16 : Value) (t17 : Value) (t18 : Value), CellsAt w5 (⟨b3, 0, none⟩ : Addr) 0 [t1, t2, t3, t4, t5, t6, t7, t8, t9, t10, t11, t12, t13, t14, t15, t16, t17, t18] ∧ (Value.oneCell' t1 = true ∧ Value.oneCell' t2 = true ∧ Value.oneCell' t3 = true ∧ Value.oneCell' t4 = true ∧ Value.oneCell' t5 = true ∧ Value.oneCell' t6 = true ∧ Value.oneCell' t7 = true ∧ Value.oneCell' t8 = true ∧ Value.oneCell' t9 = true ∧ Value.oneCell' t10 = true ∧ Value.oneCell' t11 = true ∧ Value.oneCell' t12 = true ∧ Value.oneCell' t13 = true ∧ Value.oneCell' t14 = true ∧ Value.oneCell' t15 = true ∧ Value.oneCell' t16 = true ∧ Value.oneCell' t17 = true ∧ Value.oneCell' t18 = true ∧ Has w5 (⟨b2, 0, none⟩ : Addr) 18 ∧ Free w5 (⟨b2, 0, none⟩ : Addr) 18 ∧ ∀ w7 : World, w7 = setCells w5 (⟨b2, 0, none⟩ : Addr) 0 [t1, t2, t3, t4, t5, t6, t7, t8, t9, t10, t11, t12, t13, t14, t15, t16, t17, t18] → (∃ (r19 : Value) (r20 : Value) (r21 : Value) (r22 : Value) (r23 : Value) (r24 : Value) (r25 : Value) (r26 : Value) (r27 : Value) (r28 : Value) (r29 : Value) (r30 : Value) (r31 : Value) (r32 : Value) (r33 : Value) (r34 : Value) (r35 : Value) (r36 : Value), CellsAt w7 (⟨b2, 0, none⟩ : Addr) 0 [r19, r20, r21, r22, r23, r24, r25, r26, r27, r28, r29, r30, r31, r32, r33, r34, r35, r36] ∧ R r19 r20 r21 r22 r23 r24 r25 r26 r27 r28 r29 r30 r31 r32 r33 r34 r35 r36 w7)))))))
set_option maxRecDepth 100000 in
theorem ok_flow_Flow_bounds (f1 : Option Addr) (w : World) (R : Value → Value → Value → Value → Value → Value → Value → Value → Value → Value → Value → Value → Value → Value → Value → Value → Value → Value → World → Prop) (h : V_flow_Flow_bounds f1 w R) : Calls Try.prog 108 #[.pointer f1] w (fun e w' => ∃ (r1 : Value) (r2 : Value) (r3 : Value) (r4 : Value) (r5 : Value) (r6 : Value) (r7 : Value) (r8 : Value) (r9 : Value) (r10 : Value) (r11 : Value) (r12 : Value) (r13 : Value) (r14 : Value) (r15 : Value) (r16 : Value) (r17 : Value) (r18 : Value), e = .returned (.agg #[r1, r2, r3, r4, r5, r6, r7, r8, r9, r10, r11, r12, r13, r14, r15, r16, r17, r18]) ∧ R r1 r2 r3 r4 r5 r6 r7 r8 r9 r10 r11 r12 r13 r14 r15 r16 r17 r18 w') := by
  unfold V_flow_Flow_bounds at h
  refine enter (N := 22) Try.func108 rfl rfl ?_
  refine CW.seq ?_
  refine CW.region fun L hL => ?_
  obtain ⟨b1, hb_b1⟩ : ∃ b1, b1 = World.size w := ⟨_, rfl⟩
  obtain ⟨w1, hw_w1⟩ : ∃ w1, w1 = World.alloc w (.cells #[.pointer f1] 28) := ⟨_, rfl⟩
  replace h := h b1 hb_b1 w1 hw_w1
  refine LW.val hL rfl (Wants.free rfl) rfl (boxE hb_b1 hw_w1 (Vl.box (v := .pointer f1) rfl)) ?_
  obtain ⟨b2, hb_b2⟩ : ∃ b2, b2 = World.size w1 := ⟨_, rfl⟩
  obtain ⟨w2, hw_w2⟩ : ∃ w2, w2 = World.alloc w1 (.cells #[.nilFunc, .nilFunc, .nilFunc, .nilFunc, .nilFunc, .nilFunc, .nilFunc, .nilFunc, .nilFunc, .nilFunc, .nilFunc, .nilFunc, .nilFunc, .nilFunc, .nilFunc, .nilFunc, .nilFunc, .nilFunc] 202) := ⟨_, rfl⟩
  replace h := h b2 hb_b2 w2 hw_w2
  refine LW.val hL rfl (Wants.free rfl) rfl (boxE hb_b2 hw_w2 (Vl.alloc (z := .agg #[.nilFunc, .nilFunc, .nilFunc, .nilFunc, .nilFunc, .nilFunc, .nilFunc, .nilFunc, .nilFunc, .nilFunc, .nilFunc, .nilFunc, .nilFunc, .nilFunc, .nilFunc, .nilFunc, .nilFunc, .nilFunc]) (by kernel_rfl))) ?_
  refine LW.nil hL rfl ?_
  refine NW.then ?_
  refine CW.seq ?_
  refine CW.region fun L hL => ?_
  refine LW.rd hL rfl (Wants.free rfl) rfl (Rd.assign (v := .func (.func 127) #[] #[]) rfl) ?_
  refine LW.nil hL rfl ?_
  refine NW.then ?_
  refine CW.seq ?_
  refine CW.region fun L hL => ?_
  refine LW.rd hL rfl (Wants.free rfl) rfl (Rd.assign (v := .func (.func 128) #[] #[]) rfl) ?_
  refine LW.nil hL rfl ?_
  refine NW.then ?_
  refine CW.seq ?_
  refine CW.region fun L hL => ?_
  refine LW.rd hL rfl (Wants.free rfl) rfl (Rd.makeFunc rfl) ?_
  refine LW.rd hL rfl (Wants.free rfl) rfl (Rd.makeFunc rfl) ?_
  refine LW.rd hL rfl (Wants.free rfl) rfl (Rd.move (v := .func (.func 128) #[] #[]) rfl) ?_
  refine LW.rd hL rfl (Wants.free rfl) rfl (Rd.move (v := .func (.func 128) #[] #[]) rfl) ?_
  refine LW.rd hL rfl (Wants.free rfl) rfl (Rd.move (v := .func (.func 128) #[] #[]) rfl) ?_
  refine LW.rd hL rfl (Wants.free rfl) rfl (Rd.move (v := .func (.func 128) #[] #[]) rfl) ?_
  refine LW.rd hL rfl (Wants.free rfl) rfl (Rd.build (v := .agg #[.nilFunc, .func (.func 129) #[] #[], .nilFunc, .nilFunc, .nilFunc, .nilFunc, .nilFunc, .nilFunc, .nilFunc, .nilFunc, .func (.func 132) #[] #[.pointer (some (⟨b1, 0, none⟩ : Addr))], .func (.func 130) #[] #[], .func (.func 133) #[] #[.pointer (some (⟨b1, 0, none⟩ : Addr))], .func (.func 128) #[] #[], .func (.func 128) #[] #[], .func (.func 128) #[] #[], .func (.func 128) #[] #[], .func (.func 131) #[] #[]]) rfl (fun _ => by kernel_rfl)) ?_
  obtain ⟨b3, hb_b3⟩ : ∃ b3, b3 = World.size w2 := ⟨_, rfl⟩
  obtain ⟨w3, hw_w3⟩ : ∃ w3, w3 = World.alloc w2 (.cells #[.nilFunc, .nilFunc, .nilFunc, .nilFunc, .nilFunc, .nilFunc, .nilFunc, .nilFunc, .nilFunc, .nilFunc, .nilFunc, .nilFunc, .nilFunc, .nilFunc, .nilFunc, .nilFunc, .nilFunc, .nilFunc] 202) := ⟨_, rfl⟩
  replace h := h b3 hb_b3 w3 hw_w3
  refine LW.val hL rfl (Wants.free rfl) rfl (boxE hb_b3 hw_w3 (Vl.alloc (z := .agg #[.nilFunc, .nilFunc, .nilFunc, .nilFunc, .nilFunc, .nilFunc, .nilFunc, .nilFunc, .nilFunc, .nilFunc, .nilFunc, .nilFunc, .nilFunc, .nilFunc, .nilFunc, .nilFunc, .nilFunc, .nilFunc]) (by kernel_rfl))) ?_
  obtain ⟨ho1, hf1, h⟩ := h
  obtain ⟨w4, hw_w4⟩ : ∃ w4, w4 = setCells w3 (⟨b3, 0, none⟩ : Addr) 0 [.nilFunc, .func (.func 129) #[] #[], .nilFunc, .nilFunc, .nilFunc, .nilFunc, .nilFunc, .nilFunc, .nilFunc, .nilFunc, .func (.func 132) #[] #[.pointer (some (⟨b1, 0, none⟩ : Addr))], .func (.func 130) #[] #[], .func (.func 133) #[] #[.pointer (some (⟨b1, 0, none⟩ : Addr))], .func (.func 128) #[] #[], .func (.func 128) #[] #[], .func (.func 128) #[] #[], .func (.func 128) #[] #[], .func (.func 131) #[] #[]] := ⟨_, rfl⟩
  replace h := h w4 hw_w4
  refine LW.eff hL rfl (Wants.free rfl) rfl (stNE hw_w4 (Ef.stN (cs := [.nilFunc, .func (.func 129) #[] #[], .nilFunc, .nilFunc, .nilFunc, .nilFunc, .nilFunc, .nilFunc, .nilFunc, .nilFunc, .func (.func 132) #[] #[.pointer (some (⟨b1, 0, none⟩ : Addr))], .func (.func 130) #[] #[], .func (.func 133) #[] #[.pointer (some (⟨b1, 0, none⟩ : Addr))], .func (.func 128) #[] #[], .func (.func 128) #[] #[], .func (.func 128) #[] #[], .func (.func 128) #[] #[], .func (.func 131) #[] #[]]) rfl rfl (by kernel_rfl) (List.forall_mem_cons.2 ⟨rfl, (List.forall_mem_cons.2 ⟨rfl, (List.forall_mem_cons.2 ⟨rfl, (List.forall_mem_cons.2 ⟨rfl, (List.forall_mem_cons.2 ⟨rfl, (List.forall_mem_cons.2 ⟨rfl, (List.forall_mem_cons.2 ⟨rfl, (List.forall_mem_cons.2 ⟨rfl, (List.forall_mem_cons.2 ⟨rfl, (List.forall_mem_cons.2 ⟨rfl, (List.forall_mem_cons.2 ⟨rfl, (List.forall_mem_cons.2 ⟨rfl, (List.forall_mem_cons.2 ⟨rfl, (List.forall_mem_cons.2 ⟨rfl, (List.forall_mem_cons.2 ⟨rfl, (List.forall_mem_cons.2 ⟨rfl, (List.forall_mem_cons.2 ⟨rfl, (List.forall_mem_cons.2 ⟨rfl, (List.forall_mem_nil _)⟩)⟩)⟩)⟩)⟩)⟩)⟩)⟩)⟩)⟩)⟩)⟩)⟩)⟩)⟩)⟩)⟩)⟩) ho1 hf1)) ?_
  refine LW.nil hL rfl ?_
  refine NW.then ?_
  refine CW.seq ?_
  refine CW.seq ?_
  refine CW.region fun L hL => ?_
  refine LW.rd hL rfl (Wants.free rfl) rfl (Rd.assign (v := .int .i64 2) rfl) ?_
  refine LW.nil hL rfl ?_
  refine NW.then ?_
  refine CW.block ?_
  obtain ⟨I1, m1, hI1, h⟩ := h
  refine CW.loop (S := Int) (fun s1 => [(2, .pointer (some (⟨b2, 0, none⟩ : Addr))), (3, .func (.func 127) #[] #[]), (5, .pointer (some (⟨b3, 0, none⟩ : Addr))), (6, .int .i64 s1)]) I1 m1 2 (by exact ⟨rfl, rfl, rfl, rfl, trivial⟩) hI1 (fun s1 w5 hI1 => ?_)
  replace h := h s1 w5 hI1
  refine CW.seq ?_
  refine CW.seq ?_
  refine CW.region fun L hL => ?_
  refine LW.rd hL rfl (Wants.free rfl) rfl (Rd.move (v := .int .i64 s1) rfl) ?_
  refine LW.rd hL rfl (Wants.free rfl) rfl (Rd.bin (v := .bool (decide (s1 ≤ 9))) rfl rfl (fun w => by kernel_rfl)) ?_
  refine LW.nil hL rfl ?_
  refine NW.then ?_
  refine CW.cond rfl (fun hb1 => ?_) (fun hb1 => ?_)
  · replace h := h.1 hb1
    refine CW.skip ?_
    refine NW.then ?_
    refine CW.seq ?_
    refine CW.block ?_
    refine CW.region fun L hL => ?_
    refine LW.rd hL rfl (Wants.free rfl) rfl (Rd.move (v := .int .i64 s1) rfl) ?_
    refine LW.rd hL rfl (Wants.free rfl) rfl (Rd.move (v := .func (.func 127) #[] #[]) rfl) ?_
    obtain ⟨hi1, hi2, h⟩ := h
    refine LW.rd hL rfl (Wants.free rfl) rfl (Rd.iaA (sz := 1) rfl rfl Try.underlying202 (by kernel_rfl) hi1 hi2) ?_
    obtain ⟨⟨o_w6, ho2⟩, hf2, h⟩ := h
    obtain ⟨w6, hw_w6⟩ : ∃ w6, w6 = World.setCell w5 ((⟨b3, 0, none⟩ : Addr).add (Int.toNat s1 * 1)) (.func (.func 127) #[] #[]) := ⟨_, rfl⟩
    replace h := h w6 hw_w6
    refine LW.eff hL rfl (Wants.free rfl) rfl (stE hw_w6 (Ef.st rfl rfl rfl (by kernel_rfl) ho2 hf2)) ?_
    refine LW.nil hL rfl ?_
    refine NW.block ?_
    refine NW.then ?_
    refine CW.region fun L hL => ?_
    refine LW.rd hL rfl (Wants.free rfl) rfl (Rd.move (v := .int .i64 s1) rfl) ?_
    refine LW.rd hL rfl (Wants.free rfl) rfl (Rd.bin (v := .int .i64 (IntKind.wrap .i64 (s1 + 1))) rfl rfl (fun w => by kernel_rfl)) ?_
    refine LW.rd hL rfl (Wants.free rfl) rfl (Rd.assign (v := .int .i64 (IntKind.wrap .i64 (s1 + 1))) rfl) ?_
    refine LW.nil hL rfl ?_
    exact NW.loop (S := Int) (Ek := fun s1 => [(2, .pointer (some (⟨b2, 0, none⟩ : Addr))), (3, .func (.func 127) #[] #[]), (5, .pointer (some (⟨b3, 0, none⟩ : Addr))), (6, .int .i64 s1)]) (IntKind.wrap .i64 (s1 + 1)) (by exact ⟨rfl, rfl, rfl, rfl, trivial⟩) h
  · replace h := h.2 hb1
    refine CW.exit ?_
    refine XW.then ?_
    refine XW.then ?_
    refine XW.hit ?_
    refine NW.then ?_
    refine CW.seq ?_
    refine CW.region fun L hL => ?_
    obtain ⟨t1, t2, t3, t4, t5, t6, t7, t8, t9, t10, t11, t12, t13, t14, t15, t16, t17, t18, hc1, h⟩ := h
    refine LW.rd hL rfl (Wants.free rfl) rfl (Rd.ldN (cs := [t1, t2, t3, t4, t5, t6, t7, t8, t9, t10, t11, t12, t13, t14, t15, t16, t17, t18]) rfl (by kernel_rfl) (by kernel_rfl) (cellsS hc1)) ?_
    obtain ⟨hv1, hv2, hv3, hv4, hv5, hv6, hv7, hv8, hv9, hv10, hv11, hv12, hv13, hv14, hv15, hv16, hv17, hv18, ho3, hf3, h⟩ := h
    obtain ⟨w7, hw_w7⟩ : ∃ w7, w7 = setCells w5 (⟨b2, 0, none⟩ : Addr) 0 [t1, t2, t3, t4, t5, t6, t7, t8, t9, t10, t11, t12, t13, t14, t15, t16, t17, t18] := ⟨_, rfl⟩
    replace h := h w7 hw_w7
    refine LW.eff hL rfl (Wants.free rfl) rfl (stNE hw_w7 (Ef.stN (cs := [t1, t2, t3, t4, t5, t6, t7, t8, t9, t10, t11, t12, t13, t14, t15, t16, t17, t18]) rfl rfl (by kernel_rfl) (List.forall_mem_cons.2 ⟨hv1, (List.forall_mem_cons.2 ⟨hv2, (List.forall_mem_cons.2 ⟨hv3, (List.forall_mem_cons.2 ⟨hv4, (List.forall_mem_cons.2 ⟨hv5, (List.forall_mem_cons.2 ⟨hv6, (List.forall_mem_cons.2 ⟨hv7, (List.forall_mem_cons.2 ⟨hv8, (List.forall_mem_cons.2 ⟨hv9, (List.forall_mem_cons.2 ⟨hv10, (List.forall_mem_cons.2 ⟨hv11, (List.forall_mem_cons.2 ⟨hv12, (List.forall_mem_cons.2 ⟨hv13, (List.forall_mem_cons.2 ⟨hv14, (List.forall_mem_cons.2 ⟨hv15, (List.forall_mem_cons.2 ⟨hv16, (List.forall_mem_cons.2 ⟨hv17, (List.forall_mem_cons.2 ⟨hv18, (List.forall_mem_nil _)⟩)⟩)⟩)⟩)⟩)⟩)⟩)⟩)⟩)⟩)⟩)⟩)⟩)⟩)⟩)⟩)⟩)⟩) ho3 hf3)) ?_
    refine LW.nil hL rfl ?_
    refine NW.then ?_
    refine CW.ret ?_
    obtain ⟨r19, r20, r21, r22, r23, r24, r25, r26, r27, r28, r29, r30, r31, r32, r33, r34, r35, r36, hr1, h⟩ := h
    exact resN (vs := [.agg #[r19, r20, r21, r22, r23, r24, r25, r26, r27, r28, r29, r30, r31, r32, r33, r34, r35, r36]]) (ResOK.c rfl (lvN (cs := [r19, r20, r21, r22, r23, r24, r25, r26, r27, r28, r29, r30, r31, r32, r33, r34, r35, r36]) (by kernel_rfl) (by kernel_rfl) (cellsAt_get hr1)) ResOK.nil) rfl ⟨r19, r20, r21, r22, r23, r24, r25, r26, r27, r28, r29, r30, r31, r32, r33, r34, r35, r36, rfl, h⟩

/- (*pomander/labels.Table).Keep -/
def V_labels_Table_Keep (t1 : Option Addr) (set1 : Int) (w : World) (R : Int → Int → World → Prop) : Prop :=
  Calls Try.prog 110 #[.pointer t1] w fun e w1 => ∃ (r3 : Bool), e = .returned (.bool r3) ∧ ((r3 = true → R 0 1 w1) ∧ (r3 = false → ((decide (set1 ≥ 65536)) = true → R 0 2 w1) ∧ ((decide (set1 ≥ 65536)) = false → ∃ a1 : Addr, t1 = some a1 ∧ (∃ (t2 : Option Nat), w1.cell? (a1.add 2) = some (.map t2) ∧ (∃ (v1 : Int) (ok1 : Bool), (Instr.lookup 198 (.map t2) (.int .u32 set1) true).run Try.prog w1 = .ok (.tuple #[.int .i64 v1, .bool ok1]) w1 ∧ ((ok1 = true → R v1 0 w1) ∧ (ok1 = false → ∀ w2 : World, w2 = World.drew w1 → ∃ a2 : Addr, t1 = some a2 ∧ (∃ (t3 : Option Addr) (t3n : Nat) (t3c : Nat), w2.cell? (a2.add 1) = some (.slice t3 t3n t3c) ∧ (∃ a3 : Addr, t1 = some a3 ∧ (∃ (t4 : Int), w2.cell? a3 = some (.int .i64 t4) ∧ (((decide ((t3n : Int) ≥ t4)) = true → R 0 120 w2) ∧ ((decide ((t3n : Int) ≥ t4)) = false → ∀ w3 : World, w3 = World.drew w2 → ∃ a4 : Addr, t1 = some a4 ∧ (∃ (t5 : Option Nat), w3.cell? (a4.add 2) = some (.map t5) ∧ (∃ a5 : Addr, t1 = some a5 ∧ (∃ (t6 : Option Addr) (t6n : Nat) (t6c : Nat), w3.cell? (a5.add 1) = some (.slice t6 t6n t6c) ∧ (∃ w4 : World, (Instr.mapUpdate 198 (.map t5) (.int .u32 set1) (.int .i64 (t6n : Int))).run Try.prog w3 = .ok () w4 ∧ (∃ a6 : Addr, t1 = some a6 ∧ (∃ (t7 : Option Addr) (t7n : Nat) (t7c : Nat), w4.cell? (a6.add 1) = some (.slice t7 t7n t7c) ∧ (∀ b1 : Nat, b1 = World.size w4 → ∀ w5 : World, w5 = World.alloc w4 (.cells #[.int .u32 set1] 22) → (∃ (l1 : Option Addr) (l1n : Nat) (l1c : Nat) (w6 : World), (Builtin.append_ #[31, 31] 31 #[.slice t7 t7n t7c, .slice (some (⟨b1, 0, none⟩ : Addr)) 1 1]).run Try.prog w5 = .ok (.slice l1 l1n l1c) w6 ∧ (∃ a7 : Addr, t1 = some a7 ∧ ((∃ o : Value, w6.cell? (a7.add 1) = some o) ∧ w6.frozen? (a7.add 1) = false ∧ ∀ w7 : World, w7 = World.setCell w6 (a7.add 1) (.slice l1 l1n l1c) → (∃ a8 : Addr, t1 = some a8 ∧ (∃ (t8 : Option Nat), w7.cell? (a8.add 2) = some (.map t8) ∧ (∃ (v2 : Int), (Instr.lookup 198 (.map t8) (.int .u32 set1) false).run Try.prog w7 = .ok (.int .i64 v2) w7 ∧ (R v2 0 w7))))))))))))))))))))))))))
set_option maxRecDepth 100000 in
theorem ok_labels_Table_Keep (t1 : Option Addr) (set1 : Int) (w : World) (R : Int → Int → World → Prop) (h : V_labels_Table_Keep t1 set1 w R) : Calls Try.prog 109 #[.pointer t1, .int .u32 set1] w (fun e w' => ∃ (r1 : Int) (r2 : Int), e = .returned (.tuple #[.int .i64 r1, .int .i64 r2]) ∧ R r1 r2 w') := by
  unfold V_labels_Table_Keep at h
  refine enter (N := 59) Try.func109 rfl rfl ?_
  refine CW.seq ?_
  refine CW.region fun L hL => ?_
  refine LW.rd hL rfl (Wants.free rfl) rfl (Rd.assign (v := .int .i64 0) rfl) ?_
  refine LW.rd hL rfl (Wants.free rfl) rfl (Rd.assign (v := .int .i64 0) rfl) ?_
  refine LW.nil hL rfl ?_
  refine NW.then ?_
  refine CW.seq ?_
  refine CW.seq ?_
  refine CW.region fun L hL => ?_
  refine LW.rd hL rfl (Wants.free rfl) rfl (Rd.move (v := .pointer t1) rfl) ?_
  refine LW.call hL rfl (Wants.free rfl) rfl (Cl.fn (f := 110) rfl Try.func110 (by kernel_rfl) rfl) h (fun e w1 h_ => ?_)
  clear h
  obtain ⟨r3, rfl, h⟩ := h_
  refine ⟨_, rfl, ?_⟩
  refine LW.nil hL rfl ?_
  refine NW.then ?_
  refine CW.cond rfl (fun hb1 => ?_) (fun hb1 => ?_)
  · replace h := h.1 hb1
    refine CW.seq ?_
    refine CW.region fun L hL => ?_
    refine LW.rd hL rfl (Wants.free rfl) rfl (Rd.assign (v := .int .i64 0) rfl) ?_
    refine LW.rd hL rfl (Wants.free rfl) rfl (Rd.assign (v := .int .i64 1) rfl) ?_
    refine LW.nil hL rfl ?_
    refine NW.then ?_
    refine CW.ret ?_
    refine RW.then ?_
    exact res2 rfl rfl rfl ⟨0, 1, rfl, h⟩
  · replace h := h.2 hb1
    refine CW.skip ?_
    refine NW.then ?_
    refine CW.seq ?_
    refine CW.seq ?_
    refine CW.region fun L hL => ?_
    refine LW.rd hL rfl (Wants.free rfl) rfl (Rd.move (v := .int .u32 set1) rfl) ?_
    refine LW.rd hL rfl (Wants.free rfl) rfl (Rd.bin (v := .bool (decide (set1 ≥ 65536))) rfl rfl (fun w => by kernel_rfl)) ?_
    refine LW.nil hL rfl ?_
    refine NW.then ?_
    refine CW.cond rfl (fun hb2 => ?_) (fun hb2 => ?_)
    · replace h := h.1 hb2
      refine CW.seq ?_
      refine CW.region fun L hL => ?_
      refine LW.rd hL rfl (Wants.free rfl) rfl (Rd.assign (v := .int .i64 0) rfl) ?_
      refine LW.rd hL rfl (Wants.free rfl) rfl (Rd.assign (v := .int .i64 2) rfl) ?_
      refine LW.nil hL rfl ?_
      refine NW.then ?_
      refine CW.ret ?_
      refine RW.then ?_
      exact res2 rfl rfl rfl ⟨0, 2, rfl, h⟩
    · replace h := h.2 hb2
      refine CW.skip ?_
      refine NW.then ?_
      refine CW.seq ?_
      refine CW.region fun L hL => ?_
      refine LW.rd hL rfl (Wants.free rfl) rfl (Rd.move (v := .pointer t1) rfl) ?_
      obtain ⟨a1, ha1, h⟩ := h
      refine LW.rd hL rfl (Wants.free rfl) rfl (Rd.nil (q := a1) (by rw [← ha1]; rfl)) ?_
      refine LW.rd hL rfl (Wants.free rfl) rfl (Rd.fa (v := .pointer (some (a1.add 2))) rfl (fun _ => by kernel_rfl)) ?_
      obtain ⟨t2, hc1, h⟩ := h
      refine LW.rd hL rfl (Wants.free rfl) rfl (Rd.ld (v := .map t2) rfl (by kernel_rfl) (eqs hc1)) ?_
      refine LW.rd hL rfl (Wants.free rfl) rfl (Rd.move (v := .int .u32 set1) rfl) ?_
      obtain ⟨v1, ok1, hl1, h⟩ := h
      refine LW.rd hL rfl (Wants.free rfl) rfl (Rd.lookup (v := .tuple #[.int .i64 v1, .bool ok1]) rfl rfl (fun _ e => e ▸ hl1)) ?_
      refine LW.rd hL rfl (Wants.free rfl) rfl (Rd.move (v := .tuple #[.int .i64 v1, .bool ok1]) rfl) ?_
      refine LW.rd hL rfl (Wants.free rfl) rfl (Rd.extract (v := .int .i64 v1) rfl rfl) ?_
      refine LW.rd hL rfl (Wants.free rfl) rfl (Rd.extract (v := .bool ok1) rfl rfl) ?_
      refine LW.rd hL rfl (Wants.free rfl) rfl (Rd.assign (v := .int .i64 v1) rfl) ?_
      refine LW.rd hL rfl (Wants.free rfl) rfl (Rd.assign (v := .bool ok1) rfl) ?_
      refine LW.nil hL rfl ?_
      refine NW.then ?_
      refine CW.seq ?_
      refine CW.seq ?_
      refine CW.region fun L hL => ?_
      refine LW.rd hL rfl (Wants.free rfl) rfl (Rd.move (v := .bool ok1) rfl) ?_
      refine LW.nil hL rfl ?_
      refine NW.then ?_
      refine CW.cond rfl (fun hb3 => ?_) (fun hb3 => ?_)
      · replace h := h.1 hb3
        refine CW.seq ?_
        refine CW.region fun L hL => ?_
        refine LW.rd hL rfl (Wants.free rfl) rfl (Rd.move (v := .int .i64 v1) rfl) ?_
        refine LW.rd hL rfl (Wants.free rfl) rfl (Rd.assign (v := .int .i64 v1) rfl) ?_
        refine LW.rd hL rfl (Wants.free rfl) rfl (Rd.assign (v := .int .i64 0) rfl) ?_
        refine LW.nil hL rfl ?_
        refine NW.then ?_
        refine CW.ret ?_
        refine RW.then ?_
        exact res2 rfl rfl rfl ⟨v1, 0, rfl, h⟩
      · replace h := h.2 hb3
        refine CW.skip ?_
        refine NW.then ?_
        refine CW.seq ?_
        refine CW.seq ?_
        replace h := h _ rfl
        refine CW.drawn (fun w => w = World.drew w1) 10 (by kernel_rfl) fun H hH => ?_
        generalize World.drew w1 = w2 at h hH ⊢
        refine HW.pure (i := 0) hH rfl (by kernel_rfl) (Wants.free rfl) rfl (fun _ => rfl) (Rd.move (v := .pointer t1) rfl) ?_
        obtain ⟨a2, ha2, h⟩ := h
        refine HW.pure (i := 1) hH rfl (by kernel_rfl) (Wants.free rfl) rfl (fun _ => rfl) (Rd.nil (q := a2) (by rw [← ha2]; rfl)) ?_
        refine HW.pure (i := 2) hH rfl (by kernel_rfl) (Wants.free rfl) rfl (fun _ => rfl) (Rd.fa (v := .pointer (some (a2.add 1))) rfl (fun _ => by kernel_rfl)) ?_
        obtain ⟨t3, t3n, t3c, hc2, h⟩ := h
        refine HW.take (i := 3) hH rfl (by kernel_rfl) (by kernel_rfl) (Wants.free rfl) rfl (fun _ => rfl) (Rd.ld (v := .slice t3 t3n t3c) rfl (by kernel_rfl) (eqs hc2)) ?_
        refine HW.pure (i := 4) hH rfl (by kernel_rfl) (Wants.free rfl) rfl (fun _ => rfl) (Rd.builtin (v := .int .i64 (t3n : Int)) rfl (fun _ _ => by kernel_rfl)) ?_
        refine HW.pure (i := 5) hH rfl (by kernel_rfl) (Wants.free rfl) rfl (fun _ => rfl) (Rd.move (v := .pointer t1) rfl) ?_
        obtain ⟨a3, ha3, h⟩ := h
        refine HW.pure (i := 6) hH rfl (by kernel_rfl) (Wants.free rfl) rfl (fun _ => rfl) (Rd.nil (q := a3) (by rw [← ha3]; rfl)) ?_
        refine HW.pure (i := 7) hH rfl (by kernel_rfl) (Wants.free rfl) rfl (fun _ => rfl) (Rd.fa (v := .pointer (some a3)) rfl (fun _ => by kernel_rfl)) ?_
        obtain ⟨t4, hc3, h⟩ := h
        refine HW.take (i := 8) hH rfl (by kernel_rfl) (by kernel_rfl) (Wants.free rfl) rfl (fun _ => rfl) (Rd.ld (v := .int .i64 t4) rfl (by kernel_rfl) (eqs hc3)) ?_
        refine HW.pure (i := 9) hH rfl (by kernel_rfl) (Wants.free rfl) rfl (fun _ => rfl) (Rd.bin (v := .bool (decide ((t3n : Int) ≥ t4))) rfl rfl (fun w => by kernel_rfl)) ?_
        refine HW.done hH (by kernel_rfl) ?_
        refine NW.then ?_
        refine CW.cond rfl (fun hb4 => ?_) (fun hb4 => ?_)
        · replace h := h.1 hb4
          refine CW.seq ?_
          refine CW.region fun L hL => ?_
          refine LW.rd hL rfl (Wants.free rfl) rfl (Rd.assign (v := .int .i64 0) rfl) ?_
          refine LW.rd hL rfl (Wants.free rfl) rfl (Rd.assign (v := .int .i64 120) rfl) ?_
          refine LW.nil hL rfl ?_
          refine NW.then ?_
          refine CW.ret ?_
          refine RW.then ?_
          exact res2 rfl rfl rfl ⟨0, 120, rfl, h⟩
        · replace h := h.2 hb4
          refine CW.skip ?_
          refine NW.then ?_
          refine CW.seq ?_
          replace h := h _ rfl
          refine CW.drawn (fun w => w = World.drew w2) 10 (by kernel_rfl) fun H hH => ?_
          generalize World.drew w2 = w3 at h hH ⊢
          refine HW.pure (i := 0) hH rfl (by kernel_rfl) (Wants.free rfl) rfl (fun _ => rfl) (Rd.move (v := .pointer t1) rfl) ?_
          obtain ⟨a4, ha4, h⟩ := h
          refine HW.pure (i := 1) hH rfl (by kernel_rfl) (Wants.free rfl) rfl (fun _ => rfl) (Rd.nil (q := a4) (by rw [← ha4]; rfl)) ?_
          refine HW.pure (i := 2) hH rfl (by kernel_rfl) (Wants.free rfl) rfl (fun _ => rfl) (Rd.fa (v := .pointer (some (a4.add 2))) rfl (fun _ => by kernel_rfl)) ?_
          obtain ⟨t5, hc4, h⟩ := h
          refine HW.take (i := 3) hH rfl (by kernel_rfl) (by kernel_rfl) (Wants.free rfl) rfl (fun _ => rfl) (Rd.ld (v := .map t5) rfl (by kernel_rfl) (eqs hc4)) ?_
          refine HW.pure (i := 4) hH rfl (by kernel_rfl) (Wants.free rfl) rfl (fun _ => rfl) (Rd.move (v := .int .u32 set1) rfl) ?_
          refine HW.pure (i := 5) hH rfl (by kernel_rfl) (Wants.free rfl) rfl (fun _ => rfl) (Rd.move (v := .pointer t1) rfl) ?_
          obtain ⟨a5, ha5, h⟩ := h
          refine HW.pure (i := 6) hH rfl (by kernel_rfl) (Wants.free rfl) rfl (fun _ => rfl) (Rd.nil (q := a5) (by rw [← ha5]; rfl)) ?_
          refine HW.pure (i := 7) hH rfl (by kernel_rfl) (Wants.free rfl) rfl (fun _ => rfl) (Rd.fa (v := .pointer (some (a5.add 1))) rfl (fun _ => by kernel_rfl)) ?_
          obtain ⟨t6, t6n, t6c, hc5, h⟩ := h
          refine HW.take (i := 8) hH rfl (by kernel_rfl) (by kernel_rfl) (Wants.free rfl) rfl (fun _ => rfl) (Rd.ld (v := .slice t6 t6n t6c) rfl (by kernel_rfl) (eqs hc5)) ?_
          refine HW.pure (i := 9) hH rfl (by kernel_rfl) (Wants.free rfl) rfl (fun _ => rfl) (Rd.builtin (v := .int .i64 (t6n : Int)) rfl (fun _ _ => by kernel_rfl)) ?_
          obtain ⟨w4, hm1, h⟩ := h
          refine HW.eff (i := 10) hH (by kernel_rfl) rfl (Wants.free rfl) rfl (Ef.mapUpdate rfl rfl rfl hm1) (fun hc => by cases hc) ?_
          refine HW.done hH (by kernel_rfl) ?_
          refine NW.then ?_
          refine CW.seq ?_
          refine CW.region fun L hL => ?_
          refine LW.rd hL rfl (Wants.free rfl) rfl (Rd.move (v := .pointer t1) rfl) ?_
          refine LW.rd hL rfl (Wants.free rfl) rfl (Rd.move (v := .pointer t1) rfl) ?_
          obtain ⟨a6, ha6, h⟩ := h
          refine LW.rd hL rfl (Wants.free rfl) rfl (Rd.nil (q := a6) (by rw [← ha6]; rfl)) ?_
          refine LW.rd hL rfl (Wants.free rfl) rfl (Rd.fa (v := .pointer (some (a6.add 1))) rfl (fun _ => by kernel_rfl)) ?_
          obtain ⟨t7, t7n, t7c, hc6, h⟩ := h
          refine LW.rd hL rfl (Wants.free rfl) rfl (Rd.ld (v := .slice t7 t7n t7c) rfl (by kernel_rfl) (eqs hc6)) ?_
          refine LW.rd hL rfl (Wants.free rfl) rfl (Rd.move (v := .int .u32 set1) rfl) ?_
          obtain ⟨b1, hb_b1⟩ : ∃ b1, b1 = World.size w4 := ⟨_, rfl⟩
          obtain ⟨w5, hw_w5⟩ : ∃ w5, w5 = World.alloc w4 (.cells #[.int .u32 set1] 22) := ⟨_, rfl⟩
          replace h := h b1 hb_b1 w5 hw_w5
          refine LW.val hL rfl (Wants.free rfl) rfl (sliceE (n := 1) hb_b1 hw_w5 (fun w => Vl.buildSlice (vs := [(0, .int .u32 set1)]) rfl (by kernel_rfl))) ?_
          obtain ⟨l1, l1n, l1c, w6, ha7, h⟩ := h
          refine LW.val hL rfl (Wants.free rfl) rfl (Vl.builtin (v := .slice l1 l1n l1c) rfl (valB ha7)) ?_
          obtain ⟨a7, ha8, h⟩ := h
          refine LW.rd hL rfl (Wants.free rfl) rfl (Rd.nil (q := a7) (by rw [← ha8]; rfl)) ?_
          refine LW.rd hL rfl (Wants.free rfl) rfl (Rd.fa (v := .pointer (some (a7.add 1))) rfl (fun _ => by kernel_rfl)) ?_
          obtain ⟨⟨o_w7, ho1⟩, hf1, h⟩ := h
          obtain ⟨w7, hw_w7⟩ : ∃ w7, w7 = World.setCell w6 (a7.add 1) (.slice l1 l1n l1c) := ⟨_, rfl⟩
          replace h := h w7 hw_w7
          refine LW.eff hL rfl (Wants.free rfl) rfl (stE hw_w7 (Ef.st rfl rfl rfl (by kernel_rfl) ho1 hf1)) ?_
          refine LW.nil hL rfl ?_
          refine NW.then ?_
          refine CW.seq ?_
          refine CW.region fun L hL => ?_
          refine LW.rd hL rfl (Wants.free rfl) rfl (Rd.move (v := .pointer t1) rfl) ?_
          obtain ⟨a8, ha9, h⟩ := h
          refine LW.rd hL rfl (Wants.free rfl) rfl (Rd.nil (q := a8) (by rw [← ha9]; rfl)) ?_
          refine LW.rd hL rfl (Wants.free rfl) rfl (Rd.fa (v := .pointer (some (a8.add 2))) rfl (fun _ => by kernel_rfl)) ?_
          obtain ⟨t8, hc7, h⟩ := h
          refine LW.rd hL rfl (Wants.free rfl) rfl (Rd.ld (v := .map t8) rfl (by kernel_rfl) (eqs hc7)) ?_
          refine LW.rd hL rfl (Wants.free rfl) rfl (Rd.move (v := .int .u32 set1) rfl) ?_
          obtain ⟨v2, hl2, h⟩ := h
          refine LW.rd hL rfl (Wants.free rfl) rfl (Rd.lookup (v := .int .i64 v2) rfl rfl (fun _ e => e ▸ hl2)) ?_
          refine LW.rd hL rfl (Wants.free rfl) rfl (Rd.assign (v := .int .i64 v2) rfl) ?_
          refine LW.rd hL rfl (Wants.free rfl) rfl (Rd.assign (v := .int .i64 0) rfl) ?_
          refine LW.nil hL rfl ?_
          refine NW.then ?_
          refine CW.ret ?_
          exact res2 rfl rfl rfl ⟨v2, 0, rfl, h⟩

/- (*pomander/labels.Table).none -/
def V_labels_Table_none (t1 : Option Addr) (w : World) (R : Bool → World → Prop) : Prop :=
  ∃ J1 : Bool → World → Prop, (∀ (b1 : Bool) (w1 : World), J1 b1 w1 → R b1 w1) ∧ (((Option.isNone t1) = false → ∃ a1 : Addr, t1 = some a1 ∧ (∃ (t2 : Option Addr) (t2n : Nat) (t2c : Nat), w.cell? (a1.add 1) = some (.slice t2 t2n t2c) ∧ (J1 ((t2n : Int) == 0) w))) ∧ ((Option.isNone t1) = true → J1 true w))
set_option maxRecDepth 100000 in
theorem ok_labels_Table_none (t1 : Option Addr) (w : World) (R : Bool → World → Prop) (h : V_labels_Table_none t1 w R) : Calls Try.prog 110 #[.pointer t1] w (fun e w' => ∃ (r1 : Bool), e = .returned (.bool r1) ∧ R r1 w') := by
  unfold V_labels_Table_none at h
  refine enter (N := 13) Try.func110 rfl rfl ?_
  refine CW.seq ?_
  refine CW.region fun L hL => ?_
  refine LW.rd hL rfl (Wants.free rfl) rfl (Rd.assign (v := .bool false) rfl) ?_
  refine LW.nil hL rfl ?_
  refine NW.then ?_
  refine CW.seq ?_
  refine CW.region fun L hL => ?_
  refine LW.rd hL rfl (Wants.free rfl) rfl (Rd.move (v := .pointer t1) rfl) ?_
  refine LW.rd hL rfl (Wants.free rfl) rfl (Rd.bin (v := .bool (Option.isNone t1)) rfl rfl (fun w => ptr_nil_eq (by kernel_rfl) t1 w)) ?_
  refine LW.rd hL rfl (Wants.free rfl) rfl (Rd.move (v := .bool (Option.isNone t1)) rfl) ?_
  obtain ⟨J1, hJ1, h1_J1, h0_J1⟩ := h
  suffices K1 : ∀ (b1 : Bool) (w1 : World), J1 b1 w1 → L 10 [(2, .bool false), (12, .bool b1)] w1 by
    rcases Bool.eq_false_or_eq_true (Option.isNone t1) with hb1 | hb1
    · have h := h0_J1 hb1
      refine LW.skip hL rfl (Skips.on rfl rfl rfl rfl rfl hb1) rfl ?_
      refine LW.skip hL rfl (Skips.on rfl rfl rfl rfl rfl hb1) rfl ?_
      refine LW.skip hL rfl (Skips.on rfl rfl rfl rfl rfl hb1) rfl ?_
      refine LW.skip hL rfl (Skips.on rfl rfl rfl rfl rfl hb1) rfl ?_
      refine LW.skip hL rfl (Skips.on rfl rfl rfl rfl rfl hb1) rfl ?_
      refine LW.skip hL rfl (Skips.on rfl rfl rfl rfl rfl hb1) rfl ?_
      refine LW.rd hL rfl (Wants.free rfl) rfl (Rd.pickT rfl hb1 rfl) ?_
      exact LW.sub hL (by exact ⟨rfl, rfl, trivial⟩) (K1 true w h)
    · have h := h1_J1 hb1
      refine LW.rd hL rfl (Wants.on rfl rfl rfl rfl rfl hb1) rfl (Rd.move (v := .pointer t1) rfl) ?_
      obtain ⟨a1, ha1, h⟩ := h
      refine LW.rd hL rfl (Wants.on rfl rfl rfl rfl rfl hb1) rfl (Rd.nil (q := a1) (by rw [← ha1]; rfl)) ?_
      refine LW.rd hL rfl (Wants.on rfl rfl rfl rfl rfl hb1) rfl (Rd.fa (v := .pointer (some (a1.add 1))) rfl (fun _ => by kernel_rfl)) ?_
      obtain ⟨t2, t2n, t2c, hc1, h⟩ := h
      refine LW.rd hL rfl (Wants.on rfl rfl rfl rfl rfl hb1) rfl (Rd.ld (v := .slice t2 t2n t2c) rfl (by kernel_rfl) (eqs hc1)) ?_
      refine LW.rd hL rfl (Wants.on rfl rfl rfl rfl rfl hb1) rfl (Rd.builtin (v := .int .i64 (t2n : Int)) rfl (fun _ _ => by kernel_rfl)) ?_
      refine LW.rd hL rfl (Wants.on rfl rfl rfl rfl rfl hb1) rfl (Rd.bin (v := .bool ((t2n : Int) == 0)) rfl rfl (fun w => by kernel_rfl)) ?_
      refine LW.rd hL rfl (Wants.free rfl) rfl (Rd.pickF rfl hb1 rfl) ?_
      exact LW.sub hL (by exact ⟨rfl, rfl, trivial⟩) (K1 ((t2n : Int) == 0) w h)
  intro b1 w1 h_
  have h := hJ1 b1 w1 h_; clear h_
  refine LW.rd hL rfl (Wants.free rfl) rfl (Rd.assign (v := .bool b1) rfl) ?_
  refine LW.nil hL rfl ?_
  refine NW.then ?_
  refine CW.ret ?_
  exact res1 rfl rfl ⟨b1, rfl, h⟩

/- (pomander/pomanderref02.Table).Has -/
def V_pomanderref02_Table_Has (t1 : Int) (t2 : Option Addr) (t2n : Nat) (t2c : Nat) (set1 : Int) (w : World) (R : Int → World → Prop) : Prop :=
  ∀ b1 : Nat, b1 = World.size w → ∀ w1 : World, w1 = World.alloc w (.cells #[.int .i64 t1, .slice t2 t2n t2c] 33) → (∃ (I1 : Int × Int → World → Prop) (m1 : Int × Int → World → Nat), I1 (0, 0) w1 ∧ ∀ (s1 : Int × Int) (w2 : World), I1 s1 w2 → ∃ (t3 : Option Addr) (t3n : Nat) (t3c : Nat), w2.cell? (⟨b1, 1, none⟩ : Addr) = some (.slice t3 t3n t3c) ∧ (((decide (s1.2 < (t3n : Int))) = true → ∃ (t4 : Option Addr) (t4n : Nat) (t4c : Nat), w2.cell? (⟨b1, 1, none⟩ : Addr) = some (.slice t4 t4n t4c) ∧ (∃ a1 : Addr, t4 = some a1 ∧ (0 : Int) ≤ s1.2 ∧ s1.2 < (t4n : Int) ∧ (∃ (t5 : Int), w2.cell? (a1.add (Int.toNat s1.2 * 1)) = some (.int .u32 t5) ∧ (((t5 == set1) = true → R s1.2 w2) ∧ ((t5 == set1) = false → (I1 (s1.1, IntKind.wrap .i64 (s1.2 + 1)) w2 ∧ m1 (s1.1, IntKind.wrap .i64 (s1.2 + 1)) w2 < m1 s1 w2)))))) ∧ ((decide (s1.2 < (t3n : Int))) = false → R (-1) w2)))
set_option maxRecDepth 100000 in
theorem ok_pomanderref02_Table_Has (t1 : Int) (t2 : Option Addr) (t2n : Nat) (t2c : Nat) (set1 : Int) (w : World) (R : Int → World → Prop) (h : V_pomanderref02_Table_Has t1 t2 t2n t2c set1 w R) : Calls Try.prog 124 #[.agg #[.int .i64 t1, .slice t2 t2n t2c], .int .u32 set1] w (fun e w' => ∃ (r1 : Int), e = .returned (.int .i64 r1) ∧ R r1 w') := by
  unfold V_pomanderref02_Table_Has at h
  refine enter (N := 21) Try.func124 rfl rfl ?_
  refine CW.seq ?_
  refine CW.region fun L hL => ?_
  obtain ⟨b1, hb_b1⟩ : ∃ b1, b1 = World.size w := ⟨_, rfl⟩
  obtain ⟨w1, hw_w1⟩ : ∃ w1, w1 = World.alloc w (.cells #[.int .i64 t1, .slice t2 t2n t2c] 33) := ⟨_, rfl⟩
  replace h := h b1 hb_b1 w1 hw_w1
  refine LW.val hL rfl (Wants.free rfl) rfl (boxE hb_b1 hw_w1 (Vl.box (v := .agg #[.int .i64 t1, .slice t2 t2n t2c]) rfl)) ?_
  refine LW.rd hL rfl (Wants.free rfl) rfl (Rd.assign (v := .int .i64 0) rfl) ?_
  refine LW.nil hL rfl ?_
  refine NW.then ?_
  refine CW.seq ?_
  refine CW.seq ?_
  refine CW.region fun L hL => ?_
  refine LW.rd hL rfl (Wants.free rfl) rfl (Rd.assign (v := .int .i64 0) rfl) ?_
  refine LW.nil hL rfl ?_
  refine NW.then ?_
  refine CW.block ?_
  obtain ⟨I1, m1, hI1, h⟩ := h
  refine CW.loop (S := Int × Int) (fun s1 => [(1, .int .u32 set1), (2, .pointer (some (⟨b1, 0, none⟩ : Addr))), (4, .int .i64 s1.1), (5, .int .i64 s1.2)]) I1 m1 (0, 0) (by exact ⟨rfl, rfl, rfl, rfl, trivial⟩) hI1 (fun s1 w2 hI1 => ?_)
  replace h := h s1 w2 hI1
  refine CW.seq ?_
  refine CW.seq ?_
  refine CW.region fun L hL => ?_
  refine LW.rd hL rfl (Wants.free rfl) rfl (Rd.move (v := .int .i64 s1.2) rfl) ?_
  refine LW.rd hL rfl (Wants.free rfl) rfl (Rd.fa (v := .pointer (some (⟨b1, 1, none⟩ : Addr))) rfl (fun _ => by kernel_rfl)) ?_
  obtain ⟨t3, t3n, t3c, hc1, h⟩ := h
  refine LW.rd hL rfl (Wants.free rfl) rfl (Rd.ld (v := .slice t3 t3n t3c) rfl (by kernel_rfl) (eqs hc1)) ?_
  refine LW.rd hL rfl (Wants.free rfl) rfl (Rd.builtin (v := .int .i64 (t3n : Int)) rfl (fun _ _ => by kernel_rfl)) ?_
  refine LW.rd hL rfl (Wants.free rfl) rfl (Rd.bin (v := .bool (decide (s1.2 < (t3n : Int)))) rfl rfl (fun w => by kernel_rfl)) ?_
  refine LW.nil hL rfl ?_
  refine NW.then ?_
  refine CW.cond rfl (fun hb1 => ?_) (fun hb1 => ?_)
  · replace h := h.1 hb1
    refine CW.skip ?_
    refine NW.then ?_
    refine CW.seq ?_
    refine CW.block ?_
    refine CW.seq ?_
    refine CW.region fun L hL => ?_
    refine LW.rd hL rfl (Wants.free rfl) rfl (Rd.fa (v := .pointer (some (⟨b1, 1, none⟩ : Addr))) rfl (fun _ => by kernel_rfl)) ?_
    obtain ⟨t4, t4n, t4c, hc2, h⟩ := h
    refine LW.rd hL rfl (Wants.free rfl) rfl (Rd.ld (v := .slice t4 t4n t4c) rfl (by kernel_rfl) (eqs hc2)) ?_
    refine LW.rd hL rfl (Wants.free rfl) rfl (Rd.move (v := .int .i64 s1.2) rfl) ?_
    obtain ⟨a1, he1, hi1, hi2, h⟩ := h
    refine LW.rd hL rfl (Wants.free rfl) rfl (Rd.iaS (q := a1) (sz := 1) (by rw [← he1]; rfl) rfl Try.underlying31 (by kernel_rfl) hi1 hi2) ?_
    obtain ⟨t5, hc3, h⟩ := h
    refine LW.rd hL rfl (Wants.free rfl) rfl (Rd.ld (v := .int .u32 t5) rfl (by kernel_rfl) (eqs hc3)) ?_
    refine LW.rd hL rfl (Wants.free rfl) rfl (Rd.move (v := .int .u32 set1) rfl) ?_
    refine LW.rd hL rfl (Wants.free rfl) rfl (Rd.bin (v := .bool (t5 == set1)) rfl rfl (fun w => by kernel_rfl)) ?_
    refine LW.nil hL rfl ?_
    refine NW.then ?_
    refine CW.cond rfl (fun hb2 => ?_) (fun hb2 => ?_)
    · replace h := h.1 hb2
      refine CW.seq ?_
      refine CW.region fun L hL => ?_
      refine LW.rd hL rfl (Wants.free rfl) rfl (Rd.move (v := .int .i64 s1.2) rfl) ?_
      refine LW.rd hL rfl (Wants.free rfl) rfl (Rd.assign (v := .int .i64 s1.2) rfl) ?_
      refine LW.nil hL rfl ?_
      refine NW.then ?_
      refine CW.ret ?_
      refine RW.block ?_
      refine RW.then ?_
      refine RW.then ?_
      refine RW.block ?_
      refine RW.then ?_
      exact res1 rfl rfl ⟨s1.2, rfl, h⟩
    · replace h := h.2 hb2
      refine CW.skip ?_
      refine NW.block ?_
      refine NW.then ?_
      refine CW.region fun L hL => ?_
      refine LW.rd hL rfl (Wants.free rfl) rfl (Rd.move (v := .int .i64 s1.2) rfl) ?_
      refine LW.rd hL rfl (Wants.free rfl) rfl (Rd.bin (v := .int .i64 (IntKind.wrap .i64 (s1.2 + 1))) rfl rfl (fun w => by kernel_rfl)) ?_
      refine LW.rd hL rfl (Wants.free rfl) rfl (Rd.assign (v := .int .i64 (IntKind.wrap .i64 (s1.2 + 1))) rfl) ?_
      refine LW.nil hL rfl ?_
      exact NW.loop (S := Int × Int) (Ek := fun s1 => [(1, .int .u32 set1), (2, .pointer (some (⟨b1, 0, none⟩ : Addr))), (4, .int .i64 s1.1), (5, .int .i64 s1.2)]) (s1.1, IntKind.wrap .i64 (s1.2 + 1)) (by exact ⟨rfl, rfl, rfl, rfl, trivial⟩) h
  · replace h := h.2 hb1
    refine CW.exit ?_
    refine XW.then ?_
    refine XW.then ?_
    refine XW.hit ?_
    refine NW.then ?_
    refine CW.seq ?_
    refine CW.region fun L hL => ?_
    refine LW.rd hL rfl (Wants.free rfl) rfl (Rd.assign (v := .int .i64 (-1)) rfl) ?_
    refine LW.nil hL rfl ?_
    refine NW.then ?_
    refine CW.ret ?_
    exact res1 rfl rfl ⟨(-1), rfl, h⟩

/- pomander/pomanderref12.ahead -/
def V_pomanderref12_ahead (a1 : Int) (a2 : Int) (b1 : Int) (b2 : Int) (w : World) (R : Bool → World → Prop) : Prop :=
  ∀ b3 : Nat, b3 = World.size w → ∀ w1 : World, w1 = World.alloc w (.cells #[.int .i64 a1, .int .i64 a2] 56) → (∀ b4 : Nat, b4 = World.size w1 → ∀ w2 : World, w2 = World.alloc w1 (.cells #[.int .i64 b1, .int .i64 b2] 56) → (∃ (t1 : Int), w2.cell? (⟨b3, 0, none⟩ : Addr) = some (.int .i64 t1) ∧ (∃ (t2 : Int), w2.cell? (⟨b4, 0, none⟩ : Addr) = some (.int .i64 t2) ∧ (∃ J1 : Bool → World → Prop, (∀ (b5 : Bool) (w3 : World), J1 b5 w3 → R b5 w3) ∧ (((decide (t1 < t2)) = false → ∃ (t3 : Int), w2.cell? (⟨b3, 0, none⟩ : Addr) = some (.int .i64 t3) ∧ (∃ (t4 : Int), w2.cell? (⟨b4, 0, none⟩ : Addr) = some (.int .i64 t4) ∧ (∃ J2 : Bool → World → Prop, (∀ (b6 : Bool) (w4 : World), J2 b6 w4 → J1 b6 w4) ∧ (((t3 == t4) = true → ∃ (t5 : Int), w2.cell? (⟨b3, 1, none⟩ : Addr) = some (.int .i64 t5) ∧ (∃ (t6 : Int), w2.cell? (⟨b4, 1, none⟩ : Addr) = some (.int .i64 t6) ∧ (J2 (decide (t5 < t6)) w2))) ∧ ((t3 == t4) = false → J2 false w2))))) ∧ ((decide (t1 < t2)) = true → J1 true w2))))))
set_option maxRecDepth 100000 in
theorem ok_pomanderref12_ahead (a1 : Int) (a2 : Int) (b1 : Int) (b2 : Int) (w : World) (R : Bool → World → Prop) (h : V_pomanderref12_ahead a1 a2 b1 b2 w R) : Calls Try.prog 125 #[.agg #[.int .i64 a1, .int .i64 a2], .agg #[.int .i64 b1, .int .i64 b2]] w (fun e w' => ∃ (r1 : Bool), e = .returned (.bool r1) ∧ R r1 w') := by
  unfold V_pomanderref12_ahead at h
  refine enter (N := 24) Try.func125 rfl rfl ?_
  refine CW.seq ?_
  refine CW.region fun L hL => ?_
  obtain ⟨b3, hb_b3⟩ : ∃ b3, b3 = World.size w := ⟨_, rfl⟩
  obtain ⟨w1, hw_w1⟩ : ∃ w1, w1 = World.alloc w (.cells #[.int .i64 a1, .int .i64 a2] 56) := ⟨_, rfl⟩
  replace h := h b3 hb_b3 w1 hw_w1
  refine LW.val hL rfl (Wants.free rfl) rfl (boxE hb_b3 hw_w1 (Vl.box (v := .agg #[.int .i64 a1, .int .i64 a2]) rfl)) ?_
  obtain ⟨b4, hb_b4⟩ : ∃ b4, b4 = World.size w1 := ⟨_, rfl⟩
  obtain ⟨w2, hw_w2⟩ : ∃ w2, w2 = World.alloc w1 (.cells #[.int .i64 b1, .int .i64 b2] 56) := ⟨_, rfl⟩
  replace h := h b4 hb_b4 w2 hw_w2
  refine LW.val hL rfl (Wants.free rfl) rfl (boxE hb_b4 hw_w2 (Vl.box (v := .agg #[.int .i64 b1, .int .i64 b2]) rfl)) ?_
  refine LW.rd hL rfl (Wants.free rfl) rfl (Rd.assign (v := .bool false) rfl) ?_
  refine LW.nil hL rfl ?_
  refine NW.then ?_
  refine CW.seq ?_
  refine CW.region fun L hL => ?_
  refine LW.rd hL rfl (Wants.free rfl) rfl (Rd.fa (v := .pointer (some (⟨b3, 0, none⟩ : Addr))) rfl (fun _ => by kernel_rfl)) ?_
  obtain ⟨t1, hc1, h⟩ := h
  refine LW.rd hL rfl (Wants.free rfl) rfl (Rd.ld (v := .int .i64 t1) rfl (by kernel_rfl) (eqs hc1)) ?_
  refine LW.rd hL rfl (Wants.free rfl) rfl (Rd.fa (v := .pointer (some (⟨b4, 0, none⟩ : Addr))) rfl (fun _ => by kernel_rfl)) ?_
  obtain ⟨t2, hc2, h⟩ := h
  refine LW.rd hL rfl (Wants.free rfl) rfl (Rd.ld (v := .int .i64 t2) rfl (by kernel_rfl) (eqs hc2)) ?_
  refine LW.rd hL rfl (Wants.free rfl) rfl (Rd.bin (v := .bool (decide (t1 < t2))) rfl rfl (fun w => by kernel_rfl)) ?_
  refine LW.rd hL rfl (Wants.free rfl) rfl (Rd.move (v := .bool (decide (t1 < t2))) rfl) ?_
  obtain ⟨J1, hJ1, h1_J1, h0_J1⟩ := h
  suffices K1 : ∀ (b5 : Bool) (w3 : World), J1 b5 w3 → L 19 [(4, .bool false), (23, .bool b5)] w3 by
    rcases Bool.eq_false_or_eq_true (decide (t1 < t2)) with hb1 | hb1
    · have h := h0_J1 hb1
      refine LW.skip hL rfl (Skips.on rfl rfl rfl rfl rfl hb1) rfl ?_
      refine LW.skip hL rfl (Skips.on rfl rfl rfl rfl rfl hb1) rfl ?_
      refine LW.skip hL rfl (Skips.on rfl rfl rfl rfl rfl hb1) rfl ?_
      refine LW.skip hL rfl (Skips.on rfl rfl rfl rfl rfl hb1) rfl ?_
      refine LW.skip hL rfl (Skips.on rfl rfl rfl rfl rfl hb1) rfl ?_
      refine LW.skip hL rfl (Skips.on rfl rfl rfl rfl rfl hb1) rfl ?_
      refine LW.skip hL rfl (Skips.un rfl rfl rfl rfl rfl) rfl ?_
      refine LW.skip hL rfl (Skips.un rfl rfl rfl rfl rfl) rfl ?_
      refine LW.skip hL rfl (Skips.un rfl rfl rfl rfl rfl) rfl ?_
      refine LW.skip hL rfl (Skips.un rfl rfl rfl rfl rfl) rfl ?_
      refine LW.skip hL rfl (Skips.un rfl rfl rfl rfl rfl) rfl ?_
      refine LW.skip hL rfl (Skips.on rfl rfl rfl rfl rfl hb1) rfl ?_
      refine LW.rd hL rfl (Wants.free rfl) rfl (Rd.pickT rfl hb1 rfl) ?_
      exact LW.sub hL (by exact ⟨rfl, rfl, trivial⟩) (K1 true w2 h)
    · have h := h1_J1 hb1
      refine LW.rd hL rfl (Wants.on rfl rfl rfl rfl rfl hb1) rfl (Rd.fa (v := .pointer (some (⟨b3, 0, none⟩ : Addr))) rfl (fun _ => by kernel_rfl)) ?_
      obtain ⟨t3, hc3, h⟩ := h
      refine LW.rd hL rfl (Wants.on rfl rfl rfl rfl rfl hb1) rfl (Rd.ld (v := .int .i64 t3) rfl (by kernel_rfl) (eqs hc3)) ?_
      refine LW.rd hL rfl (Wants.on rfl rfl rfl rfl rfl hb1) rfl (Rd.fa (v := .pointer (some (⟨b4, 0, none⟩ : Addr))) rfl (fun _ => by kernel_rfl)) ?_
      obtain ⟨t4, hc4, h⟩ := h
      refine LW.rd hL rfl (Wants.on rfl rfl rfl rfl rfl hb1) rfl (Rd.ld (v := .int .i64 t4) rfl (by kernel_rfl) (eqs hc4)) ?_
      refine LW.rd hL rfl (Wants.on rfl rfl rfl rfl rfl hb1) rfl (Rd.bin (v := .bool (t3 == t4)) rfl rfl (fun w => by kernel_rfl)) ?_
      refine LW.rd hL rfl (Wants.on rfl rfl rfl rfl rfl hb1) rfl (Rd.move (v := .bool (t3 == t4)) rfl) ?_
      obtain ⟨J2, hJ2, h1_J2, h0_J2⟩ := h
      suffices K2 : ∀ (b6 : Bool) (w4 : World), J2 b6 w4 → L 18 [(4, .bool false), (10, .bool (decide (t1 < t2))), (22, .bool b6)] w4 by
        rcases Bool.eq_false_or_eq_true (t3 == t4) with hb2 | hb2
        · have h := h1_J2 hb2
          refine LW.rd hL rfl (Wants.on rfl rfl rfl rfl rfl hb2) rfl (Rd.fa (v := .pointer (some (⟨b3, 1, none⟩ : Addr))) rfl (fun _ => by kernel_rfl)) ?_
          obtain ⟨t5, hc5, h⟩ := h
          refine LW.rd hL rfl (Wants.on rfl rfl rfl rfl rfl hb2) rfl (Rd.ld (v := .int .i64 t5) rfl (by kernel_rfl) (eqs hc5)) ?_
          refine LW.rd hL rfl (Wants.on rfl rfl rfl rfl rfl hb2) rfl (Rd.fa (v := .pointer (some (⟨b4, 1, none⟩ : Addr))) rfl (fun _ => by kernel_rfl)) ?_
          obtain ⟨t6, hc6, h⟩ := h
          refine LW.rd hL rfl (Wants.on rfl rfl rfl rfl rfl hb2) rfl (Rd.ld (v := .int .i64 t6) rfl (by kernel_rfl) (eqs hc6)) ?_
          refine LW.rd hL rfl (Wants.on rfl rfl rfl rfl rfl hb2) rfl (Rd.bin (v := .bool (decide (t5 < t6))) rfl rfl (fun w => by kernel_rfl)) ?_
          refine LW.rd hL rfl (Wants.on rfl rfl rfl rfl rfl hb1) rfl (Rd.pickT rfl hb2 rfl) ?_
          exact LW.sub hL (by exact ⟨rfl, rfl, rfl, trivial⟩) (K2 (decide (t5 < t6)) w2 h)
        · have h := h0_J2 hb2
          refine LW.skip hL rfl (Skips.on rfl rfl rfl rfl rfl hb2) rfl ?_
          refine LW.skip hL rfl (Skips.on rfl rfl rfl rfl rfl hb2) rfl ?_
          refine LW.skip hL rfl (Skips.on rfl rfl rfl rfl rfl hb2) rfl ?_
          refine LW.skip hL rfl (Skips.on rfl rfl rfl rfl rfl hb2) rfl ?_
          refine LW.skip hL rfl (Skips.on rfl rfl rfl rfl rfl hb2) rfl ?_
          refine LW.rd hL rfl (Wants.on rfl rfl rfl rfl rfl hb1) rfl (Rd.pickF rfl hb2 rfl) ?_
          exact LW.sub hL (by exact ⟨rfl, rfl, rfl, trivial⟩) (K2 false w2 h)
      intro b6 w4 h_
      have h := hJ2 b6 w4 h_; clear h_
      refine LW.rd hL rfl (Wants.free rfl) rfl (Rd.pickF rfl hb1 rfl) ?_
      exact LW.sub hL (by exact ⟨rfl, rfl, trivial⟩) (K1 b6 w4 h)
  intro b5 w3 h_
  have h := hJ1 b5 w3 h_; clear h_
  refine LW.rd hL rfl (Wants.free rfl) rfl (Rd.assign (v := .bool b5) rfl) ?_
  refine LW.nil hL rfl ?_
  refine NW.then ?_
  refine CW.ret ?_
  exact res1 rfl rfl ⟨b5, rfl, h⟩

/- (*pomander/flow.Flow).bounds$1 -/
def V_flow_Flow_bounds_1  (w : World) (R : Int → World → Prop) : Prop :=
  R 1 w
set_option maxRecDepth 100000 in
theorem ok_flow_Flow_bounds_1  (w : World) (R : Int → World → Prop) (h : V_flow_Flow_bounds_1  w R) : Calls Try.prog 127 #[] w (fun e w' => ∃ (r1 : Int), e = .returned (.int .i64 r1) ∧ R r1 w') := by
  unfold V_flow_Flow_bounds_1 at h
  refine enter (N := 1) Try.func127 rfl rfl ?_
  refine CW.seq ?_
  refine CW.region fun L hL => ?_
  refine LW.rd hL rfl (Wants.free rfl) rfl (Rd.assign (v := .int .i64 0) rfl) ?_
  refine LW.nil hL rfl ?_
  refine NW.then ?_
  refine CW.seq ?_
  refine CW.region fun L hL => ?_
  refine LW.rd hL rfl (Wants.free rfl) rfl (Rd.assign (v := .int .i64 1) rfl) ?_
  refine LW.nil hL rfl ?_
  refine NW.then ?_
  refine CW.ret ?_
  exact res1 rfl rfl ⟨1, rfl, h⟩

/- (*pomander/flow.Flow).bounds$2 -/
def V_flow_Flow_bounds_2  (w : World) (R : Int → World → Prop) : Prop :=
  R 2147483648 w
set_option maxRecDepth 100000 in
theorem ok_flow_Flow_bounds_2  (w : World) (R : Int → World → Prop) (h : V_flow_Flow_bounds_2  w R) : Calls Try.prog 128 #[] w (fun e w' => ∃ (r1 : Int), e = .returned (.int .i64 r1) ∧ R r1 w') := by
  unfold V_flow_Flow_bounds_2 at h
  refine enter (N := 1) Try.func128 rfl rfl ?_
  refine CW.seq ?_
  refine CW.region fun L hL => ?_
  refine LW.rd hL rfl (Wants.free rfl) rfl (Rd.assign (v := .int .i64 0) rfl) ?_
  refine LW.nil hL rfl ?_
  refine NW.then ?_
  refine CW.seq ?_
  refine CW.region fun L hL => ?_
  refine LW.rd hL rfl (Wants.free rfl) rfl (Rd.assign (v := .int .i64 2147483648) rfl) ?_
  refine LW.nil hL rfl ?_
  refine NW.then ?_
  refine CW.ret ?_
  exact res1 rfl rfl ⟨2147483648, rfl, h⟩

/- (*pomander/flow.Flow).bounds$3 -/
def V_flow_Flow_bounds_3  (w : World) (R : Int → World → Prop) : Prop :=
  R 8 w
set_option maxRecDepth 100000 in
theorem ok_flow_Flow_bounds_3  (w : World) (R : Int → World → Prop) (h : V_flow_Flow_bounds_3  w R) : Calls Try.prog 129 #[] w (fun e w' => ∃ (r1 : Int), e = .returned (.int .i64 r1) ∧ R r1 w') := by
  unfold V_flow_Flow_bounds_3 at h
  refine enter (N := 1) Try.func129 rfl rfl ?_
  refine CW.seq ?_
  refine CW.region fun L hL => ?_
  refine LW.rd hL rfl (Wants.free rfl) rfl (Rd.assign (v := .int .i64 0) rfl) ?_
  refine LW.nil hL rfl ?_
  refine NW.then ?_
  refine CW.seq ?_
  refine CW.region fun L hL => ?_
  refine LW.rd hL rfl (Wants.free rfl) rfl (Rd.assign (v := .int .i64 8) rfl) ?_
  refine LW.nil hL rfl ?_
  refine NW.then ?_
  refine CW.ret ?_
  exact res1 rfl rfl ⟨8, rfl, h⟩

/- (*pomander/flow.Flow).bounds$4 -/
def V_flow_Flow_bounds_4  (w : World) (R : Int → World → Prop) : Prop :=
  R 4 w
set_option maxRecDepth 100000 in
theorem ok_flow_Flow_bounds_4  (w : World) (R : Int → World → Prop) (h : V_flow_Flow_bounds_4  w R) : Calls Try.prog 130 #[] w (fun e w' => ∃ (r1 : Int), e = .returned (.int .i64 r1) ∧ R r1 w') := by
  unfold V_flow_Flow_bounds_4 at h
  refine enter (N := 1) Try.func130 rfl rfl ?_
  refine CW.seq ?_
  refine CW.region fun L hL => ?_
  refine LW.rd hL rfl (Wants.free rfl) rfl (Rd.assign (v := .int .i64 0) rfl) ?_
  refine LW.nil hL rfl ?_
  refine NW.then ?_
  refine CW.seq ?_
  refine CW.region fun L hL => ?_
  refine LW.rd hL rfl (Wants.free rfl) rfl (Rd.assign (v := .int .i64 4) rfl) ?_
  refine LW.nil hL rfl ?_
  refine NW.then ?_
  refine CW.ret ?_
  exact res1 rfl rfl ⟨4, rfl, h⟩

/- (*pomander/flow.Flow).bounds$5 -/
def V_flow_Flow_bounds_5  (w : World) (R : Int → World → Prop) : Prop :=
  R 2 w
set_option maxRecDepth 100000 in
theorem ok_flow_Flow_bounds_5  (w : World) (R : Int → World → Prop) (h : V_flow_Flow_bounds_5  w R) : Calls Try.prog 131 #[] w (fun e w' => ∃ (r1 : Int), e = .returned (.int .i64 r1) ∧ R r1 w') := by
  unfold V_flow_Flow_bounds_5 at h
  refine enter (N := 1) Try.func131 rfl rfl ?_
  refine CW.seq ?_
  refine CW.region fun L hL => ?_
  refine LW.rd hL rfl (Wants.free rfl) rfl (Rd.assign (v := .int .i64 0) rfl) ?_
  refine LW.nil hL rfl ?_
  refine NW.then ?_
  refine CW.seq ?_
  refine CW.region fun L hL => ?_
  refine LW.rd hL rfl (Wants.free rfl) rfl (Rd.assign (v := .int .i64 2) rfl) ?_
  refine LW.nil hL rfl ?_
  refine NW.then ?_
  refine CW.ret ?_
  exact res1 rfl rfl ⟨2, rfl, h⟩

/- (*pomander/flow.Flow).bounds$6 -/
def V_flow_Flow_bounds_6 (cap1 : Addr) (w : World) (R : Int → World → Prop) : Prop :=
  ∃ (t1 : Option Addr), w.cell? cap1 = some (.pointer t1) ∧ (∃ a1 : Addr, t1 = some a1 ∧ (∃ (t2 : Int), w.cell? a1 = some (.int .i64 t2) ∧ (R (IntKind.wrap .i64 (t2 * 64)) w)))
set_option maxRecDepth 100000 in
theorem ok_flow_Flow_bounds_6 (cap1 : Addr) (w : World) (R : Int → World → Prop) (h : V_flow_Flow_bounds_6 cap1 w R) : Calls Try.prog 132 #[.pointer (some cap1)] w (fun e w' => ∃ (r1 : Int), e = .returned (.int .i64 r1) ∧ R r1 w') := by
  unfold V_flow_Flow_bounds_6 at h
  refine enter (N := 8) Try.func132 rfl rfl ?_
  refine CW.seq ?_
  refine CW.region fun L hL => ?_
  refine LW.rd hL rfl (Wants.free rfl) rfl (Rd.assign (v := .int .i64 0) rfl) ?_
  refine LW.nil hL rfl ?_
  refine NW.then ?_
  refine CW.seq ?_
  refine CW.region fun L hL => ?_
  obtain ⟨t1, hc1, h⟩ := h
  refine LW.rd hL rfl (Wants.free rfl) rfl (Rd.ld (v := .pointer t1) rfl (by kernel_rfl) (eqs hc1)) ?_
  obtain ⟨a1, ha1, h⟩ := h
  refine LW.rd hL rfl (Wants.free rfl) rfl (Rd.nil (q := a1) (by rw [← ha1]; rfl)) ?_
  refine LW.rd hL rfl (Wants.free rfl) rfl (Rd.fa (v := .pointer (some a1)) rfl (fun _ => by kernel_rfl)) ?_
  refine LW.rd hL rfl (Wants.free rfl) rfl (Rd.fa (v := .pointer (some a1)) rfl (fun _ => by kernel_rfl)) ?_
  obtain ⟨t2, hc2, h⟩ := h
  refine LW.rd hL rfl (Wants.free rfl) rfl (Rd.ld (v := .int .i64 t2) rfl (by kernel_rfl) (eqs hc2)) ?_
  refine LW.rd hL rfl (Wants.free rfl) rfl (Rd.bin (v := .int .i64 (IntKind.wrap .i64 (t2 * 64))) rfl rfl (fun w => by kernel_rfl)) ?_
  refine LW.rd hL rfl (Wants.free rfl) rfl (Rd.assign (v := .int .i64 (IntKind.wrap .i64 (t2 * 64))) rfl) ?_
  refine LW.nil hL rfl ?_
  refine NW.then ?_
  refine CW.ret ?_
  exact res1 rfl rfl ⟨IntKind.wrap .i64 (t2 * 64), rfl, h⟩

/- (*pomander/flow.Flow).bounds$7 -/
def V_flow_Flow_bounds_7 (cap1 : Addr) (w : World) (R : Int → World → Prop) : Prop :=
  ∃ (t1 : Option Addr), w.cell? cap1 = some (.pointer t1) ∧ (∃ a1 : Addr, t1 = some a1 ∧ (∃ (t2 : Int), w.cell? (a1.add 1) = some (.int .i64 t2) ∧ (R (IntKind.wrap .i64 (t2 * 64)) w)))
set_option maxRecDepth 100000 in
theorem ok_flow_Flow_bounds_7 (cap1 : Addr) (w : World) (R : Int → World → Prop) (h : V_flow_Flow_bounds_7 cap1 w R) : Calls Try.prog 133 #[.pointer (some cap1)] w (fun e w' => ∃ (r1 : Int), e = .returned (.int .i64 r1) ∧ R r1 w') := by
  unfold V_flow_Flow_bounds_7 at h
  refine enter (N := 8) Try.func133 rfl rfl ?_
  refine CW.seq ?_
  refine CW.region fun L hL => ?_
  refine LW.rd hL rfl (Wants.free rfl) rfl (Rd.assign (v := .int .i64 0) rfl) ?_
  refine LW.nil hL rfl ?_
  refine NW.then ?_
  refine CW.seq ?_
  refine CW.region fun L hL => ?_
  obtain ⟨t1, hc1, h⟩ := h
  refine LW.rd hL rfl (Wants.free rfl) rfl (Rd.ld (v := .pointer t1) rfl (by kernel_rfl) (eqs hc1)) ?_
  obtain ⟨a1, ha1, h⟩ := h
  refine LW.rd hL rfl (Wants.free rfl) rfl (Rd.nil (q := a1) (by rw [← ha1]; rfl)) ?_
  refine LW.rd hL rfl (Wants.free rfl) rfl (Rd.fa (v := .pointer (some a1)) rfl (fun _ => by kernel_rfl)) ?_
  refine LW.rd hL rfl (Wants.free rfl) rfl (Rd.fa (v := .pointer (some (a1.add 1))) rfl (fun _ => by kernel_rfl)) ?_
  obtain ⟨t2, hc2, h⟩ := h
  refine LW.rd hL rfl (Wants.free rfl) rfl (Rd.ld (v := .int .i64 t2) rfl (by kernel_rfl) (eqs hc2)) ?_
  refine LW.rd hL rfl (Wants.free rfl) rfl (Rd.bin (v := .int .i64 (IntKind.wrap .i64 (t2 * 64))) rfl rfl (fun w => by kernel_rfl)) ?_
  refine LW.rd hL rfl (Wants.free rfl) rfl (Rd.assign (v := .int .i64 (IntKind.wrap .i64 (t2 * 64))) rfl) ?_
  refine LW.nil hL rfl ?_
  refine NW.then ?_
  refine CW.ret ?_
  exact res1 rfl rfl ⟨IntKind.wrap .i64 (t2 * 64), rfl, h⟩

end Go.Proofs.Ytkfncibmfcdokaa
end

/- XTable -/
section
/- The table of sets (labels): what stands there, New, none, Keep. -/
set_option linter.unusedVariables false
set_option linter.unusedSimpArgs false
namespace Go.Proofs.Ytkfncibmfcdokaa
open Go Go.RowKit Go.X

def numbered (sets : List Int) : List (Int × Int) := sets.zipIdx.map fun x => (x.1, (x.2 : Int))

/-- What a table is. -/
structure TableAt (w : World) (b : Nat) (most : Int) (sets : List Int) (fp : List Nat) : Prop where
  there : ∃ p c r j clk, w.heap[b]? = some (.cells #[.int .i64 most, .slice p sets.length c, .map (some r), .map (some j)] 201 (0, 0)) ∧ RowAt w 22 1 p sets.length c (sets.map (.int .u32)) ∧
    MapIs w r (fun n : Int => .int .u32 n) (fun n : Int => .int .i64 n) (numbered sets) ∧ w.heap[j]? = some (.map #[] clk) ∧ fp = b :: r :: j :: rowB p
  nodup : fp.Nodup
  some : sets ≠ []
  few : (sets.length : Int) ≤ most
  most1 : 1 ≤ most
  most2 : most ≤ 65536
  each : ∀ s ∈ sets, 0 ≤ s ∧ s < 65536
  distinct : sets.Nodup

theorem TableAt.lt {w : World} {b : Nat} {most : Int} {sets : List Int} {fp : List Nat} (h : TableAt w b most sets fp) : ∀ i ∈ fp, i < w.heap.size := by
  obtain ⟨p, c, r, j, clk, h1, h2, h3, h4, rfl⟩ := h.there
  intro i hi
  simp only [List.mem_cons] at hi
  rcases hi with rfl | rfl | rfl | hi
  · exact lt_of_heap h1
  · exact h3.lt
  · exact lt_of_heap h4
  · exact h2.lt i hi

theorem TableAt.chg {w w' : World} {b : Nat} {most : Int} {sets : List Int} {fp f : List Nat} (h : TableAt w b most sets fp) (hc : Chg f w w') (hf : ∀ i ∈ fp, i ∉ f) : TableAt w' b most sets fp := by
  obtain ⟨p, c, r, j, clk, h1, h2, h3, h4, rfl⟩ := h.there
  simp only [List.mem_cons, forall_eq_or_imp] at hf
  obtain ⟨f1, f2, f3, f4⟩ := hf
  exact { h with there := ⟨p, c, r, j, clk, hc.obj f1 h1, h2.chg hc f4, h3.chg hc f2, hc.obj f3 h4, rfl⟩ }

def keepE (most : Int) (sets : List Int) (set : Int) : Int := if 65536 ≤ set then 2 else if set ∈ sets then 0 else if most ≤ sets.length then 120 else 0
def keepS (most : Int) (sets : List Int) (set : Int) : List Int := if 65536 ≤ set ∨ set ∈ sets ∨ most ≤ sets.length then sets else sets ++ [set]

theorem look_numbered (sets : List Int) (set : Int) : (lookK set (numbered sets)).isSome = decide (set ∈ sets) := by
  unfold numbered
  have : ∀ (l : List Int) (k : Nat), (lookK set ((l.zipIdx k).map fun x => (x.1, (x.2 : Int)))).isSome = decide (set ∈ l) := by
    intro l
    induction l with
    | nil => intro k; simp [lookK_nil]
    | cons a l ih =>
      intro k
      simp only [List.zipIdx_cons, List.map_cons, lookK_cons]
      by_cases h : a = set
      · simp [h]
      · simp [h, ih, Ne.symm h]
  exact this sets 0
theorem numbered_keys (sets : List Int) : (numbered sets).map Prod.fst = sets := by
  unfold numbered
  rw [List.map_map]
  have : ∀ (l : List Int) (k : Nat), (l.zipIdx k).map (Prod.fst ∘ fun x => (x.1, (x.2 : Int))) = l := by
    intro l
    induction l with
    | nil => intro k; rfl
    | cons a l ih => intro k; simp only [List.zipIdx_cons, List.map_cons, ih]; rfl
  exact this sets 0
theorem numbered_snoc (sets : List Int) (set : Int) : numbered (sets ++ [set]) = numbered sets ++ [(set, (sets.length : Int))] := by
  unfold numbered
  rw [List.zipIdx_append]
  simp

theorem table_none {w : World} {b : Nat} {most : Int} {sets : List Int} {fp : List Nat} (h : TableAt w b most sets fp) :
    Calls Try.prog 110 #[.pointer (some ⟨b, 0, none⟩)] w fun e w' => ∃ r : Bool, e = .returned (.bool r) ∧ (r = false ∧ w' = w) := by
  obtain ⟨p, c, r, j, clk, h1, h2, h3, h4, rfl⟩ := h.there
  refine ok_labels_Table_none _ _ _ ?_
  unfold V_labels_Table_none
  refine ⟨_, fun s w h => h, fun _ => ⟨_, rfl, p, _, c, by rw [add_at, cell_of h1]; rfl, ?_, rfl⟩, fun h => by simp at h⟩
  have := h.some
  simp [this]

theorem table_keep {w : World} {b : Nat} {most : Int} {sets : List Int} {fp : List Nat} (h : TableAt w b most sets fp) {set : Int} (h0 : 0 ≤ set) :
    Calls Try.prog 109 #[.pointer (some ⟨b, 0, none⟩), .int .u32 set] w fun e w' => ∃ (r1 : Int) (r2 : Int), e = .returned (.tuple #[.int .i64 r1, .int .i64 r2]) ∧
      (r2 = keepE most sets set ∧ ∃ fp', TableAt w' b most (keepS most sets set) fp' ∧ Chg fp w w' ∧ ∀ i ∈ fp', i ∈ fp ∨ w.heap.size ≤ i) := by
  refine ok_labels_Table_Keep _ _ _ _ ?_
  unfold V_labels_Table_Keep
  refine (table_none h).mono ?_
  rintro _ w1 ⟨_, rfl, rfl, rfl⟩
  refine ⟨_, rfl, fun h => by simp at h, fun _ => ⟨fun hs => ?_, fun hs => ?_⟩⟩
  · simp at hs
    exact ⟨by simp [keepE, hs], fp, by simpa [keepS, hs] using h, Chg.refl _ _, fun i hi => .inl hi⟩
  simp at hs
  have hs' : ¬ 65536 ≤ set := by omega
  obtain ⟨p, c, r, j, clk, h1, h2, h3, h4, rfl⟩ := h.there
  have hlook := h3.lookup (P := Try.prog) u198 keyU32 zero3 set true
  simp only [if_true] at hlook
  have hsome := look_numbered sets set
  have hnd := h.nodup
  simp only [List.nodup_cons, List.mem_cons, not_or] at hnd
  obtain ⟨⟨n1, n2, n3⟩, ⟨n4, n5⟩, n6, n7⟩ := hnd
  by_cases hin : set ∈ sets
  · simp only [hin, decide_true] at hsome
    obtain ⟨v, hv⟩ := Option.isSome_iff_exists.1 hsome
    rw [hv] at hlook
    refine ⟨_, rfl, some r, by rw [add_at, cell_of h1]; rfl, v, true, hlook, fun _ => ?_, fun h => by simp at h⟩
    exact ⟨by simp [keepE, hs', hin], _, by simpa [keepS, hin] using h, Chg.refl _ _, fun i hi => .inl hi⟩
  have hnone : lookK set (numbered sets) = none := by simpa [hin] using hsome
  rw [hnone] at hlook
  refine ⟨_, rfl, some r, by rw [add_at, cell_of h1]; rfl, 0, false, hlook, fun h => by simp at h, fun _ => v_drew fun w2 c2 => ?_⟩
  have h1' := c2.obj (by simp) h1
  refine ⟨_, rfl, p, sets.length, c, by rw [add_at, cell_of h1']; rfl, _, rfl, most, by rw [cell_of h1']; rfl, fun hl => ?_, fun hl => ?_⟩
  · simp only [decide_eq_true_eq] at hl
    have hl' : most ≤ sets.length := by omega
    exact ⟨by simp [keepE, hs', hin, hl'], _, by simpa [keepS, hl'] using h.chg c2 (by simp), c2.nil, fun i hi => .inl hi⟩
  simp only [decide_eq_false_iff_not] at hl
  have hl' : ¬ most ≤ sets.length := by omega
  refine v_drew fun w3 c3 => ?_
  have c03 := c2.trans0 c3
  have h1'' := c03.obj (by simp) h1
  obtain ⟨w4, hu, c4, hsz, h3'⟩ := (h3.chg c03 (by simp)).update (P := Try.prog) (T := 198) u198 keyU32 set (sets.length : Int)
  have c04 : Chg [r] w1 w4 := c03.nil.trans c4 (fun i hi _ => hi)
  have h14 := c04.obj (f := [r]) (by simpa using n1) h1
  refine ⟨_, rfl, some r, by rw [add_at, cell_of h1'']; rfl, _, rfl, p, sets.length, c, by rw [add_at, cell_of h1'']; rfl, w4, hu, _, rfl, p, sets.length, c, by rw [add_at, cell_of h14]; rfl, ?_⟩
  refine v_alloc fun b1 w5 eb1 h5 c5 => ?_
  have c05 : Chg [r] w1 w5 := c04.trans c5.nil (fun i hi _ => hi)
  have hrow5 := h2.chg c05 (fun i hi hm => by simp at hm; subst hm; exact n5 hi)
  have hmost := h.most2
  have hfew := h.few
  obtain ⟨p', c', w6, happ, hrow6, c6, hfresh⟩ := hrow5.append (P := Try.prog) (t := 31) (ty := 31) (i := _) (z := .int .u32 0) (bytes := 4) (by kernel_rfl) (show Try.prog.info? 22 = some Try.t22 by kernel_rfl) (by kernel_rfl) (by kernel_rfl) (by kernel_rfl) rfl (by omega)
    (a := ⟨b1, 0, none⟩) (m := 1) (mc := 1) (news := [.int .u32 set]) rfl (fun i u hi => by
      cases i with
      | zero => simp at hi; subst hi; rw [add_at, cell_of h5]; rfl
      | succ i => simp at hi) (by simp [Value.oneCell']) (by simp only [maxLen]; omega) (by omega)
  refine ⟨p', _, c', w6, happ, _, rfl, ?_⟩
  have c06 : Chg (r :: rowB p) w1 w6 := (c05.mono (by simp)).trans c6 (fun i hi _ => by simp [hi])
  have h16 := c06.obj (f := r :: rowB p) (by simp; exact ⟨n1, n3⟩) h1
  refine v_set h16 (by simp) fun w7 h17 c7 _ => ?_
  have hb1 : w1.heap.size ≤ b1 := by rw [eb1]; exact c04.size
  have hrfresh : r ∉ rowB p' := fun hm => by
    rcases hfresh _ hm with h | h
    · exact n5 h
    · exact absurd (h3.lt) (by have := c05.size; omega)
  have hbfresh : b ∉ rowB p' := fun hm => by
    rcases hfresh _ hm with h | h
    · exact n3 h
    · exact absurd (lt_of_heap h1) (by have := c05.size; omega)
  have hjfresh : j ∉ rowB p' := fun hm => by
    rcases hfresh _ hm with h | h
    · exact n6 h
    · exact absurd (lt_of_heap h4) (by have := c05.size; omega)
  have hup : upd set (sets.length : Int) (numbered sets) = numbered (sets ++ [set]) := by simp [upd, hnone, numbered_snoc]
  have h37 := ((h3'.chg c5 (by simp)).chg c6 n5).chg c7 (by simpa using Ne.symm n1)
  rw [hup] at h37
  have hlook7 := h37.lookup (P := Try.prog) (T := 198) u198 keyU32 zero3 set false
  have hl7 : lookK set (numbered (sets ++ [set])) = some (sets.length : Int) := by
    rw [← hup, lookK_upd]; simp
  rw [hl7] at hlook7
  refine ⟨_, rfl, some r, by rw [add_at, cell_of h17]; rfl, _, hlook7, ?_⟩
  refine ⟨by simp [keepE, hs', hin, hl'], b :: r :: j :: rowB p', ?_, ?_, ?_⟩
  · have hS : keepS most sets set = sets ++ [set] := by simp [keepS, hs', hin, hl']
    rw [hS]
    refine ⟨⟨p', c', r, j, clk, ?_, ?_, h37, ?_, rfl⟩, ?_, by simp, by simp; omega, h.most1, h.most2, ?_, ?_⟩
    · rw [h17]; simp
    · have := hrow6.chg c7 (fun i hi hm => by simp at hm; subst hm; exact hbfresh hi)
      simpa using this
    · exact c7.obj (by simpa using Ne.symm n2) (c06.obj (by simp; exact ⟨Ne.symm n4, n6⟩) h4)
    · simp only [List.nodup_cons, List.mem_cons, not_or]
      exact ⟨⟨n1, n2, hbfresh⟩, ⟨n4, hrfresh⟩, hjfresh, rowB_nodup _⟩
    · intro s hs
      simp at hs
      rcases hs with hs | rfl
      · exact h.each s hs
      · omega
    · rw [List.nodup_append]
      exact ⟨h.distinct, by simp, by simp; exact fun a ha e => hin (e ▸ ha)⟩
  · exact (c06.mono (fun i hi _ => by simp at hi ⊢; rcases hi with h | h <;> simp [h])).trans c7 (by simp)
  · intro i hi
    simp only [List.mem_cons] at hi ⊢
    rcases hi with h | h | h | h
    · simp [h]
    · simp [h]
    · simp [h]
    · rcases hfresh i h with h | h
      · simp [h]
      · right; have := c05.size; omega
theorem table_new (w : World) (most : Int) :
    Calls Try.prog 68 #[.int .i64 most] w fun e w' => ∃ (r1 : Option Addr) (r2 : Int), e = .returned (.tuple #[.pointer r1, .int .i64 r2]) ∧
      (Chg [] w w' ∧ if 1 ≤ most ∧ most ≤ 65536 then r2 = 0 ∧ ∃ b fp, r1 = some ⟨b, 0, none⟩ ∧ TableAt w' b most [0] fp ∧ ∀ i ∈ fp, w.heap.size ≤ i else r1 = none ∧ r2 = 2) := by
  refine ok_labels_New _ _ _ ?_
  unfold V_labels_New
  refine ⟨fun h => ?_, fun h => ?_⟩
  · simp at h
    exact ⟨Chg.refl _ _, by rw [if_neg (by omega)]; simp⟩
  simp at h
  refine v_alloc fun b1 w1 e1 h1 c1 => ?_
  refine v_alloc fun b2 w2 e2 h2 c2 => ?_
  have hm0 : MapIs w2 b2 (fun n : Int => .int .u32 n) (fun n : Int => .int .i64 n) [] := ⟨#[], 0, h2, rfl, by simp, by simp, by simp⟩
  obtain ⟨w3, hu, c3, hs3, hm3⟩ := hm0.update (P := Try.prog) (T := 198) u198 keyU32 (0 : Int) (0 : Int)
  refine ⟨w3, hu, ?_⟩
  refine v_alloc fun b3 w4 e3 h4 c4 => ?_
  refine v_alloc fun b4 w5 e4 h5 c5 => ?_
  have l1 : b1 < w1.heap.size := lt_of_heap h1
  have l2 : b2 < w2.heap.size := lt_of_heap h2
  have l4 : b3 < w4.heap.size := lt_of_heap h4
  have s1 := c1.size
  have s2 := c2.size
  have s3 := c3.size
  have s4 := c4.size
  have c02 : Chg [] w w2 := c1.trans0 c2
  have c03 : Chg [] w w3 := c02.trans c3 (fun i hi hlt => by simp at hi; omega)
  have c05 : Chg [] w w5 := (c03.trans0 c4).trans0 c5
  refine ⟨c05, ?_⟩
  rw [if_pos (by omega)]
  refine ⟨rfl, b4, [b4, b2, b3, b1], rfl, ⟨⟨_, 1, b2, b3, 0, h5, ?_, ?_, c5.obj (by simp) h4, by simp [rowB]⟩, ?_, by simp, by simp; omega, by omega, by omega, by simp, by simp⟩, ?_⟩
  · have h15 : w5.heap[b1]? = some (.cells #[.int .u32 0] 22 (0, 0)) := (((c3.trans (c4.nil (f := [b2])) (by simp)).trans (c5.nil (f := [b2])) (by simp))).obj (by simp; omega) (c2.obj (by simp) h1)
    exact RowAt.of_heap (cs := [.int .u32 0]) h15 rfl (by simp [maxLen])
  · exact (hm3.chg c4 (by simp)).chg c5 (by simp)
  · simp; omega
  · intro i hi; simp at hi; omega
end Go.Proofs.Ytkfncibmfcdokaa
end

/- XFlow1 -/
section
/- Flows: what stands there; bounds, may, get, put. -/
set_option linter.unusedVariables false
set_option linter.unusedSimpArgs false
namespace Go.Proofs.Ytkfncibmfcdokaa
open Go Go.RowKit Go.X

structure Fl where
  fr : Int
  se : Int
  most : Int
  sets : List Int
  g : Int × Int → Int

def boundP (fr se k : Int) : Int := if k = 1 then 8 else if k = 10 then 64 * fr else if k = 11 then 4 else if k = 12 then 64 * se else if k = 17 then 2 else if 13 ≤ k ∧ k ≤ 16 then 2147483648 else 1
def mayP (fr se : Int) (p : Int × Int) : Prop := 1 ≤ p.1 ∧ p.1 ≤ 17 ∧ 0 ≤ p.2 ∧ p.2 < boundP fr se p.1
instance (fr se : Int) (p : Int × Int) : Decidable (mayP fr se p) := by unfold mayP; exact inferInstance

/-- What a flow is. -/
structure FlowAt (w : World) (b : Nat) (F : Fl) (fp : List Nat) : Prop where
  there : ∃ (T m d r : Nat) (l : List ((Int × Int) × Int)) (fpT fpm fpd : List Nat) (gm gd : Int → Int),
    w.heap[b]? = some (.cells #[.int .i64 F.fr, .int .i64 F.se, .pointer (some ⟨T, 0, none⟩), .pointer (some ⟨m, 0, none⟩), .pointer (some ⟨d, 0, none⟩), .map (some r)] 145 (0, 0)) ∧
    TableAt w T F.most F.sets fpT ∧ ShadowAt w m F.fr gm fpm ∧ ShadowAt w d F.se gd fpd ∧ MapIs w r encP (fun n : Int => .int .u32 n) l ∧ (∀ n, F.g (10, n) = gm n) ∧ (∀ n, F.g (12, n) = gd n) ∧
    (∀ p : Int × Int, p.1 ≠ 10 → p.1 ≠ 12 → F.g p = (lookK p l).getD 0) ∧ (∀ x ∈ l, x.1.1 ≠ 10 ∧ x.1.1 ≠ 12 ∧ mayP F.fr F.se x.1 ∧ 0 < x.2 ∧ x.2 < 65536) ∧ fp = b :: r :: (fpT ++ (fpm ++ fpd))
  nodup : fp.Nodup

theorem FlowAt.lt {w : World} {b : Nat} {F : Fl} {fp : List Nat} (h : FlowAt w b F fp) : ∀ i ∈ fp, i < w.heap.size := by
  obtain ⟨T, m, d, r, l, fpT, fpm, fpd, gm, gd, h1, h2, h3, h4, h5, h6, h7, h8, h9, rfl⟩ := h.there
  intro i hi
  simp only [List.mem_cons, List.mem_append] at hi
  rcases hi with rfl | rfl | hi | hi | hi
  · exact lt_of_heap h1
  · exact h5.lt
  · exact h2.lt i hi
  · exact h3.lt i hi
  · exact h4.lt i hi
theorem FlowAt.chg {w w' : World} {b : Nat} {F : Fl} {fp f : List Nat} (h : FlowAt w b F fp) (hc : Chg f w w') (hf : ∀ i ∈ fp, i ∉ f) : FlowAt w' b F fp := by
  obtain ⟨T, m, d, r, l, fpT, fpm, fpd, gm, gd, h1, h2, h3, h4, h5, h6, h7, h8, h9, rfl⟩ := h.there
  simp only [List.mem_cons, List.mem_append, forall_eq_or_imp] at hf
  obtain ⟨f1, f2, f3⟩ := hf
  exact { h with there := ⟨T, m, d, r, l, fpT, fpm, fpd, gm, gd, hc.obj f1 h1, h2.chg hc (fun i hi => f3 i (.inl hi)), h3.chg hc (fun i hi => f3 i (.inr (.inl hi))), h4.chg hc (fun i hi => f3 i (.inr (.inr hi))), h5.chg hc f2, h6, h7, h8, h9, rfl⟩ }
theorem FlowAt.head {w : World} {b : Nat} {F : Fl} {fp : List Nat} (h : FlowAt w b F fp) : ∃ T m d r : Nat,
    w.heap[b]? = some (.cells #[.int .i64 F.fr, .int .i64 F.se, .pointer (some ⟨T, 0, none⟩), .pointer (some ⟨m, 0, none⟩), .pointer (some ⟨d, 0, none⟩), .map (some r)] 145 (0, 0)) := by
  obtain ⟨T, m, d, r, l, fpT, fpm, fpd, gm, gd, h1, _⟩ := h.there
  exact ⟨T, m, d, r, h1⟩
theorem FlowAt.wide {w : World} {b : Nat} {F : Fl} {fp : List Nat} (h : FlowAt w b F fp) : 1 ≤ F.fr ∧ F.fr ≤ 32 ∧ 1 ≤ F.se ∧ F.se ≤ 32 := by
  obtain ⟨T, m, d, r, l, fpT, fpm, fpd, gm, gd, h1, h2, h3, h4, _⟩ := h.there
  exact ⟨h3.pages1, h3.pages2, h4.pages1, h4.pages2⟩
theorem FlowAt.each {w : World} {b : Nat} {F : Fl} {fp : List Nat} (h : FlowAt w b F fp) (p : Int × Int) : 0 ≤ F.g p ∧ F.g p < 65536 := by
  obtain ⟨T, m, d, r, l, fpT, fpm, fpd, gm, gd, h1, h2, h3, h4, h5, h6, h7, h8, h9, _⟩ := h.there
  obtain ⟨k, n⟩ := p
  by_cases e1 : k = 10
  · subst e1; rw [h6]; exact h3.each n
  by_cases e2 : k = 12
  · subst e2; rw [h7]; exact h4.each n
  rw [h8 _ e1 e2]
  cases hk : lookK (k, n) l with
  | none => simp
  | some v => have := h9 _ (lookK_mem hk); simp only [Option.getD_some]; simp only [] at this; omega

theorem flow_none {w : World} {b : Nat} {F : Fl} {fp : List Nat} (h : FlowAt w b F fp) :
    Calls Try.prog 73 #[.pointer (some ⟨b, 0, none⟩)] w fun e w' => ∃ r : Bool, e = .returned (.bool r) ∧ (r = false ∧ w' = w) := by
  obtain ⟨T, m, d, r, h1⟩ := h.head
  refine ok_flow_Flow_none _ _ _ ?_
  unfold V_flow_Flow_none
  exact ⟨_, fun s w h => h, fun _ => ⟨_, rfl, _, by rw [add_at, cell_of h1]; rfl, rfl, rfl⟩, fun h => by simp at h⟩

def F127 : Value := .func (.func 127) #[] #[]
def baseB (b1 : Nat) : List Value := [.nilFunc, .func (.func 129) #[] #[], .nilFunc, .nilFunc, .nilFunc, .nilFunc, .nilFunc, .nilFunc, .nilFunc, .nilFunc, .func (.func 132) #[] #[.pointer (some (⟨b1, 0, none⟩ : Addr))], .func (.func 130) #[] #[], .func (.func 133) #[] #[.pointer (some (⟨b1, 0, none⟩ : Addr))], .func (.func 128) #[] #[], .func (.func 128) #[] #[], .func (.func 128) #[] #[], .func (.func 128) #[] #[], .func (.func 131) #[] #[]]
def allB (b1 : Nat) : List Value := [.nilFunc, .func (.func 129) #[] #[], F127, F127, F127, F127, F127, F127, F127, F127, .func (.func 132) #[] #[.pointer (some (⟨b1, 0, none⟩ : Addr))], .func (.func 130) #[] #[], .func (.func 133) #[] #[.pointer (some (⟨b1, 0, none⟩ : Addr))], .func (.func 128) #[] #[], .func (.func 128) #[] #[], .func (.func 128) #[] #[], .func (.func 128) #[] #[], .func (.func 131) #[] #[]]
def stepB (b1 : Nat) : Nat → Array Value
  | 0 => (baseB b1).toArray
  | j + 1 => (stepB b1 j).setIfInBounds (2 + j) F127
theorem stepB_size (b1 j : Nat) : (stepB b1 j).size = 18 := by
  induction j with
  | zero => rfl
  | succ j ih => simp [stepB, ih]
theorem stepB_8 (b1 : Nat) : stepB b1 8 = (allB b1).toArray := by simp [stepB, baseB, allB]

theorem flow_bounds (f : Option Addr) (w : World) :
    Calls Try.prog 108 #[.pointer f] w fun e w' => ∃ (r2 : Value) (r3 : Value) (r4 : Value) (r5 : Value) (r6 : Value) (r7 : Value) (r8 : Value) (r9 : Value) (r10 : Value) (r11 : Value) (r12 : Value) (r13 : Value) (r14 : Value) (r15 : Value) (r16 : Value) (r17 : Value) (r18 : Value) (r19 : Value),
      e = .returned (.agg #[r2, r3, r4, r5, r6, r7, r8, r9, r10, r11, r12, r13, r14, r15, r16, r17, r18, r19]) ∧ (∃ b1, w'.heap[b1]? = some (.cells #[.pointer f] 28 (0, 0)) ∧ Chg [] w w' ∧ [r2, r3, r4, r5, r6, r7, r8, r9, r10, r11, r12, r13, r14, r15, r16, r17, r18, r19] = allB b1) := by
  refine ok_flow_Flow_bounds _ _ _ ?_
  unfold V_flow_Flow_bounds
  refine v_alloc fun b1 w1 e1 h1 c1 => ?_
  refine v_alloc fun b2 w2 e2 h2 c2 => ?_
  refine v_box (by rfl) (by rfl) fun b3 w3 e3 h3 c3 => ?_
  have l1 : b1 < w1.heap.size := lt_of_heap h1
  have l2 : b2 < w2.heap.size := lt_of_heap h2
  have s1 := c1.size
  have s2 := c2.size
  refine ⟨fun s w => ∃ j : Nat, s = 2 + (j : Int) ∧ j ≤ 8 ∧ w.heap[b3]? = some (.cells (stepB b1 j) 202 (0, 0)) ∧ Chg [b3] w3 w, fun s _ => (10 - s).toNat, ⟨0, rfl, by omega, h3, Chg.refl _ _⟩, ?_⟩
  rintro _ w5 ⟨j, rfl, hj, h5, c5⟩
  refine ⟨fun hlt => ?_, fun hge => ?_⟩
  · simp only [decide_eq_true_eq] at hlt
    refine ⟨by omega, by omega, ?_⟩
    have e : (2 + (j : Int)).toNat * 1 = 2 + j := by omega
    rw [e]
    refine v_set h5 (by rw [stepB_size]; omega) fun w6 h6 c6 _ => ?_
    rw [wr (by omega) (by omega)]
    refine ⟨⟨j + 1, by omega, by omega, ?_, c5.trans c6 (fun _ h _ => h)⟩, by simp only []; omega⟩
    simpa [stepB, F127] using h6
  · simp only [decide_eq_false_iff_not] at hge
    have : j = 8 := by omega
    subst this
    rw [stepB_8] at h5
    refine ⟨_, _, _, _, _, _, _, _, _, _, _, _, _, _, _, _, _, _, cellsAt_of h5, rfl, rfl, rfl, rfl, rfl, rfl, rfl, rfl, rfl, rfl, rfl, rfl, rfl, rfl, rfl, rfl, rfl, rfl, ?_⟩
    have c25 : Chg [b3] w2 w5 := (c3.nil).trans c5 (fun _ h _ => h)
    have h25 := c25.obj (by simp; omega) h2
    refine ⟨has_of h25 (by simp), free_of' h25, ?_⟩
    rintro w7 rfl
    have h7 := setCells_all (vs := allB b1) (by rfl) h25
    refine ⟨_, _, _, _, _, _, _, _, _, _, _, _, _, _, _, _, _, _, cellsAt_of h7, b1, ?_, ?_, rfl⟩
    · have c7 := Chg.setCells ⟨b2, 0, none⟩ (allB b1) 0 w5
      exact c7.obj (by simp; omega) (c25.obj (by simp; omega) (c2.obj (by simp) h1))
    · have c7 := Chg.setCells ⟨b2, 0, none⟩ (allB b1) 0 w5
      have c05 : Chg [] w w5 := (c1.trans0 c2).trans c25 (fun i hi hlt => by simp at hi; omega)
      exact c05.trans c7 (fun i hi hlt => by simp at hi; omega)

theorem index_202 (vs : List Value) (hv : vs.length = 18) (k : Int) (h0 : 0 ≤ k) (h1 : k < 18) (x : Value) (hx : vs[k.toNat]? = some x) (w : World) :
    (Instr.index 202 (.agg vs.toArray) (.int .i64 k)).run Try.prog w = .ok x w := by
  unfold Instr.index
  simp [go_sem, h0, h1, part, hx]
theorem flow_may {w : World} {b : Nat} {F : Fl} {fp : List Nat} (h : FlowAt w b F fp) (p1 p2 : Int) :
    Calls Try.prog 74 #[.pointer (some ⟨b, 0, none⟩), .agg #[.int .i64 p1, .int .i64 p2]] w fun e w' => ∃ r : Bool, e = .returned (.bool r) ∧ (r = decide (mayP F.fr F.se (p1, p2)) ∧ Chg [] w w') := by
  obtain ⟨T, m, d, r, hh⟩ := h.head
  obtain ⟨g1, g2, g3, g4⟩ := h.wide
  refine ok_flow_Flow_may _ _ _ _ _ ?_
  unfold V_flow_Flow_may
  refine v_alloc fun b1 w1 e1 h1 c1 => ?_
  refine v_drew fun w2 c2 => ?_
  have c02 := c1.trans0 c2
  have h12 := c2.obj (by simp) h1
  refine ⟨p1, by rw [cell_of h12]; rfl, p2, by rw [cell_of h12]; rfl, ?_⟩
  refine ⟨fun b2 w3 => w3 = w2 ∧ b2 = decide (1 ≤ p1 ∧ p1 ≤ 17), ?_, fun h => ?_, fun h => ?_⟩
  rotate_left
  · simp only [decide_eq_true_eq] at h
    exact ⟨rfl, decide_eq_decide.2 (by omega)⟩
  · simp only [decide_eq_false_iff_not] at h
    exact ⟨rfl, by symm; rw [decide_eq_false_iff_not]; omega⟩
  rintro b2 w3 ⟨hw, rfl⟩
  subst w3
  refine ⟨fun b3 w4 => w4 = w2 ∧ b3 = decide (1 ≤ p1 ∧ p1 ≤ 17 ∧ 0 ≤ p2), ?_, fun h => ?_, fun h => ?_⟩
  rotate_left
  · simp only [decide_eq_true_eq] at h
    exact ⟨rfl, decide_eq_decide.2 (by omega)⟩
  · simp only [decide_eq_false_iff_not] at h
    exact ⟨rfl, by symm; rw [decide_eq_false_iff_not]; omega⟩
  rintro b3 w4 ⟨hw, rfl⟩
  subst w4
  refine ⟨fun b4 w5 => b4 = decide (mayP F.fr F.se (p1, p2)) ∧ Chg [] w w5, fun b4 w5 h => h, fun h => ?_, fun h => ?_⟩
  rotate_left
  · simp only [decide_eq_false_iff_not] at h
    refine ⟨?_, c02⟩
    symm; rw [decide_eq_false_iff_not]; unfold mayP; simp only []; omega
  simp only [decide_eq_true_eq] at h
  refine (flow_bounds _ w2).mono ?_
  rintro _ w6 ⟨r2, r3, r4, r5, r6, r7, r8, r9, r10, r11, r12, r13, r14, r15, r16, r17, r18, r19, rfl, bb, hbb, c6, hl⟩
  have h16 := c6.obj (by simp) h12
  have hh6 := (c02.trans0 c6).obj (by simp) hh
  refine ⟨r2, r3, r4, r5, r6, r7, r8, r9, r10, r11, r12, r13, r14, r15, r16, r17, r18, r19, rfl, ⟨by rw [cell_of h16]; rfl, by rw [cell_of h16]; rfl, trivial⟩, ?_⟩
  -- each kind's bound
  have hlast : ∀ (x : Value), (allB bb)[p1.toNat]? = some x →
      (CallsV Try.prog x #[] w6 fun e w7 => ∃ r20 : Int, e = .returned (.int .i64 r20) ∧ r20 = boundP F.fr F.se p1 ∧ w7 = w6) →
      (∃ (x1 : Value), (∀ w : World, (Instr.index 202 (.agg #[r2, r3, r4, r5, r6, r7, r8, r9, r10, r11, r12, r13, r14, r15, r16, r17, r18, r19]) (.int .i64 p1)).run Try.prog w = .ok (x1) w) ∧ (CallsV Try.prog x1 #[] w6 fun e w7 => ∃ (r20 : Int), e = .returned (.int .i64 r20) ∧ ((w7.cell? (⟨b1, 0, none⟩ : Addr) = some (.int .i64 p1) ∧ w7.cell? (⟨b1, 1, none⟩ : Addr) = some (.int .i64 p2) ∧ True) ∧ (decide (p2 < r20) = decide (mayP F.fr F.se (p1, p2)) ∧ Chg [] w w7)))) := by
    intro x hx ⟨f, cap, fn, k1, k2, k3, k4, k5⟩
    refine ⟨x, fun w => index_202 _ rfl p1 (by omega) (by omega) x (by rw [hl]; exact hx) w, f, cap, fn, k1, k2, k3, k4, k5.mono ?_⟩
    rintro e w7 ⟨r20, rfl, rfl, hw⟩
    subst w7
    refine ⟨_, rfl, ⟨by rw [cell_of h16]; rfl, by rw [cell_of h16]; rfl, trivial⟩, ?_, c02.trans0 c6⟩
    apply decide_eq_decide.2
    unfold mayP
    simp only []
    omega
  have hk : p1 = 1 ∨ p1 = 2 ∨ p1 = 3 ∨ p1 = 4 ∨ p1 = 5 ∨ p1 = 6 ∨ p1 = 7 ∨ p1 = 8 ∨ p1 = 9 ∨ p1 = 10 ∨ p1 = 11 ∨ p1 = 12 ∨ p1 = 13 ∨ p1 = 14 ∨ p1 = 15 ∨ p1 = 16 ∨ p1 = 17 := by omega
  have k127 : boundP F.fr F.se p1 = 1 → CallsV Try.prog F127 #[] w6 fun e w7 => ∃ r20 : Int, e = .returned (.int .i64 r20) ∧ r20 = boundP F.fr F.se p1 ∧ w7 = w6 := fun hb =>
    ⟨127, #[], Try.f127, rfl, Try.func127, by kernel_rfl, by kernel_rfl, ok_flow_Flow_bounds_1 w6 (fun r w => r = boundP F.fr F.se p1 ∧ w = w6) ⟨hb.symm, rfl⟩⟩
  have k128 : boundP F.fr F.se p1 = 2147483648 → CallsV Try.prog (.func (.func 128) #[] #[]) #[] w6 fun e w7 => ∃ r20 : Int, e = .returned (.int .i64 r20) ∧ r20 = boundP F.fr F.se p1 ∧ w7 = w6 := fun hb =>
    ⟨128, #[], Try.f128, rfl, Try.func128, by kernel_rfl, by kernel_rfl, ok_flow_Flow_bounds_2 w6 (fun r w => r = boundP F.fr F.se p1 ∧ w = w6) ⟨hb.symm, rfl⟩⟩
  rcases hk with rfl | rfl | rfl | rfl | rfl | rfl | rfl | rfl | rfl | rfl | rfl | rfl | rfl | rfl | rfl | rfl | rfl
  · exact hlast _ (by simp only [allB]; rfl) ⟨129, #[], Try.f129, rfl, Try.func129, by kernel_rfl, by kernel_rfl, ok_flow_Flow_bounds_3 w6 (fun r w => r = boundP F.fr F.se 1 ∧ w = w6) ⟨by simp [boundP], rfl⟩⟩
  · exact hlast _ (by simp only [allB]; rfl) (k127 (by simp [boundP]))
  · exact hlast _ (by simp only [allB]; rfl) (k127 (by simp [boundP]))
  · exact hlast _ (by simp only [allB]; rfl) (k127 (by simp [boundP]))
  · exact hlast _ (by simp only [allB]; rfl) (k127 (by simp [boundP]))
  · exact hlast _ (by simp only [allB]; rfl) (k127 (by simp [boundP]))
  · exact hlast _ (by simp only [allB]; rfl) (k127 (by simp [boundP]))
  · exact hlast _ (by simp only [allB]; rfl) (k127 (by simp [boundP]))
  · exact hlast _ (by simp only [allB]; rfl) (k127 (by simp [boundP]))
  · refine hlast (.func (.func 132) #[] #[.pointer (some (⟨bb, 0, none⟩ : Addr))]) (by simp only [allB]; rfl) ⟨132, _, Try.f132, rfl, Try.func132, by kernel_rfl, by kernel_rfl, ok_flow_Flow_bounds_6 _ w6 (fun r w => r = boundP F.fr F.se 10 ∧ w = w6) ?_⟩
    exact ⟨_, by rw [cell_of hbb]; rfl, _, rfl, _, by rw [cell_of hh6]; rfl, by rw [wr (by omega) (by omega)]; simp [boundP]; omega, rfl⟩
  · exact hlast _ (by simp only [allB]; rfl) ⟨130, #[], Try.f130, rfl, Try.func130, by kernel_rfl, by kernel_rfl, ok_flow_Flow_bounds_4 w6 (fun r w => r = boundP F.fr F.se 11 ∧ w = w6) ⟨by simp [boundP], rfl⟩⟩
  · refine hlast (.func (.func 133) #[] #[.pointer (some (⟨bb, 0, none⟩ : Addr))]) (by simp only [allB]; rfl) ⟨133, _, Try.f133, rfl, Try.func133, by kernel_rfl, by kernel_rfl, ok_flow_Flow_bounds_7 _ w6 (fun r w => r = boundP F.fr F.se 12 ∧ w = w6) ?_⟩
    exact ⟨_, by rw [cell_of hbb]; rfl, _, rfl, _, by rw [add_at, cell_of hh6]; rfl, by rw [wr (by omega) (by omega)]; simp [boundP]; omega, rfl⟩
  · exact hlast _ (by simp only [allB]; rfl) (k128 (by simp [boundP]))
  · exact hlast _ (by simp only [allB]; rfl) (k128 (by simp [boundP]))
  · exact hlast _ (by simp only [allB]; rfl) (k128 (by simp [boundP]))
  · exact hlast _ (by simp only [allB]; rfl) (k128 (by simp [boundP]))
  · exact hlast _ (by simp only [allB]; rfl) ⟨131, #[], Try.f131, rfl, Try.func131, by kernel_rfl, by kernel_rfl, ok_flow_Flow_bounds_5 w6 (fun r w => r = boundP F.fr F.se 17 ∧ w = w6) ⟨by simp [boundP], rfl⟩⟩
end Go.Proofs.Ytkfncibmfcdokaa
end

/- XFt1 -/
section
set_option linter.unusedVariables false
set_option linter.unusedSimpArgs false
namespace Go.Proofs.Ytkfncibmfcdokaa
open Go.X

/- pomander/pomanderlaw13.broad -/
def V_pomanderlaw13_broad (m1 : Option Addr) (m1n : Nat) (m1c : Nat) (l1 : Option Addr) (l1n : Nat) (l1c : Nat) (w : World) (R : Bool → World → Prop) : Prop :=
  ((decide ((m1n : Int) > 30) || decide ((l1n : Int) > 20)) = true → R true w) ∧ ((decide ((m1n : Int) > 30) || decide ((l1n : Int) > 20)) = false → ∃ (I1 : Bool × Int → World → Prop) (m2 : Bool × Int → World → Nat), I1 (false, 0) w ∧ ∀ (s1 : Bool × Int) (w1 : World), I1 s1 w1 → ((decide (s1.2 < (l1n : Int))) = true → ∃ a1 : Addr, l1 = some a1 ∧ (0 : Int) ≤ s1.2 ∧ s1.2 < (l1n : Int) ∧ (∃ (t1 : Option Addr) (t1n : Nat) (t1c : Nat), w1.cell? ((a1.add (Int.toNat s1.2 * 3)).add 2) = some (.slice t1 t1n t1c) ∧ (((decide ((t1n : Int) > 20)) = true → R true w1) ∧ ((decide ((t1n : Int) > 20)) = false → (I1 (s1.1, IntKind.wrap .i64 (s1.2 + 1)) w1 ∧ m2 (s1.1, IntKind.wrap .i64 (s1.2 + 1)) w1 < m2 s1 w1))))) ∧ ((decide (s1.2 < (l1n : Int))) = false → R false w1))
set_option maxRecDepth 100000 in
theorem ok_pomanderlaw13_broad (m1 : Option Addr) (m1n : Nat) (m1c : Nat) (l1 : Option Addr) (l1n : Nat) (l1c : Nat) (w : World) (R : Bool → World → Prop) (h : V_pomanderlaw13_broad m1 m1n m1c l1 l1n l1c w R) : Calls Try.prog 17 #[.slice m1 m1n m1c, .slice l1 l1n l1c] w (fun e w' => ∃ (r1 : Bool), e = .returned (.bool r1) ∧ R r1 w') := by
  unfold V_pomanderlaw13_broad at h
  refine enter (N := 27) Try.func17 rfl rfl ?_
  refine CW.seq ?_
  refine CW.region fun L hL => ?_
  refine LW.rd hL rfl (Wants.free rfl) rfl (Rd.assign (v := .bool false) rfl) ?_
  refine LW.nil hL rfl ?_
  refine NW.then ?_
  refine CW.seq ?_
  refine CW.seq ?_
  refine CW.region fun L hL => ?_
  refine LW.rd hL rfl (Wants.free rfl) rfl (Rd.move (v := .slice m1 m1n m1c) rfl) ?_
  refine LW.rd hL rfl (Wants.free rfl) rfl (Rd.builtin (v := .int .i64 (m1n : Int)) rfl (fun _ _ => by kernel_rfl)) ?_
  refine LW.rd hL rfl (Wants.free rfl) rfl (Rd.bin (v := .bool (decide ((m1n : Int) > 30))) rfl rfl (fun w => by kernel_rfl)) ?_
  refine LW.rd hL rfl (Wants.free rfl) rfl (Rd.move (v := .bool (decide ((m1n : Int) > 30))) rfl) ?_
  suffices K1 : L 8 [(1, .slice l1 l1n l1c), (4, .bool false), (13, .bool (decide ((m1n : Int) > 30) || decide ((l1n : Int) > 20)))] w by
    rcases Bool.eq_false_or_eq_true (decide ((m1n : Int) > 30)) with hb2 | hb2
    · skip
      refine LW.skip hL rfl (Skips.on rfl rfl rfl rfl rfl hb2) rfl ?_
      refine LW.skip hL rfl (Skips.on rfl rfl rfl rfl rfl hb2) rfl ?_
      refine LW.skip hL rfl (Skips.on rfl rfl rfl rfl rfl hb2) rfl ?_
      refine LW.rd hL rfl (Wants.free rfl) rfl (Rd.pickT rfl hb2 rfl) ?_
      exact LW.sub hL (by exact ⟨rfl, rfl, (by rw [hb2]; rfl), trivial⟩) K1
    · skip
      refine LW.rd hL rfl (Wants.on rfl rfl rfl rfl rfl hb2) rfl (Rd.move (v := .slice l1 l1n l1c) rfl) ?_
      refine LW.rd hL rfl (Wants.on rfl rfl rfl rfl rfl hb2) rfl (Rd.builtin (v := .int .i64 (l1n : Int)) rfl (fun _ _ => by kernel_rfl)) ?_
      refine LW.rd hL rfl (Wants.on rfl rfl rfl rfl rfl hb2) rfl (Rd.bin (v := .bool (decide ((l1n : Int) > 20))) rfl rfl (fun w => by kernel_rfl)) ?_
      refine LW.rd hL rfl (Wants.free rfl) rfl (Rd.pickF rfl hb2 rfl) ?_
      exact LW.sub hL (by exact ⟨rfl, rfl, (by rw [hb2]; rfl), trivial⟩) K1
  refine LW.nil hL rfl ?_
  refine NW.then ?_
  refine CW.cond rfl (fun hb3 => ?_) (fun hb3 => ?_)
  · replace h := h.1 hb3
    refine CW.seq ?_
    refine CW.region fun L hL => ?_
    refine LW.rd hL rfl (Wants.free rfl) rfl (Rd.assign (v := .bool true) rfl) ?_
    refine LW.nil hL rfl ?_
    refine NW.then ?_
    refine CW.ret ?_
    refine RW.then ?_
    exact res1 rfl rfl ⟨true, rfl, h⟩
  · replace h := h.2 hb3
    refine CW.skip ?_
    refine NW.then ?_
    refine CW.seq ?_
    refine CW.seq ?_
    refine CW.region fun L hL => ?_
    refine LW.rd hL rfl (Wants.free rfl) rfl (Rd.assign (v := .int .i64 0) rfl) ?_
    refine LW.nil hL rfl ?_
    refine NW.then ?_
    refine CW.block ?_
    obtain ⟨I1, m2, hI1, h⟩ := h
    refine CW.loop (S := Bool × Int) (fun s1 => [(1, .slice l1 l1n l1c), (4, .bool s1.1), (5, .int .i64 s1.2)]) I1 m2 (false, 0) (by exact ⟨rfl, rfl, rfl, trivial⟩) hI1 (fun s1 w1 hI1 => ?_)
    replace h := h s1 w1 hI1
    refine CW.seq ?_
    refine CW.seq ?_
    refine CW.region fun L hL => ?_
    refine LW.rd hL rfl (Wants.free rfl) rfl (Rd.move (v := .int .i64 s1.2) rfl) ?_
    refine LW.rd hL rfl (Wants.free rfl) rfl (Rd.move (v := .slice l1 l1n l1c) rfl) ?_
    refine LW.rd hL rfl (Wants.free rfl) rfl (Rd.builtin (v := .int .i64 (l1n : Int)) rfl (fun _ _ => by kernel_rfl)) ?_
    refine LW.rd hL rfl (Wants.free rfl) rfl (Rd.bin (v := .bool (decide (s1.2 < (l1n : Int)))) rfl rfl (fun w => by kernel_rfl)) ?_
    refine LW.nil hL rfl ?_
    refine NW.then ?_
    refine CW.cond rfl (fun hb4 => ?_) (fun hb4 => ?_)
    · replace h := h.1 hb4
      refine CW.skip ?_
      refine NW.then ?_
      refine CW.seq ?_
      refine CW.block ?_
      refine CW.seq ?_
      refine CW.region fun L hL => ?_
      refine LW.rd hL rfl (Wants.free rfl) rfl (Rd.move (v := .slice l1 l1n l1c) rfl) ?_
      refine LW.rd hL rfl (Wants.free rfl) rfl (Rd.move (v := .int .i64 s1.2) rfl) ?_
      obtain ⟨a1, he1, hi1, hi2, h⟩ := h
      refine LW.rd hL rfl (Wants.free rfl) rfl (Rd.iaS (q := a1) (sz := 3) (by rw [← he1]; rfl) rfl Try.underlying25 (by kernel_rfl) hi1 hi2) ?_
      refine LW.rd hL rfl (Wants.free rfl) rfl (Rd.fa (v := .pointer (some ((a1.add (Int.toNat s1.2 * 3)).add 2))) rfl (fun _ => by kernel_rfl)) ?_
      obtain ⟨t1, t1n, t1c, hc1, h⟩ := h
      refine LW.rd hL rfl (Wants.free rfl) rfl (Rd.ld (v := .slice t1 t1n t1c) rfl (by kernel_rfl) (eqs hc1)) ?_
      refine LW.rd hL rfl (Wants.free rfl) rfl (Rd.builtin (v := .int .i64 (t1n : Int)) rfl (fun _ _ => by kernel_rfl)) ?_
      refine LW.rd hL rfl (Wants.free rfl) rfl (Rd.bin (v := .bool (decide ((t1n : Int) > 20))) rfl rfl (fun w => by kernel_rfl)) ?_
      refine LW.nil hL rfl ?_
      refine NW.then ?_
      refine CW.cond rfl (fun hb5 => ?_) (fun hb5 => ?_)
      · replace h := h.1 hb5
        refine CW.seq ?_
        refine CW.region fun L hL => ?_
        refine LW.rd hL rfl (Wants.free rfl) rfl (Rd.assign (v := .bool true) rfl) ?_
        refine LW.nil hL rfl ?_
        refine NW.then ?_
        refine CW.ret ?_
        refine RW.block ?_
        refine RW.then ?_
        refine RW.then ?_
        refine RW.block ?_
        refine RW.then ?_
        exact res1 rfl rfl ⟨true, rfl, h⟩
      · replace h := h.2 hb5
        refine CW.skip ?_
        refine NW.block ?_
        refine NW.then ?_
        refine CW.region fun L hL => ?_
        refine LW.rd hL rfl (Wants.free rfl) rfl (Rd.move (v := .int .i64 s1.2) rfl) ?_
        refine LW.rd hL rfl (Wants.free rfl) rfl (Rd.bin (v := .int .i64 (IntKind.wrap .i64 (s1.2 + 1))) rfl rfl (fun w => by kernel_rfl)) ?_
        refine LW.rd hL rfl (Wants.free rfl) rfl (Rd.assign (v := .int .i64 (IntKind.wrap .i64 (s1.2 + 1))) rfl) ?_
        refine LW.nil hL rfl ?_
        exact NW.loop (S := Bool × Int) (Ek := fun s1 => [(1, .slice l1 l1n l1c), (4, .bool s1.1), (5, .int .i64 s1.2)]) (s1.1, IntKind.wrap .i64 (s1.2 + 1)) (by exact ⟨rfl, rfl, rfl, trivial⟩) h
    · replace h := h.2 hb4
      refine CW.exit ?_
      refine XW.then ?_
      refine XW.then ?_
      refine XW.hit ?_
      refine NW.then ?_
      refine CW.seq ?_
      refine CW.region fun L hL => ?_
      refine LW.rd hL rfl (Wants.free rfl) rfl (Rd.assign (v := .bool false) rfl) ?_
      refine LW.nil hL rfl ?_
      refine NW.then ?_
      refine CW.ret ?_
      exact res1 rfl rfl ⟨false, rfl, h⟩

/- pomander/pomanderlaw13.known -/
def V_pomanderlaw13_known  (w : World) (R : Bool → World → Prop) : Prop :=
  Calls Try.prog 20 #[] w fun e w1 => ∃ (r2 : Option Addr), e = .returned (.pointer r2) ∧ (Calls Try.prog 22 #[.pointer r2, .int .u32 1] w1 fun e w2 => ∃ (r3 : Int), e = .returned (.int .i64 r3) ∧ (Calls Try.prog 25 #[.agg #[.int .i64 1, .int .i64 1], .int .i64 4] w2 fun e w3 => ∃ (r4 : Option Addr) (r5 : Int), e = .returned (.tuple #[.pointer r4, .int .i64 r5]) ∧ (∀ b1 : Nat, b1 = World.size w3 → ∀ w4 : World, w4 = World.alloc w3 (.cells #[.int .i64 0, .int .i64 0] 56) → (Has w4 (⟨b1, 0, none⟩ : Addr) 2 ∧ Free w4 (⟨b1, 0, none⟩ : Addr) 2 ∧ ∀ w5 : World, w5 = setCells w4 (⟨b1, 0, none⟩ : Addr) 0 [.int .i64 13, .int .i64 0] → (∃ (t1 : Int) (t2 : Int), CellsAt w5 (⟨b1, 0, none⟩ : Addr) 0 [.int .i64 t1, .int .i64 t2] ∧ (Calls Try.prog 36 #[.pointer r4, .agg #[.int .i64 t1, .int .i64 t2], .int .i64 1, .int .u32 1] w5 fun e w6 => ∃ (r6 : Int), e = .returned (.int .i64 r6) ∧ (∃ (t3 : Int) (t4 : Int), CellsAt w6 (⟨b1, 0, none⟩ : Addr) 0 [.int .i64 t3, .int .i64 t4] ∧ (∀ b2 : Nat, b2 = World.size w6 → ∀ w7 : World, w7 = World.alloc w6 (.cells #[.int .i64 t3, .int .i64 t4] 56) → (∀ b3 : Nat, b3 = World.size w7 → ∀ w8 : World, w8 = World.alloc w7 (.cells #[.int .i64 0, .int .i64 0, .slice (some (⟨b2, 0, none⟩ : Addr)) 1 1] 81) → (Calls Try.prog 21 #[.pointer r2, .pointer r4, .slice (some (⟨b3, 0, none⟩ : Addr)) 1 1] w8 fun e w9 => ∃ (r7 : Bool) (r8 : Int), e = .returned (.tuple #[.bool r7, .int .i64 r8]) ∧ (∃ (t5 : Int) (t6 : Int), CellsAt w9 (⟨b1, 0, none⟩ : Addr) 0 [.int .i64 t5, .int .i64 t6] ∧ (∃ (t7 : Int) (t8 : Int), CellsAt w9 (⟨b1, 0, none⟩ : Addr) 0 [.int .i64 t7, .int .i64 t8] ∧ (∀ b4 : Nat, b4 = World.size w9 → ∀ w10 : World, w10 = World.alloc w9 (.cells #[.int .i64 t7, .int .i64 t8] 56) → (∀ b5 : Nat, b5 = World.size w10 → ∀ w11 : World, w11 = World.alloc w10 (.cells #[.int .i64 t5, .int .i64 t6, .slice (some (⟨b4, 0, none⟩ : Addr)) 1 1] 81) → (Calls Try.prog 21 #[.pointer r2, .pointer r4, .slice (some (⟨b5, 0, none⟩ : Addr)) 1 1] w11 fun e w12 => ∃ (r9 : Bool) (r10 : Int), e = .returned (.tuple #[.bool r9, .int .i64 r10]) ∧ (R ((((r3 == 0 && r7) && r8 == 0) && !r9) && r10 == 0) w12))))))))))))))))
set_option maxRecDepth 100000 in
theorem ok_pomanderlaw13_known  (w : World) (R : Bool → World → Prop) (h : V_pomanderlaw13_known  w R) : Calls Try.prog 18 #[] w (fun e w' => ∃ (r1 : Bool), e = .returned (.bool r1) ∧ R r1 w') := by
  unfold V_pomanderlaw13_known at h
  refine enter (N := 60) Try.func18 rfl rfl ?_
  refine CW.seq ?_
  refine CW.region fun L hL => ?_
  refine LW.rd hL rfl (Wants.free rfl) rfl (Rd.assign (v := .bool false) rfl) ?_
  refine LW.nil hL rfl ?_
  refine NW.then ?_
  refine CW.seq ?_
  refine CW.region fun L hL => ?_
  refine LW.call hL rfl (Wants.free rfl) rfl (Cl.fn (f := 20) rfl Try.func20 (by kernel_rfl) rfl) h (fun e w1 h_ => ?_)
  clear h
  obtain ⟨r2, rfl, h⟩ := h_
  refine ⟨_, rfl, ?_⟩
  refine LW.rd hL rfl (Wants.free rfl) rfl (Rd.assign (v := .pointer r2) rfl) ?_
  refine LW.nil hL rfl ?_
  refine NW.then ?_
  refine CW.seq ?_
  refine CW.region fun L hL => ?_
  refine LW.rd hL rfl (Wants.free rfl) rfl (Rd.move (v := .pointer r2) rfl) ?_
  refine LW.call hL rfl (Wants.free rfl) rfl (Cl.fn (f := 22) rfl Try.func22 (by kernel_rfl) rfl) h (fun e w2 h_ => ?_)
  clear h
  obtain ⟨r3, rfl, h⟩ := h_
  refine ⟨_, rfl, ?_⟩
  refine LW.rd hL rfl (Wants.free rfl) rfl (Rd.assign (v := .int .i64 r3) rfl) ?_
  refine LW.nil hL rfl ?_
  refine NW.then ?_
  refine CW.seq ?_
  refine CW.region fun L hL => ?_
  refine LW.rd hL rfl (Wants.free rfl) rfl (Rd.build (v := .agg #[.int .i64 1, .int .i64 1]) rfl (fun _ => by kernel_rfl)) ?_
  refine LW.call hL rfl (Wants.free rfl) rfl (Cl.fn (f := 25) rfl Try.func25 (by kernel_rfl) rfl) h (fun e w3 h_ => ?_)
  clear h
  obtain ⟨r4, r5, rfl, h⟩ := h_
  refine ⟨_, rfl, ?_⟩
  refine LW.rd hL rfl (Wants.free rfl) rfl (Rd.move (v := .tuple #[.pointer r4, .int .i64 r5]) rfl) ?_
  refine LW.rd hL rfl (Wants.free rfl) rfl (Rd.extract (v := .pointer r4) rfl rfl) ?_
  refine LW.rd hL rfl (Wants.free rfl) rfl (Rd.extract (v := .int .i64 r5) rfl rfl) ?_
  refine LW.rd hL rfl (Wants.free rfl) rfl (Rd.assign (v := .pointer r4) rfl) ?_
  refine LW.rd hL rfl (Wants.free rfl) rfl (Rd.assign (v := .int .i64 r5) rfl) ?_
  refine LW.nil hL rfl ?_
  refine NW.then ?_
  refine CW.seq ?_
  refine CW.region fun L hL => ?_
  refine LW.rd hL rfl (Wants.free rfl) rfl (Rd.build (v := .agg #[.int .i64 13, .int .i64 0]) rfl (fun _ => by kernel_rfl)) ?_
  obtain ⟨b1, hb_b1⟩ : ∃ b1, b1 = World.size w3 := ⟨_, rfl⟩
  obtain ⟨w4, hw_w4⟩ : ∃ w4, w4 = World.alloc w3 (.cells #[.int .i64 0, .int .i64 0] 56) := ⟨_, rfl⟩
  replace h := h b1 hb_b1 w4 hw_w4
  refine LW.val hL rfl (Wants.free rfl) rfl (boxE hb_b1 hw_w4 (Vl.alloc (z := .agg #[.int .i64 0, .int .i64 0]) (by kernel_rfl))) ?_
  obtain ⟨ho1, hf1, h⟩ := h
  obtain ⟨w5, hw_w5⟩ : ∃ w5, w5 = setCells w4 (⟨b1, 0, none⟩ : Addr) 0 [.int .i64 13, .int .i64 0] := ⟨_, rfl⟩
  replace h := h w5 hw_w5
  refine LW.eff hL rfl (Wants.free rfl) rfl (stNE hw_w5 (Ef.stN (cs := [.int .i64 13, .int .i64 0]) rfl rfl (by kernel_rfl) (List.forall_mem_cons.2 ⟨rfl, (List.forall_mem_cons.2 ⟨rfl, (List.forall_mem_nil _)⟩)⟩) ho1 hf1)) ?_
  refine LW.nil hL rfl ?_
  refine NW.then ?_
  refine CW.seq ?_
  refine CW.region fun L hL => ?_
  refine LW.rd hL rfl (Wants.free rfl) rfl (Rd.move (v := .pointer r4) rfl) ?_
  obtain ⟨t1, t2, hc1, h⟩ := h
  refine LW.rd hL rfl (Wants.free rfl) rfl (Rd.ldN (cs := [.int .i64 t1, .int .i64 t2]) rfl (by kernel_rfl) (by kernel_rfl) (cellsS hc1)) ?_
  refine LW.call hL rfl (Wants.free rfl) rfl (Cl.fn (f := 36) rfl Try.func36 (by kernel_rfl) rfl) h (fun e w6 h_ => ?_)
  clear h
  obtain ⟨r6, rfl, h⟩ := h_
  refine ⟨_, rfl, ?_⟩
  refine LW.nil hL rfl ?_
  refine NW.then ?_
  refine CW.seq ?_
  refine CW.region fun L hL => ?_
  refine LW.rd hL rfl (Wants.free rfl) rfl (Rd.move (v := .pointer r2) rfl) ?_
  refine LW.rd hL rfl (Wants.free rfl) rfl (Rd.move (v := .pointer r4) rfl) ?_
  obtain ⟨t3, t4, hc2, h⟩ := h
  refine LW.rd hL rfl (Wants.free rfl) rfl (Rd.ldN (cs := [.int .i64 t3, .int .i64 t4]) rfl (by kernel_rfl) (by kernel_rfl) (cellsS hc2)) ?_
  obtain ⟨b2, hb_b2⟩ : ∃ b2, b2 = World.size w6 := ⟨_, rfl⟩
  obtain ⟨w7, hw_w7⟩ : ∃ w7, w7 = World.alloc w6 (.cells #[.int .i64 t3, .int .i64 t4] 56) := ⟨_, rfl⟩
  replace h := h b2 hb_b2 w7 hw_w7
  refine LW.val hL rfl (Wants.free rfl) rfl (sliceE (n := 1) hb_b2 hw_w7 (fun w => Vl.buildSlice (vs := [(0, .agg #[.int .i64 t3, .int .i64 t4])]) rfl (by kernel_rfl))) ?_
  refine LW.rd hL rfl (Wants.free rfl) rfl (Rd.build (v := .agg #[.int .i64 0, .int .i64 0, .slice (some (⟨b2, 0, none⟩ : Addr)) 1 1]) rfl (fun _ => by kernel_rfl)) ?_
  obtain ⟨b3, hb_b3⟩ : ∃ b3, b3 = World.size w7 := ⟨_, rfl⟩
  obtain ⟨w8, hw_w8⟩ : ∃ w8, w8 = World.alloc w7 (.cells #[.int .i64 0, .int .i64 0, .slice (some (⟨b2, 0, none⟩ : Addr)) 1 1] 81) := ⟨_, rfl⟩
  replace h := h b3 hb_b3 w8 hw_w8
  refine LW.val hL rfl (Wants.free rfl) rfl (sliceE (n := 1) hb_b3 hw_w8 (fun w => Vl.buildSlice (vs := [(0, .agg #[.int .i64 0, .int .i64 0, .slice (some (⟨b2, 0, none⟩ : Addr)) 1 1])]) rfl (by kernel_rfl))) ?_
  refine LW.call hL rfl (Wants.free rfl) rfl (Cl.fn (f := 21) rfl Try.func21 (by kernel_rfl) rfl) h (fun e w9 h_ => ?_)
  clear h
  obtain ⟨r7, r8, rfl, h⟩ := h_
  refine ⟨_, rfl, ?_⟩
  refine LW.rd hL rfl (Wants.free rfl) rfl (Rd.move (v := .tuple #[.bool r7, .int .i64 r8]) rfl) ?_
  refine LW.rd hL rfl (Wants.free rfl) rfl (Rd.extract (v := .bool r7) rfl rfl) ?_
  refine LW.rd hL rfl (Wants.free rfl) rfl (Rd.extract (v := .int .i64 r8) rfl rfl) ?_
  refine LW.rd hL rfl (Wants.free rfl) rfl (Rd.assign (v := .bool r7) rfl) ?_
  refine LW.rd hL rfl (Wants.free rfl) rfl (Rd.assign (v := .int .i64 r8) rfl) ?_
  refine LW.nil hL rfl ?_
  refine NW.then ?_
  refine CW.seq ?_
  refine CW.region fun L hL => ?_
  refine LW.rd hL rfl (Wants.free rfl) rfl (Rd.move (v := .pointer r2) rfl) ?_
  refine LW.rd hL rfl (Wants.free rfl) rfl (Rd.move (v := .pointer r4) rfl) ?_
  obtain ⟨t5, t6, hc3, h⟩ := h
  refine LW.rd hL rfl (Wants.free rfl) rfl (Rd.ldN (cs := [.int .i64 t5, .int .i64 t6]) rfl (by kernel_rfl) (by kernel_rfl) (cellsS hc3)) ?_
  obtain ⟨t7, t8, hc4, h⟩ := h
  refine LW.rd hL rfl (Wants.free rfl) rfl (Rd.ldN (cs := [.int .i64 t7, .int .i64 t8]) rfl (by kernel_rfl) (by kernel_rfl) (cellsS hc4)) ?_
  obtain ⟨b4, hb_b4⟩ : ∃ b4, b4 = World.size w9 := ⟨_, rfl⟩
  obtain ⟨w10, hw_w10⟩ : ∃ w10, w10 = World.alloc w9 (.cells #[.int .i64 t7, .int .i64 t8] 56) := ⟨_, rfl⟩
  replace h := h b4 hb_b4 w10 hw_w10
  refine LW.val hL rfl (Wants.free rfl) rfl (sliceE (n := 1) hb_b4 hw_w10 (fun w => Vl.buildSlice (vs := [(0, .agg #[.int .i64 t7, .int .i64 t8])]) rfl (by kernel_rfl))) ?_
  refine LW.rd hL rfl (Wants.free rfl) rfl (Rd.build (v := .agg #[.int .i64 t5, .int .i64 t6, .slice (some (⟨b4, 0, none⟩ : Addr)) 1 1]) rfl (fun _ => by kernel_rfl)) ?_
  obtain ⟨b5, hb_b5⟩ : ∃ b5, b5 = World.size w10 := ⟨_, rfl⟩
  obtain ⟨w11, hw_w11⟩ : ∃ w11, w11 = World.alloc w10 (.cells #[.int .i64 t5, .int .i64 t6, .slice (some (⟨b4, 0, none⟩ : Addr)) 1 1] 81) := ⟨_, rfl⟩
  replace h := h b5 hb_b5 w11 hw_w11
  refine LW.val hL rfl (Wants.free rfl) rfl (sliceE (n := 1) hb_b5 hw_w11 (fun w => Vl.buildSlice (vs := [(0, .agg #[.int .i64 t5, .int .i64 t6, .slice (some (⟨b4, 0, none⟩ : Addr)) 1 1])]) rfl (by kernel_rfl))) ?_
  refine LW.call hL rfl (Wants.free rfl) rfl (Cl.fn (f := 21) rfl Try.func21 (by kernel_rfl) rfl) h (fun e w12 h_ => ?_)
  clear h
  obtain ⟨r9, r10, rfl, h⟩ := h_
  refine ⟨_, rfl, ?_⟩
  refine LW.rd hL rfl (Wants.free rfl) rfl (Rd.move (v := .tuple #[.bool r9, .int .i64 r10]) rfl) ?_
  refine LW.rd hL rfl (Wants.free rfl) rfl (Rd.extract (v := .bool r9) rfl rfl) ?_
  refine LW.rd hL rfl (Wants.free rfl) rfl (Rd.extract (v := .int .i64 r10) rfl rfl) ?_
  refine LW.rd hL rfl (Wants.free rfl) rfl (Rd.assign (v := .bool r9) rfl) ?_
  refine LW.rd hL rfl (Wants.free rfl) rfl (Rd.assign (v := .int .i64 r10) rfl) ?_
  refine LW.nil hL rfl ?_
  refine NW.then ?_
  refine CW.seq ?_
  refine CW.region fun L hL => ?_
  refine LW.rd hL rfl (Wants.free rfl) rfl (Rd.move (v := .int .i64 r3) rfl) ?_
  refine LW.rd hL rfl (Wants.free rfl) rfl (Rd.bin (v := .bool (r3 == 0)) rfl rfl (fun w => by kernel_rfl)) ?_
  refine LW.rd hL rfl (Wants.free rfl) rfl (Rd.move (v := .bool (r3 == 0)) rfl) ?_
  suffices K1 : L 5 [(0, .bool false), (7, .int .i64 r8), (8, .bool r9), (9, .int .i64 r10), (47, .bool (r3 == 0 && r7))] w12 by
    rcases Bool.eq_false_or_eq_true (r3 == 0) with hb2 | hb2
    · skip
      refine LW.rd hL rfl (Wants.on rfl rfl rfl rfl rfl hb2) rfl (Rd.move (v := .bool r7) rfl) ?_
      refine LW.rd hL rfl (Wants.free rfl) rfl (Rd.pickT rfl hb2 rfl) ?_
      exact LW.sub hL (by exact ⟨rfl, rfl, rfl, rfl, (by rw [hb2]; rfl), trivial⟩) K1
    · skip
      refine LW.skip hL rfl (Skips.on rfl rfl rfl rfl rfl hb2) rfl ?_
      refine LW.rd hL rfl (Wants.free rfl) rfl (Rd.pickF rfl hb2 rfl) ?_
      exact LW.sub hL (by exact ⟨rfl, rfl, rfl, rfl, (by rw [hb2]; rfl), trivial⟩) K1
  refine LW.rd hL rfl (Wants.free rfl) rfl (Rd.move (v := .bool (r3 == 0 && r7)) rfl) ?_
  suffices K2 : L 9 [(0, .bool false), (8, .bool r9), (9, .int .i64 r10), (51, .bool ((r3 == 0 && r7) && r8 == 0))] w12 by
    rcases Bool.eq_false_or_eq_true (r3 == 0 && r7) with hb4 | hb4
    · skip
      refine LW.rd hL rfl (Wants.on rfl rfl rfl rfl rfl hb4) rfl (Rd.move (v := .int .i64 r8) rfl) ?_
      refine LW.rd hL rfl (Wants.on rfl rfl rfl rfl rfl hb4) rfl (Rd.bin (v := .bool (r8 == 0)) rfl rfl (fun w => by kernel_rfl)) ?_
      refine LW.rd hL rfl (Wants.free rfl) rfl (Rd.pickT rfl hb4 rfl) ?_
      exact LW.sub hL (by exact ⟨rfl, rfl, rfl, (by rw [hb4]; rfl), trivial⟩) K2
    · skip
      refine LW.skip hL rfl (Skips.on rfl rfl rfl rfl rfl hb4) rfl ?_
      refine LW.skip hL rfl (Skips.on rfl rfl rfl rfl rfl hb4) rfl ?_
      refine LW.rd hL rfl (Wants.free rfl) rfl (Rd.pickF rfl hb4 rfl) ?_
      exact LW.sub hL (by exact ⟨rfl, rfl, rfl, (by rw [hb4]; rfl), trivial⟩) K2
  refine LW.rd hL rfl (Wants.free rfl) rfl (Rd.move (v := .bool ((r3 == 0 && r7) && r8 == 0)) rfl) ?_
  suffices K3 : L 13 [(0, .bool false), (9, .int .i64 r10), (55, .bool (((r3 == 0 && r7) && r8 == 0) && !r9))] w12 by
    rcases Bool.eq_false_or_eq_true ((r3 == 0 && r7) && r8 == 0) with hb6 | hb6
    · skip
      refine LW.rd hL rfl (Wants.on rfl rfl rfl rfl rfl hb6) rfl (Rd.move (v := .bool r9) rfl) ?_
      refine LW.rd hL rfl (Wants.on rfl rfl rfl rfl rfl hb6) rfl (Rd.un (v := .bool (!r9)) rfl (fun _ => by kernel_rfl)) ?_
      refine LW.rd hL rfl (Wants.free rfl) rfl (Rd.pickT rfl hb6 rfl) ?_
      exact LW.sub hL (by exact ⟨rfl, rfl, (by rw [hb6]; rfl), trivial⟩) K3
    · skip
      refine LW.skip hL rfl (Skips.on rfl rfl rfl rfl rfl hb6) rfl ?_
      refine LW.skip hL rfl (Skips.on rfl rfl rfl rfl rfl hb6) rfl ?_
      refine LW.rd hL rfl (Wants.free rfl) rfl (Rd.pickF rfl hb6 rfl) ?_
      exact LW.sub hL (by exact ⟨rfl, rfl, (by rw [hb6]; rfl), trivial⟩) K3
  refine LW.rd hL rfl (Wants.free rfl) rfl (Rd.move (v := .bool (((r3 == 0 && r7) && r8 == 0) && !r9)) rfl) ?_
  suffices K4 : L 17 [(0, .bool false), (59, .bool ((((r3 == 0 && r7) && r8 == 0) && !r9) && r10 == 0))] w12 by
    rcases Bool.eq_false_or_eq_true (((r3 == 0 && r7) && r8 == 0) && !r9) with hb8 | hb8
    · skip
      refine LW.rd hL rfl (Wants.on rfl rfl rfl rfl rfl hb8) rfl (Rd.move (v := .int .i64 r10) rfl) ?_
      refine LW.rd hL rfl (Wants.on rfl rfl rfl rfl rfl hb8) rfl (Rd.bin (v := .bool (r10 == 0)) rfl rfl (fun w => by kernel_rfl)) ?_
      refine LW.rd hL rfl (Wants.free rfl) rfl (Rd.pickT rfl hb8 rfl) ?_
      exact LW.sub hL (by exact ⟨rfl, (by rw [hb8]; rfl), trivial⟩) K4
    · skip
      refine LW.skip hL rfl (Skips.on rfl rfl rfl rfl rfl hb8) rfl ?_
      refine LW.skip hL rfl (Skips.on rfl rfl rfl rfl rfl hb8) rfl ?_
      refine LW.rd hL rfl (Wants.free rfl) rfl (Rd.pickF rfl hb8 rfl) ?_
      exact LW.sub hL (by exact ⟨rfl, (by rw [hb8]; rfl), trivial⟩) K4
  refine LW.rd hL rfl (Wants.free rfl) rfl (Rd.assign (v := .bool ((((r3 == 0 && r7) && r8 == 0) && !r9) && r10 == 0)) rfl) ?_
  refine LW.nil hL rfl ?_
  refine NW.then ?_
  refine CW.ret ?_
  exact res1 rfl rfl ⟨((((r3 == 0 && r7) && r8 == 0) && !r9) && r10 == 0), rfl, h⟩

/- pomander/pomanderlaw13.made -/
def V_pomanderlaw13_made (l1 : Option Addr) (l1n : Nat) (l1c : Nat) (w : World) (R : (Option Addr) → Int → Int → Int → (Option Addr) → Nat → Nat → (Option Addr) → Nat → Nat → World → Prop) : Prop :=
  ∀ b1 : Nat, b1 = World.size w → ∀ w1 : World, w1 = World.alloc w (.cells #[.int .i64 0, .int .i64 0, .int .i64 0, .slice none 0 0, .slice none 0 0] 36) → (∀ b2 : Nat, b2 = World.size w1 → ∀ w2 : World, w2 = World.alloc w1 (.cells #[.int .i64 0, .int .i64 0] 30) → (Has w2 (⟨b2, 0, none⟩ : Addr) 2 ∧ Free w2 (⟨b2, 0, none⟩ : Addr) 2 ∧ ∀ w3 : World, w3 = setCells w2 (⟨b2, 0, none⟩ : Addr) 0 [.int .i64 2, .int .i64 2] → (∃ (t1 : Int) (t2 : Int), CellsAt w3 (⟨b2, 0, none⟩ : Addr) 0 [.int .i64 t1, .int .i64 t2] ∧ (Calls Try.prog 25 #[.agg #[.int .i64 t1, .int .i64 t2], .int .i64 65536] w3 fun e w4 => ∃ (r7 : Option Addr) (r8 : Int), e = .returned (.tuple #[.pointer r7, .int .i64 r8]) ∧ (∃ (t3 : Int) (t4 : Int), CellsAt w4 (⟨b2, 0, none⟩ : Addr) 0 [.int .i64 t3, .int .i64 t4] ∧ (Calls Try.prog 26 #[.agg #[.int .i64 t3, .int .i64 t4], .int .i64 65536] w4 fun e w5 => ∃ (r9 : Int) (r10 : Int) (r11 : Int) (r12 : Option Addr) (r12n : Nat) (r12c : Nat) (r13 : Option Addr) (r13n : Nat) (r13c : Nat), e = .returned (.agg #[.int .i64 r9, .int .i64 r10, .int .i64 r11, .slice r12 r12n r12c, .slice r13 r13n r13c]) ∧ (∀ b3 : Nat, b3 = World.size w5 → ∀ w6 : World, w6 = World.alloc w5 (.cells #[.int .i64 0, .int .i64 0, .int .i64 0, .slice none 0 0, .slice none 0 0] 36) → (Has w6 (⟨b3, 0, none⟩ : Addr) 5 ∧ Free w6 (⟨b3, 0, none⟩ : Addr) 5 ∧ ∀ w7 : World, w7 = setCells w6 (⟨b3, 0, none⟩ : Addr) 0 [.int .i64 r9, .int .i64 r10, .int .i64 r11, .slice r12 r12n r12c, .slice r13 r13n r13c] → (∃ (I1 : Int → World → Prop) (m1 : Int → World → Nat), I1 0 w7 ∧ ∀ (s1 : Int) (w8 : World), I1 s1 w8 → ((decide (s1 < (l1n : Int))) = true → ∀ w9 : World, w9 = World.drew w8 → ∃ a1 : Addr, l1 = some a1 ∧ (0 : Int) ≤ s1 ∧ s1 < (l1n : Int) ∧ (∃ (t5 : Int) (t6 : Int), CellsAt w9 (a1.add (Int.toNat s1 * 3)) 0 [.int .i64 t5, .int .i64 t6] ∧ (∃ a2 : Addr, l1 = some a2 ∧ (0 : Int) ≤ s1 ∧ s1 < (l1n : Int) ∧ (∃ (t7 : Int), w9.cell? ((a2.add (Int.toNat s1 * 3)).add 2) = some (.int .u32 t7) ∧ (Calls Try.prog 36 #[.pointer r7, .agg #[.int .i64 t5, .int .i64 t6], .int .i64 1, .int .u32 t7] w9 fun e w10 => ∃ (r14 : Int), e = .returned (.int .i64 r14) ∧ (∀ w11 : World, w11 = World.drew w10 → ∃ (t8 : Int) (t9 : Int) (t10 : Int) (t11 : Option Addr) (t11n : Nat) (t11c : Nat) (t12 : Option Addr) (t12n : Nat) (t12c : Nat), CellsAt w11 (⟨b3, 0, none⟩ : Addr) 0 [.int .i64 t8, .int .i64 t9, .int .i64 t10, .slice t11 t11n t11c, .slice t12 t12n t12c] ∧ (∃ a3 : Addr, l1 = some a3 ∧ (0 : Int) ≤ s1 ∧ s1 < (l1n : Int) ∧ (∃ (t13 : Int) (t14 : Int), CellsAt w11 (a3.add (Int.toNat s1 * 3)) 0 [.int .i64 t13, .int .i64 t14] ∧ (∃ a4 : Addr, l1 = some a4 ∧ (0 : Int) ≤ s1 ∧ s1 < (l1n : Int) ∧ (∃ (t15 : Int), w11.cell? ((a4.add (Int.toNat s1 * 3)).add 2) = some (.int .u32 t15) ∧ (Calls Try.prog 63 #[.agg #[.int .i64 t8, .int .i64 t9, .int .i64 t10, .slice t11 t11n t11c, .slice t12 t12n t12c], .agg #[.int .i64 t13, .int .i64 t14], .int .i64 1, .int .u32 t15] w11 fun e w12 => ∃ (r15 : Int) (r16 : Int) (r17 : Int) (r18 : Option Addr) (r18n : Nat) (r18c : Nat) (r19 : Option Addr) (r19n : Nat) (r19c : Nat) (r20 : Int), e = .returned (.tuple #[.agg #[.int .i64 r15, .int .i64 r16, .int .i64 r17, .slice r18 r18n r18c, .slice r19 r19n r19c], .int .i64 r20]) ∧ ((CellsAt w12 (⟨b3, 0, none⟩ : Addr) 0 [.int .i64 t8, .int .i64 t9, .int .i64 t10, .slice t11 t11n t11c, .slice t12 t12n t12c] ∧ CellsAt w12 (a3.add (Int.toNat s1 * 3)) 0 [.int .i64 t13, .int .i64 t14] ∧ w12.cell? ((a4.add (Int.toNat s1 * 3)).add 2) = some (.int .u32 t15) ∧ True) ∧ (Has w12 (⟨b3, 0, none⟩ : Addr) 5 ∧ Free w12 (⟨b3, 0, none⟩ : Addr) 5 ∧ ∀ w13 : World, w13 = setCells w12 (⟨b3, 0, none⟩ : Addr) 0 [.int .i64 r15, .int .i64 r16, .int .i64 r17, .slice r18 r18n r18c, .slice r19 r19n r19c] → ((I1 (IntKind.wrap .i64 (s1 + 1)) w13 ∧ m1 (IntKind.wrap .i64 (s1 + 1)) w13 < m1 s1 w8))))))))))))))) ∧ ((decide (s1 < (l1n : Int))) = false → ∀ w14 : World, w14 = World.drew w8 → ∃ (t16 : Int) (t17 : Int) (t18 : Int) (t19 : Option Addr) (t19n : Nat) (t19c : Nat) (t20 : Option Addr) (t20n : Nat) (t20c : Nat), CellsAt w14 (⟨b3, 0, none⟩ : Addr) 0 [.int .i64 t16, .int .i64 t17, .int .i64 t18, .slice t19 t19n t19c, .slice t20 t20n t20c] ∧ (Has w14 (⟨b1, 0, none⟩ : Addr) 5 ∧ Free w14 (⟨b1, 0, none⟩ : Addr) 5 ∧ ∀ w15 : World, w15 = setCells w14 (⟨b1, 0, none⟩ : Addr) 0 [.int .i64 t16, .int .i64 t17, .int .i64 t18, .slice t19 t19n t19c, .slice t20 t20n t20c] → (∃ (r21 : Int) (r22 : Int) (r23 : Int) (r24 : Option Addr) (r24n : Nat) (r24c : Nat) (r25 : Option Addr) (r25n : Nat) (r25c : Nat), CellsAt w15 (⟨b1, 0, none⟩ : Addr) 0 [.int .i64 r21, .int .i64 r22, .int .i64 r23, .slice r24 r24n r24c, .slice r25 r25n r25c] ∧ R r7 r21 r22 r23 r24 r24n r24c r25 r25n r25c w15))))))))))))
set_option maxRecDepth 100000 in
theorem ok_pomanderlaw13_made (l1 : Option Addr) (l1n : Nat) (l1c : Nat) (w : World) (R : (Option Addr) → Int → Int → Int → (Option Addr) → Nat → Nat → (Option Addr) → Nat → Nat → World → Prop) (h : V_pomanderlaw13_made l1 l1n l1c w R) : Calls Try.prog 19 #[.slice l1 l1n l1c] w (fun e w' => ∃ (r1 : Option Addr) (r2 : Int) (r3 : Int) (r4 : Int) (r5 : Option Addr) (r5n : Nat) (r5c : Nat) (r6 : Option Addr) (r6n : Nat) (r6c : Nat), e = .returned (.tuple #[.pointer r1, .agg #[.int .i64 r2, .int .i64 r3, .int .i64 r4, .slice r5 r5n r5c, .slice r6 r6n r6c]]) ∧ R r1 r2 r3 r4 r5 r5n r5c r6 r6n r6c w') := by
  unfold V_pomanderlaw13_made at h
  refine enter (N := 52) Try.func19 rfl rfl ?_
  refine CW.seq ?_
  refine CW.region fun L hL => ?_
  refine LW.rd hL rfl (Wants.free rfl) rfl (Rd.assign (v := .pointer none) rfl) ?_
  obtain ⟨b1, hb_b1⟩ : ∃ b1, b1 = World.size w := ⟨_, rfl⟩
  obtain ⟨w1, hw_w1⟩ : ∃ w1, w1 = World.alloc w (.cells #[.int .i64 0, .int .i64 0, .int .i64 0, .slice none 0 0, .slice none 0 0] 36) := ⟨_, rfl⟩
  replace h := h b1 hb_b1 w1 hw_w1
  refine LW.val hL rfl (Wants.free rfl) rfl (boxE hb_b1 hw_w1 (Vl.alloc (z := .agg #[.int .i64 0, .int .i64 0, .int .i64 0, .slice none 0 0, .slice none 0 0]) (by kernel_rfl))) ?_
  refine LW.nil hL rfl ?_
  refine NW.then ?_
  refine CW.seq ?_
  refine CW.region fun L hL => ?_
  refine LW.rd hL rfl (Wants.free rfl) rfl (Rd.build (v := .agg #[.int .i64 2, .int .i64 2]) rfl (fun _ => by kernel_rfl)) ?_
  obtain ⟨b2, hb_b2⟩ : ∃ b2, b2 = World.size w1 := ⟨_, rfl⟩
  obtain ⟨w2, hw_w2⟩ : ∃ w2, w2 = World.alloc w1 (.cells #[.int .i64 0, .int .i64 0] 30) := ⟨_, rfl⟩
  replace h := h b2 hb_b2 w2 hw_w2
  refine LW.val hL rfl (Wants.free rfl) rfl (boxE hb_b2 hw_w2 (Vl.alloc (z := .agg #[.int .i64 0, .int .i64 0]) (by kernel_rfl))) ?_
  obtain ⟨ho1, hf1, h⟩ := h
  obtain ⟨w3, hw_w3⟩ : ∃ w3, w3 = setCells w2 (⟨b2, 0, none⟩ : Addr) 0 [.int .i64 2, .int .i64 2] := ⟨_, rfl⟩
  replace h := h w3 hw_w3
  refine LW.eff hL rfl (Wants.free rfl) rfl (stNE hw_w3 (Ef.stN (cs := [.int .i64 2, .int .i64 2]) rfl rfl (by kernel_rfl) (List.forall_mem_cons.2 ⟨rfl, (List.forall_mem_cons.2 ⟨rfl, (List.forall_mem_nil _)⟩)⟩) ho1 hf1)) ?_
  refine LW.nil hL rfl ?_
  refine NW.then ?_
  refine CW.seq ?_
  refine CW.region fun L hL => ?_
  obtain ⟨t1, t2, hc1, h⟩ := h
  refine LW.rd hL rfl (Wants.free rfl) rfl (Rd.ldN (cs := [.int .i64 t1, .int .i64 t2]) rfl (by kernel_rfl) (by kernel_rfl) (cellsS hc1)) ?_
  refine LW.call hL rfl (Wants.free rfl) rfl (Cl.fn (f := 25) rfl Try.func25 (by kernel_rfl) rfl) h (fun e w4 h_ => ?_)
  clear h
  obtain ⟨r7, r8, rfl, h⟩ := h_
  refine ⟨_, rfl, ?_⟩
  refine LW.rd hL rfl (Wants.free rfl) rfl (Rd.move (v := .tuple #[.pointer r7, .int .i64 r8]) rfl) ?_
  refine LW.rd hL rfl (Wants.free rfl) rfl (Rd.extract (v := .pointer r7) rfl rfl) ?_
  refine LW.rd hL rfl (Wants.free rfl) rfl (Rd.extract (v := .int .i64 r8) rfl rfl) ?_
  refine LW.rd hL rfl (Wants.free rfl) rfl (Rd.assign (v := .pointer r7) rfl) ?_
  refine LW.rd hL rfl (Wants.free rfl) rfl (Rd.assign (v := .int .i64 r8) rfl) ?_
  refine LW.nil hL rfl ?_
  refine NW.then ?_
  refine CW.seq ?_
  refine CW.region fun L hL => ?_
  obtain ⟨t3, t4, hc2, h⟩ := h
  refine LW.rd hL rfl (Wants.free rfl) rfl (Rd.ldN (cs := [.int .i64 t3, .int .i64 t4]) rfl (by kernel_rfl) (by kernel_rfl) (cellsS hc2)) ?_
  refine LW.call hL rfl (Wants.free rfl) rfl (Cl.fn (f := 26) rfl Try.func26 (by kernel_rfl) rfl) h (fun e w5 h_ => ?_)
  clear h
  obtain ⟨r9, r10, r11, r12, r12n, r12c, r13, r13n, r13c, rfl, h⟩ := h_
  refine ⟨_, rfl, ?_⟩
  obtain ⟨b3, hb_b3⟩ : ∃ b3, b3 = World.size w5 := ⟨_, rfl⟩
  obtain ⟨w6, hw_w6⟩ : ∃ w6, w6 = World.alloc w5 (.cells #[.int .i64 0, .int .i64 0, .int .i64 0, .slice none 0 0, .slice none 0 0] 36) := ⟨_, rfl⟩
  replace h := h b3 hb_b3 w6 hw_w6
  refine LW.val hL rfl (Wants.free rfl) rfl (boxE hb_b3 hw_w6 (Vl.alloc (z := .agg #[.int .i64 0, .int .i64 0, .int .i64 0, .slice none 0 0, .slice none 0 0]) (by kernel_rfl))) ?_
  obtain ⟨ho2, hf2, h⟩ := h
  obtain ⟨w7, hw_w7⟩ : ∃ w7, w7 = setCells w6 (⟨b3, 0, none⟩ : Addr) 0 [.int .i64 r9, .int .i64 r10, .int .i64 r11, .slice r12 r12n r12c, .slice r13 r13n r13c] := ⟨_, rfl⟩
  replace h := h w7 hw_w7
  refine LW.eff hL rfl (Wants.free rfl) rfl (stNE hw_w7 (Ef.stN (cs := [.int .i64 r9, .int .i64 r10, .int .i64 r11, .slice r12 r12n r12c, .slice r13 r13n r13c]) rfl rfl (by kernel_rfl) (List.forall_mem_cons.2 ⟨rfl, (List.forall_mem_cons.2 ⟨rfl, (List.forall_mem_cons.2 ⟨rfl, (List.forall_mem_cons.2 ⟨rfl, (List.forall_mem_cons.2 ⟨rfl, (List.forall_mem_nil _)⟩)⟩)⟩)⟩)⟩) ho2 hf2)) ?_
  refine LW.nil hL rfl ?_
  refine NW.then ?_
  refine CW.seq ?_
  refine CW.seq ?_
  refine CW.region fun L hL => ?_
  refine LW.rd hL rfl (Wants.free rfl) rfl (Rd.assign (v := .int .i64 0) rfl) ?_
  refine LW.nil hL rfl ?_
  refine NW.then ?_
  refine CW.block ?_
  obtain ⟨I1, m1, hI1, h⟩ := h
  refine CW.loop (S := Int) (fun s1 => [(0, .slice l1 l1n l1c), (2, .pointer none), (3, .pointer (some (⟨b1, 0, none⟩ : Addr))), (5, .pointer r7), (7, .pointer (some (⟨b3, 0, none⟩ : Addr))), (8, .int .i64 s1)]) I1 m1 0 (by exact ⟨rfl, rfl, rfl, rfl, rfl, rfl, trivial⟩) hI1 (fun s1 w8 hI1 => ?_)
  replace h := h s1 w8 hI1
  refine CW.seq ?_
  refine CW.seq ?_
  refine CW.region fun L hL => ?_
  refine LW.rd hL rfl (Wants.free rfl) rfl (Rd.move (v := .int .i64 s1) rfl) ?_
  refine LW.rd hL rfl (Wants.free rfl) rfl (Rd.move (v := .slice l1 l1n l1c) rfl) ?_
  refine LW.rd hL rfl (Wants.free rfl) rfl (Rd.builtin (v := .int .i64 (l1n : Int)) rfl (fun _ _ => by kernel_rfl)) ?_
  refine LW.rd hL rfl (Wants.free rfl) rfl (Rd.bin (v := .bool (decide (s1 < (l1n : Int)))) rfl rfl (fun w => by kernel_rfl)) ?_
  refine LW.nil hL rfl ?_
  refine NW.then ?_
  refine CW.cond rfl (fun hb1 => ?_) (fun hb1 => ?_)
  · replace h := h.1 hb1
    refine CW.skip ?_
    refine NW.then ?_
    refine CW.seq ?_
    refine CW.block ?_
    refine CW.seq ?_
    replace h := h _ rfl
    refine CW.drawn (fun w => w = World.drew w8) 11 (by kernel_rfl) fun H hH => ?_
    generalize World.drew w8 = w9 at h hH ⊢
    refine HW.pure (i := 0) hH rfl (by kernel_rfl) (Wants.free rfl) rfl (fun _ => rfl) (Rd.move (v := .pointer r7) rfl) ?_
    refine HW.pure (i := 1) hH rfl (by kernel_rfl) (Wants.free rfl) rfl (fun _ => rfl) (Rd.move (v := .slice l1 l1n l1c) rfl) ?_
    refine HW.pure (i := 2) hH rfl (by kernel_rfl) (Wants.free rfl) rfl (fun _ => rfl) (Rd.move (v := .int .i64 s1) rfl) ?_
    obtain ⟨a1, he1, hi1, hi2, h⟩ := h
    refine HW.pure (i := 3) hH rfl (by kernel_rfl) (Wants.free rfl) rfl (fun _ => rfl) (Rd.iaS (q := a1) (sz := 3) (by rw [← he1]; rfl) rfl Try.underlying24 (by kernel_rfl) hi1 hi2) ?_
    refine HW.pure (i := 4) hH rfl (by kernel_rfl) (Wants.free rfl) rfl (fun _ => rfl) (Rd.fa (v := .pointer (some (a1.add (Int.toNat s1 * 3)))) rfl (fun _ => by kernel_rfl)) ?_
    obtain ⟨t5, t6, hc3, h⟩ := h
    refine HW.take (i := 5) hH rfl (by kernel_rfl) (by kernel_rfl) (Wants.free rfl) rfl (fun _ => rfl) (Rd.ldN (cs := [.int .i64 t5, .int .i64 t6]) rfl (by kernel_rfl) (by kernel_rfl) (cellsS hc3)) ?_
    refine HW.pure (i := 6) hH rfl (by kernel_rfl) (Wants.free rfl) rfl (fun _ => rfl) (Rd.move (v := .slice l1 l1n l1c) rfl) ?_
    refine HW.pure (i := 7) hH rfl (by kernel_rfl) (Wants.free rfl) rfl (fun _ => rfl) (Rd.move (v := .int .i64 s1) rfl) ?_
    obtain ⟨a2, he2, hi3, hi4, h⟩ := h
    refine HW.pure (i := 8) hH rfl (by kernel_rfl) (Wants.free rfl) rfl (fun _ => rfl) (Rd.iaS (q := a2) (sz := 3) (by rw [← he2]; rfl) rfl Try.underlying24 (by kernel_rfl) hi3 hi4) ?_
    refine HW.pure (i := 9) hH rfl (by kernel_rfl) (Wants.free rfl) rfl (fun _ => rfl) (Rd.fa (v := .pointer (some ((a2.add (Int.toNat s1 * 3)).add 2))) rfl (fun _ => by kernel_rfl)) ?_
    obtain ⟨t7, hc4, h⟩ := h
    refine HW.take (i := 10) hH rfl (by kernel_rfl) (by kernel_rfl) (Wants.free rfl) rfl (fun _ => rfl) (Rd.ld (v := .int .u32 t7) rfl (by kernel_rfl) (eqs hc4)) ?_
    refine HW.call (i := 11) hH (by kernel_rfl) rfl (Wants.free rfl) rfl (Cl.fn (f := 36) rfl Try.func36 (by kernel_rfl) rfl) h (fun e w10 h_ => ?_)
    clear h
    obtain ⟨r14, rfl, h⟩ := h_
    refine ⟨_, rfl, (fun hc => by cases hc), ?_⟩
    refine HW.done hH (by kernel_rfl) ?_
    refine NW.then ?_
    replace h := h _ rfl
    obtain ⟨t8, t9, t10, t11, t11n, t11c, t12, t12n, t12c, hc5, h⟩ := h
    obtain ⟨a3, he3, hi5, hi6, h⟩ := h
    obtain ⟨t13, t14, hc6, h⟩ := h
    obtain ⟨a4, he4, hi7, hi8, h⟩ := h
    obtain ⟨t15, hc7, h⟩ := h
    refine CW.drawn (fun w => CellsAt w (⟨b3, 0, none⟩ : Addr) 0 [.int .i64 t8, .int .i64 t9, .int .i64 t10, .slice t11 t11n t11c, .slice t12 t12n t12c] ∧ CellsAt w (a3.add (Int.toNat s1 * 3)) 0 [.int .i64 t13, .int .i64 t14] ∧ w.cell? ((a4.add (Int.toNat s1 * 3)).add 2) = some (.int .u32 t15) ∧ True) 15 (by kernel_rfl) fun H hH => ?_
    generalize World.drew _ = w11 at *
    have hS1 : CellsAt w11 (⟨b3, 0, none⟩ : Addr) 0 [.int .i64 t8, .int .i64 t9, .int .i64 t10, .slice t11 t11n t11c, .slice t12 t12n t12c] ∧ CellsAt w11 (a3.add (Int.toNat s1 * 3)) 0 [.int .i64 t13, .int .i64 t14] ∧ w11.cell? ((a4.add (Int.toNat s1 * 3)).add 2) = some (.int .u32 t15) ∧ True := ⟨hc5, hc6, hc7, trivial⟩
    refine HW.take (i := 0) hH rfl (by kernel_rfl) (by kernel_rfl) (Wants.free rfl) rfl (fun _ => hS1) (Rd.ldN (cs := [.int .i64 t8, .int .i64 t9, .int .i64 t10, .slice t11 t11n t11c, .slice t12 t12n t12c]) rfl (by kernel_rfl) (by kernel_rfl) (fun w h => cellsAt_get h.1)) ?_
    refine HW.pure (i := 1) hH rfl (by kernel_rfl) (Wants.free rfl) rfl (fun _ => hS1) (Rd.move (v := .slice l1 l1n l1c) rfl) ?_
    refine HW.pure (i := 2) hH rfl (by kernel_rfl) (Wants.free rfl) rfl (fun _ => hS1) (Rd.move (v := .int .i64 s1) rfl) ?_
    refine HW.pure (i := 3) hH rfl (by kernel_rfl) (Wants.free rfl) rfl (fun _ => hS1) (Rd.iaS (q := a3) (sz := 3) (by rw [← he3]; rfl) rfl Try.underlying24 (by kernel_rfl) hi5 hi6) ?_
    refine HW.pure (i := 4) hH rfl (by kernel_rfl) (Wants.free rfl) rfl (fun _ => hS1) (Rd.fa (v := .pointer (some (a3.add (Int.toNat s1 * 3)))) rfl (fun _ => by kernel_rfl)) ?_
    refine HW.take (i := 5) hH rfl (by kernel_rfl) (by kernel_rfl) (Wants.free rfl) rfl (fun _ => hS1) (Rd.ldN (cs := [.int .i64 t13, .int .i64 t14]) rfl (by kernel_rfl) (by kernel_rfl) (fun w h => cellsAt_get h.2.1)) ?_
    refine HW.pure (i := 6) hH rfl (by kernel_rfl) (Wants.free rfl) rfl (fun _ => hS1) (Rd.move (v := .slice l1 l1n l1c) rfl) ?_
    refine HW.pure (i := 7) hH rfl (by kernel_rfl) (Wants.free rfl) rfl (fun _ => hS1) (Rd.move (v := .int .i64 s1) rfl) ?_
    refine HW.pure (i := 8) hH rfl (by kernel_rfl) (Wants.free rfl) rfl (fun _ => hS1) (Rd.iaS (q := a4) (sz := 3) (by rw [← he4]; rfl) rfl Try.underlying24 (by kernel_rfl) hi7 hi8) ?_
    refine HW.pure (i := 9) hH rfl (by kernel_rfl) (Wants.free rfl) rfl (fun _ => hS1) (Rd.fa (v := .pointer (some ((a4.add (Int.toNat s1 * 3)).add 2))) rfl (fun _ => by kernel_rfl)) ?_
    refine HW.take (i := 10) hH rfl (by kernel_rfl) (by kernel_rfl) (Wants.free rfl) rfl (fun _ => hS1) (Rd.ld (v := .int .u32 t15) rfl (by kernel_rfl) (fun w h => h.2.2.1)) ?_
    refine HW.call (i := 11) hH (by kernel_rfl) rfl (Wants.free rfl) rfl (Cl.fn (f := 63) rfl Try.func63 (by kernel_rfl) rfl) h (fun e w12 h_ => ?_)
    clear h
    obtain ⟨r15, r16, r17, r18, r18n, r18c, r19, r19n, r19c, r20, rfl, hS2, h⟩ := h_
    refine ⟨_, rfl, (fun _ => hS2), ?_⟩
    refine HW.pure (i := 12) hH rfl (by kernel_rfl) (Wants.free rfl) rfl (fun _ => hS2) (Rd.move (v := .tuple #[.agg #[.int .i64 r15, .int .i64 r16, .int .i64 r17, .slice r18 r18n r18c, .slice r19 r19n r19c], .int .i64 r20]) rfl) ?_
    refine HW.pure (i := 13) hH rfl (by kernel_rfl) (Wants.free rfl) rfl (fun _ => hS2) (Rd.extract (v := .agg #[.int .i64 r15, .int .i64 r16, .int .i64 r17, .slice r18 r18n r18c, .slice r19 r19n r19c]) rfl rfl) ?_
    refine HW.pure (i := 14) hH rfl (by kernel_rfl) (Wants.free rfl) rfl (fun _ => hS2) (Rd.extract (v := .int .i64 r20) rfl rfl) ?_
    obtain ⟨ho3, hf3, h⟩ := h
    obtain ⟨w13, hw_w13⟩ : ∃ w13, w13 = setCells w12 (⟨b3, 0, none⟩ : Addr) 0 [.int .i64 r15, .int .i64 r16, .int .i64 r17, .slice r18 r18n r18c, .slice r19 r19n r19c] := ⟨_, rfl⟩
    replace h := h w13 hw_w13
    refine HW.eff (i := 15) hH (by kernel_rfl) rfl (Wants.free rfl) rfl (stNE hw_w13 (Ef.stN (cs := [.int .i64 r15, .int .i64 r16, .int .i64 r17, .slice r18 r18n r18c, .slice r19 r19n r19c]) rfl rfl (by kernel_rfl) (List.forall_mem_cons.2 ⟨rfl, (List.forall_mem_cons.2 ⟨rfl, (List.forall_mem_cons.2 ⟨rfl, (List.forall_mem_cons.2 ⟨rfl, (List.forall_mem_cons.2 ⟨rfl, (List.forall_mem_nil _)⟩)⟩)⟩)⟩)⟩) ho3 hf3)) (fun hc => by cases hc) ?_
    refine HW.done hH (by kernel_rfl) ?_
    refine NW.block ?_
    refine NW.then ?_
    refine CW.region fun L hL => ?_
    refine LW.rd hL rfl (Wants.free rfl) rfl (Rd.move (v := .int .i64 s1) rfl) ?_
    refine LW.rd hL rfl (Wants.free rfl) rfl (Rd.bin (v := .int .i64 (IntKind.wrap .i64 (s1 + 1))) rfl rfl (fun w => by kernel_rfl)) ?_
    refine LW.rd hL rfl (Wants.free rfl) rfl (Rd.assign (v := .int .i64 (IntKind.wrap .i64 (s1 + 1))) rfl) ?_
    refine LW.nil hL rfl ?_
    exact NW.loop (S := Int) (Ek := fun s1 => [(0, .slice l1 l1n l1c), (2, .pointer none), (3, .pointer (some (⟨b1, 0, none⟩ : Addr))), (5, .pointer r7), (7, .pointer (some (⟨b3, 0, none⟩ : Addr))), (8, .int .i64 s1)]) (IntKind.wrap .i64 (s1 + 1)) (by exact ⟨rfl, rfl, rfl, rfl, rfl, rfl, trivial⟩) h
  · replace h := h.2 hb1
    refine CW.exit ?_
    refine XW.then ?_
    refine XW.then ?_
    refine XW.hit ?_
    refine NW.then ?_
    refine CW.seq ?_
    replace h := h _ rfl
    refine CW.drawn (fun w => w = World.drew w8) 3 (by kernel_rfl) fun H hH => ?_
    generalize World.drew w8 = w14 at h hH ⊢
    refine HW.pure (i := 0) hH rfl (by kernel_rfl) (Wants.free rfl) rfl (fun _ => rfl) (Rd.move (v := .pointer r7) rfl) ?_
    obtain ⟨t16, t17, t18, t19, t19n, t19c, t20, t20n, t20c, hc8, h⟩ := h
    refine HW.take (i := 1) hH rfl (by kernel_rfl) (by kernel_rfl) (Wants.free rfl) rfl (fun _ => rfl) (Rd.ldN (cs := [.int .i64 t16, .int .i64 t17, .int .i64 t18, .slice t19 t19n t19c, .slice t20 t20n t20c]) rfl (by kernel_rfl) (by kernel_rfl) (cellsS hc8)) ?_
    refine HW.pure (i := 2) hH rfl (by kernel_rfl) (Wants.free rfl) rfl (fun _ => rfl) (Rd.assign (v := .pointer r7) rfl) ?_
    obtain ⟨ho4, hf4, h⟩ := h
    obtain ⟨w15, hw_w15⟩ : ∃ w15, w15 = setCells w14 (⟨b1, 0, none⟩ : Addr) 0 [.int .i64 t16, .int .i64 t17, .int .i64 t18, .slice t19 t19n t19c, .slice t20 t20n t20c] := ⟨_, rfl⟩
    replace h := h w15 hw_w15
    refine HW.eff (i := 3) hH (by kernel_rfl) rfl (Wants.free rfl) rfl (stNE hw_w15 (Ef.stN (cs := [.int .i64 t16, .int .i64 t17, .int .i64 t18, .slice t19 t19n t19c, .slice t20 t20n t20c]) rfl rfl (by kernel_rfl) (List.forall_mem_cons.2 ⟨rfl, (List.forall_mem_cons.2 ⟨rfl, (List.forall_mem_cons.2 ⟨rfl, (List.forall_mem_cons.2 ⟨rfl, (List.forall_mem_cons.2 ⟨rfl, (List.forall_mem_nil _)⟩)⟩)⟩)⟩)⟩) ho4 hf4)) (fun hc => by cases hc) ?_
    refine HW.done hH (by kernel_rfl) ?_
    refine NW.then ?_
    refine CW.ret ?_
    obtain ⟨r21, r22, r23, r24, r24n, r24c, r25, r25n, r25c, hr1, h⟩ := h
    exact resN (vs := [.pointer r7, .agg #[.int .i64 r21, .int .i64 r22, .int .i64 r23, .slice r24 r24n r24c, .slice r25 r25n r25c]]) (ResOK.t rfl (ResOK.c rfl (lvN (cs := [.int .i64 r21, .int .i64 r22, .int .i64 r23, .slice r24 r24n r24c, .slice r25 r25n r25c]) (by kernel_rfl) (by kernel_rfl) (cellsAt_get hr1)) ResOK.nil)) rfl ⟨r7, r21, r22, r23, r24, r24n, r24c, r25, r25n, r25c, rfl, h⟩

/- pomander/policy.New -/
def V_policy_New  (w : World) (R : (Option Addr) → World → Prop) : Prop :=
  ∀ b1 : Nat, b1 = World.size w → ∀ w1 : World, w1 = World.alloc w (.cells #[.int .u32 0, .int .u32 0, .int .u32 0, .int .u32 0, .int .u32 0, .int .u32 0, .int .u32 0, .int .u32 0, .int .u32 0, .int .u32 0, .int .u32 0, .bool true] 85) → (R (some (⟨b1, 0, none⟩ : Addr)) w1)
set_option maxRecDepth 100000 in
theorem ok_policy_New  (w : World) (R : (Option Addr) → World → Prop) (h : V_policy_New  w R) : Calls Try.prog 20 #[] w (fun e w' => ∃ (r1 : Option Addr), e = .returned (.pointer r1) ∧ R r1 w') := by
  unfold V_policy_New at h
  refine enter (N := 3) Try.func20 rfl rfl ?_
  refine CW.seq ?_
  refine CW.region fun L hL => ?_
  refine LW.rd hL rfl (Wants.free rfl) rfl (Rd.assign (v := .pointer none) rfl) ?_
  refine LW.nil hL rfl ?_
  refine NW.then ?_
  refine CW.seq ?_
  refine CW.region fun L hL => ?_
  refine LW.rd hL rfl (Wants.free rfl) rfl (Rd.build (v := .agg #[.int .u32 0, .int .u32 0, .int .u32 0, .int .u32 0, .int .u32 0, .int .u32 0, .int .u32 0, .int .u32 0, .int .u32 0, .int .u32 0, .int .u32 0, .bool true]) rfl (fun _ => by kernel_rfl)) ?_
  obtain ⟨b1, hb_b1⟩ : ∃ b1, b1 = World.size w := ⟨_, rfl⟩
  obtain ⟨w1, hw_w1⟩ : ∃ w1, w1 = World.alloc w (.cells #[.int .u32 0, .int .u32 0, .int .u32 0, .int .u32 0, .int .u32 0, .int .u32 0, .int .u32 0, .int .u32 0, .int .u32 0, .int .u32 0, .int .u32 0, .bool true] 85) := ⟨_, rfl⟩
  replace h := h b1 hb_b1 w1 hw_w1
  refine LW.val hL rfl (Wants.free rfl) rfl (boxE hb_b1 hw_w1 (Vl.box (v := .agg #[.int .u32 0, .int .u32 0, .int .u32 0, .int .u32 0, .int .u32 0, .int .u32 0, .int .u32 0, .int .u32 0, .int .u32 0, .int .u32 0, .int .u32 0, .bool true]) rfl)) ?_
  refine LW.rd hL rfl (Wants.free rfl) rfl (Rd.assign (v := .pointer (some (⟨b1, 0, none⟩ : Addr))) rfl) ?_
  refine LW.nil hL rfl ?_
  refine NW.then ?_
  refine CW.ret ?_
  exact res1 rfl rfl ⟨some (⟨b1, 0, none⟩ : Addr), rfl, h⟩

/- (*pomander/policy.Policy).Stops -/
def V_policy_Policy_Stops (p1 : Option Addr) (f1 : Option Addr) (l1 : Option Addr) (l1n : Nat) (l1c : Nat) (w : World) (R : Bool → Int → World → Prop) : Prop :=
  Calls Try.prog 64 #[.pointer p1] w fun e w1 => ∃ (r3 : Bool), e = .returned (.bool r3) ∧ ((r3 = true → R false 1 w1) ∧ (r3 = false → Calls Try.prog 65 #[.pointer f1, .slice l1 l1n l1c] w1 fun e w2 => ∃ (r4 : Int) (r5 : Int), e = .returned (.tuple #[.int .u32 r4, .int .i64 r5]) ∧ (∃ a1 : Addr, p1 = some a1 ∧ (∃ (t1 : Int), w2.cell? (a1.add 10) = some (.int .u32 t1) ∧ (R (!((bits .and .u32 r4 t1) == 0)) r5 w2)))))
set_option maxRecDepth 100000 in
theorem ok_policy_Policy_Stops (p1 : Option Addr) (f1 : Option Addr) (l1 : Option Addr) (l1n : Nat) (l1c : Nat) (w : World) (R : Bool → Int → World → Prop) (h : V_policy_Policy_Stops p1 f1 l1 l1n l1c w R) : Calls Try.prog 21 #[.pointer p1, .pointer f1, .slice l1 l1n l1c] w (fun e w' => ∃ (r1 : Bool) (r2 : Int), e = .returned (.tuple #[.bool r1, .int .i64 r2]) ∧ R r1 r2 w') := by
  unfold V_policy_Policy_Stops at h
  refine enter (N := 27) Try.func21 rfl rfl ?_
  refine CW.seq ?_
  refine CW.region fun L hL => ?_
  refine LW.rd hL rfl (Wants.free rfl) rfl (Rd.assign (v := .bool false) rfl) ?_
  refine LW.rd hL rfl (Wants.free rfl) rfl (Rd.assign (v := .int .i64 0) rfl) ?_
  refine LW.nil hL rfl ?_
  refine NW.then ?_
  refine CW.seq ?_
  refine CW.seq ?_
  refine CW.region fun L hL => ?_
  refine LW.rd hL rfl (Wants.free rfl) rfl (Rd.move (v := .pointer p1) rfl) ?_
  refine LW.call hL rfl (Wants.free rfl) rfl (Cl.fn (f := 64) rfl Try.func64 (by kernel_rfl) rfl) h (fun e w1 h_ => ?_)
  clear h
  obtain ⟨r3, rfl, h⟩ := h_
  refine ⟨_, rfl, ?_⟩
  refine LW.nil hL rfl ?_
  refine NW.then ?_
  refine CW.cond rfl (fun hb1 => ?_) (fun hb1 => ?_)
  · replace h := h.1 hb1
    refine CW.seq ?_
    refine CW.region fun L hL => ?_
    refine LW.rd hL rfl (Wants.free rfl) rfl (Rd.assign (v := .bool false) rfl) ?_
    refine LW.rd hL rfl (Wants.free rfl) rfl (Rd.assign (v := .int .i64 1) rfl) ?_
    refine LW.nil hL rfl ?_
    refine NW.then ?_
    refine CW.ret ?_
    refine RW.then ?_
    exact res2 rfl rfl rfl ⟨false, 1, rfl, h⟩
  · replace h := h.2 hb1
    refine CW.skip ?_
    refine NW.then ?_
    refine CW.seq ?_
    refine CW.region fun L hL => ?_
    refine LW.rd hL rfl (Wants.free rfl) rfl (Rd.move (v := .pointer f1) rfl) ?_
    refine LW.rd hL rfl (Wants.free rfl) rfl (Rd.move (v := .slice l1 l1n l1c) rfl) ?_
    refine LW.call hL rfl (Wants.free rfl) rfl (Cl.fn (f := 65) rfl Try.func65 (by kernel_rfl) rfl) h (fun e w2 h_ => ?_)
    clear h
    obtain ⟨r4, r5, rfl, h⟩ := h_
    refine ⟨_, rfl, ?_⟩
    refine LW.rd hL rfl (Wants.free rfl) rfl (Rd.move (v := .tuple #[.int .u32 r4, .int .i64 r5]) rfl) ?_
    refine LW.rd hL rfl (Wants.free rfl) rfl (Rd.extract (v := .int .u32 r4) rfl rfl) ?_
    refine LW.rd hL rfl (Wants.free rfl) rfl (Rd.extract (v := .int .i64 r5) rfl rfl) ?_
    refine LW.rd hL rfl (Wants.free rfl) rfl (Rd.assign (v := .int .u32 r4) rfl) ?_
    refine LW.rd hL rfl (Wants.free rfl) rfl (Rd.assign (v := .int .i64 r5) rfl) ?_
    refine LW.nil hL rfl ?_
    refine NW.then ?_
    refine CW.seq ?_
    refine CW.region fun L hL => ?_
    refine LW.rd hL rfl (Wants.free rfl) rfl (Rd.move (v := .int .u32 r4) rfl) ?_
    refine LW.rd hL rfl (Wants.free rfl) rfl (Rd.move (v := .pointer p1) rfl) ?_
    obtain ⟨a1, ha1, h⟩ := h
    refine LW.rd hL rfl (Wants.free rfl) rfl (Rd.nil (q := a1) (by rw [← ha1]; rfl)) ?_
    refine LW.rd hL rfl (Wants.free rfl) rfl (Rd.fa (v := .pointer (some a1)) rfl (fun _ => by kernel_rfl)) ?_
    refine LW.rd hL rfl (Wants.free rfl) rfl (Rd.fa (v := .pointer (some (a1.add 10))) rfl (fun _ => by kernel_rfl)) ?_
    obtain ⟨t1, hc1, h⟩ := h
    refine LW.rd hL rfl (Wants.free rfl) rfl (Rd.ld (v := .int .u32 t1) rfl (by kernel_rfl) (eqs hc1)) ?_
    refine LW.rd hL rfl (Wants.free rfl) rfl (Rd.bin (v := .int .u32 (bits .and .u32 r4 t1)) rfl rfl (fun w => by kernel_rfl)) ?_
    refine LW.rd hL rfl (Wants.free rfl) rfl (Rd.bin (v := .bool (!((bits .and .u32 r4 t1) == 0))) rfl rfl (fun w => by kernel_rfl)) ?_
    refine LW.rd hL rfl (Wants.free rfl) rfl (Rd.move (v := .int .i64 r5) rfl) ?_
    refine LW.rd hL rfl (Wants.free rfl) rfl (Rd.assign (v := .bool (!((bits .and .u32 r4 t1) == 0))) rfl) ?_
    refine LW.rd hL rfl (Wants.free rfl) rfl (Rd.assign (v := .int .i64 r5) rfl) ?_
    refine LW.nil hL rfl ?_
    refine NW.then ?_
    refine CW.ret ?_
    exact res2 rfl rfl rfl ⟨!((bits .and .u32 r4 t1) == 0), r5, rfl, h⟩

/- (*pomander/policy.Policy).Strict -/
def V_policy_Policy_Strict (p1 : Option Addr) (n1 : Int) (w : World) (R : Int → World → Prop) : Prop :=
  Calls Try.prog 64 #[.pointer p1] w fun e w1 => ∃ (r2 : Bool), e = .returned (.bool r2) ∧ ((r2 = true → R 1 w1) ∧ (r2 = false → Calls Try.prog 66 #[.int .u32 n1] w1 fun e w2 => ∃ (r3 : Bool), e = .returned (.bool r3) ∧ (((!r3) = true → R 2 w2) ∧ ((!r3) = false → ∃ a1 : Addr, p1 = some a1 ∧ ((∃ o : Value, w2.cell? (a1.add 10) = some o) ∧ w2.frozen? (a1.add 10) = false ∧ ∀ w3 : World, w3 = World.setCell w2 (a1.add 10) (.int .u32 n1) → (R 0 w3))))))
set_option maxRecDepth 100000 in
theorem ok_policy_Policy_Strict (p1 : Option Addr) (n1 : Int) (w : World) (R : Int → World → Prop) (h : V_policy_Policy_Strict p1 n1 w R) : Calls Try.prog 22 #[.pointer p1, .int .u32 n1] w (fun e w' => ∃ (r1 : Int), e = .returned (.int .i64 r1) ∧ R r1 w') := by
  unfold V_policy_Policy_Strict at h
  refine enter (N := 17) Try.func22 rfl rfl ?_
  refine CW.seq ?_
  refine CW.region fun L hL => ?_
  refine LW.rd hL rfl (Wants.free rfl) rfl (Rd.assign (v := .int .i64 0) rfl) ?_
  refine LW.nil hL rfl ?_
  refine NW.then ?_
  refine CW.seq ?_
  refine CW.block ?_
  refine CW.seq ?_
  refine CW.region fun L hL => ?_
  refine LW.rd hL rfl (Wants.free rfl) rfl (Rd.move (v := .pointer p1) rfl) ?_
  refine LW.call hL rfl (Wants.free rfl) rfl (Cl.fn (f := 64) rfl Try.func64 (by kernel_rfl) rfl) h (fun e w1 h_ => ?_)
  clear h
  obtain ⟨r2, rfl, h⟩ := h_
  refine ⟨_, rfl, ?_⟩
  refine LW.rd hL rfl (Wants.free rfl) rfl (Rd.assign (v := .bool r2) rfl) ?_
  refine LW.nil hL rfl ?_
  refine NW.then ?_
  refine CW.cond rfl (fun hb1 => ?_) (fun hb1 => ?_)
  · replace h := h.1 hb1
    refine CW.seq ?_
    refine CW.region fun L hL => ?_
    refine LW.rd hL rfl (Wants.free rfl) rfl (Rd.assign (v := .int .i64 1) rfl) ?_
    refine LW.nil hL rfl ?_
    refine NW.then ?_
    refine CW.ret ?_
    refine RW.block ?_
    refine RW.then ?_
    exact res1 rfl rfl ⟨1, rfl, h⟩
  · replace h := h.2 hb1
    refine CW.seq ?_
    refine CW.region fun L hL => ?_
    refine LW.rd hL rfl (Wants.free rfl) rfl (Rd.move (v := .int .u32 n1) rfl) ?_
    refine LW.call hL rfl (Wants.free rfl) rfl (Cl.fn (f := 66) rfl Try.func66 (by kernel_rfl) rfl) h (fun e w2 h_ => ?_)
    clear h
    obtain ⟨r3, rfl, h⟩ := h_
    refine ⟨_, rfl, ?_⟩
    refine LW.rd hL rfl (Wants.free rfl) rfl (Rd.un (v := .bool (!r3)) rfl (fun _ => by kernel_rfl)) ?_
    refine LW.rd hL rfl (Wants.free rfl) rfl (Rd.assign (v := .bool (!r3)) rfl) ?_
    refine LW.nil hL rfl ?_
    refine NW.then ?_
    refine CW.cond rfl (fun hb2 => ?_) (fun hb2 => ?_)
    · replace h := h.1 hb2
      refine CW.seq ?_
      refine CW.region fun L hL => ?_
      refine LW.rd hL rfl (Wants.free rfl) rfl (Rd.assign (v := .int .i64 2) rfl) ?_
      refine LW.nil hL rfl ?_
      refine NW.then ?_
      refine CW.ret ?_
      refine RW.block ?_
      refine RW.then ?_
      exact res1 rfl rfl ⟨2, rfl, h⟩
    · replace h := h.2 hb2
      refine CW.skip ?_
      refine NW.block ?_
      refine NW.then ?_
      refine CW.seq ?_
      refine CW.region fun L hL => ?_
      refine LW.rd hL rfl (Wants.free rfl) rfl (Rd.move (v := .pointer p1) rfl) ?_
      refine LW.rd hL rfl (Wants.free rfl) rfl (Rd.move (v := .int .u32 n1) rfl) ?_
      obtain ⟨a1, ha1, h⟩ := h
      refine LW.rd hL rfl (Wants.free rfl) rfl (Rd.nil (q := a1) (by rw [← ha1]; rfl)) ?_
      refine LW.rd hL rfl (Wants.free rfl) rfl (Rd.fa (v := .pointer (some a1)) rfl (fun _ => by kernel_rfl)) ?_
      refine LW.rd hL rfl (Wants.free rfl) rfl (Rd.fa (v := .pointer (some (a1.add 10))) rfl (fun _ => by kernel_rfl)) ?_
      obtain ⟨⟨o_w3, ho1⟩, hf1, h⟩ := h
      obtain ⟨w3, hw_w3⟩ : ∃ w3, w3 = World.setCell w2 (a1.add 10) (.int .u32 n1) := ⟨_, rfl⟩
      replace h := h w3 hw_w3
      refine LW.eff hL rfl (Wants.free rfl) rfl (stE hw_w3 (Ef.st rfl rfl rfl (by kernel_rfl) ho1 hf1)) ?_
      refine LW.nil hL rfl ?_
      refine NW.then ?_
      refine CW.seq ?_
      refine CW.region fun L hL => ?_
      refine LW.rd hL rfl (Wants.free rfl) rfl (Rd.assign (v := .int .i64 0) rfl) ?_
      refine LW.nil hL rfl ?_
      refine NW.then ?_
      refine CW.ret ?_
      exact res1 rfl rfl ⟨0, rfl, h⟩

/- pomander/flow.New -/
def V_flow_New (form1 : Int) (form2 : Int) (most1 : Int) (w : World) (R : (Option Addr) → Int → World → Prop) : Prop :=
  ∀ b1 : Nat, b1 = World.size w → ∀ w1 : World, w1 = World.alloc w (.cells #[.int .i64 form1, .int .i64 form2] 30) → (Calls Try.prog 68 #[.int .i64 most1] w1 fun e w2 => ∃ (r3 : Option Addr) (r4 : Int), e = .returned (.tuple #[.pointer r3, .int .i64 r4]) ∧ (∃ (t1 : Int), w2.cell? (⟨b1, 0, none⟩ : Addr) = some (.int .i64 t1) ∧ (Calls Try.prog 51 #[.int .i64 t1] w2 fun e w3 => ∃ (r5 : Option Addr) (r6 : Int), e = .returned (.tuple #[.pointer r5, .int .i64 r6]) ∧ (∃ (t2 : Int), w3.cell? (⟨b1, 1, none⟩ : Addr) = some (.int .i64 t2) ∧ (Calls Try.prog 51 #[.int .i64 t2] w3 fun e w4 => ∃ (r7 : Option Addr) (r8 : Int), e = .returned (.tuple #[.pointer r7, .int .i64 r8]) ∧ ((((!(r4 == 0) || !(r6 == 0)) || !(r8 == 0)) = true → R none 2 w4) ∧ (((!(r4 == 0) || !(r6 == 0)) || !(r8 == 0)) = false → ∃ (t3 : Int) (t4 : Int), CellsAt w4 (⟨b1, 0, none⟩ : Addr) 0 [.int .i64 t3, .int .i64 t4] ∧ (∀ b2 : Nat, b2 = World.size w4 → ∀ w5 : World, w5 = World.alloc w4 (.map #[] 0) → (∀ b3 : Nat, b3 = World.size w5 → ∀ w6 : World, w6 = World.alloc w5 (.cells #[.int .i64 t3, .int .i64 t4, .pointer r3, .pointer r5, .pointer r7, .map (some b2)] 145) → (R (some (⟨b3, 0, none⟩ : Addr)) 0 w6))))))))))
set_option maxRecDepth 100000 in
theorem ok_flow_New (form1 : Int) (form2 : Int) (most1 : Int) (w : World) (R : (Option Addr) → Int → World → Prop) (h : V_flow_New form1 form2 most1 w R) : Calls Try.prog 25 #[.agg #[.int .i64 form1, .int .i64 form2], .int .i64 most1] w (fun e w' => ∃ (r1 : Option Addr) (r2 : Int), e = .returned (.tuple #[.pointer r1, .int .i64 r2]) ∧ R r1 r2 w') := by
  unfold V_flow_New at h
  refine enter (N := 46) Try.func25 rfl rfl ?_
  refine CW.seq ?_
  refine CW.region fun L hL => ?_
  obtain ⟨b1, hb_b1⟩ : ∃ b1, b1 = World.size w := ⟨_, rfl⟩
  obtain ⟨w1, hw_w1⟩ : ∃ w1, w1 = World.alloc w (.cells #[.int .i64 form1, .int .i64 form2] 30) := ⟨_, rfl⟩
  replace h := h b1 hb_b1 w1 hw_w1
  refine LW.val hL rfl (Wants.free rfl) rfl (boxE hb_b1 hw_w1 (Vl.box (v := .agg #[.int .i64 form1, .int .i64 form2]) rfl)) ?_
  refine LW.rd hL rfl (Wants.free rfl) rfl (Rd.assign (v := .pointer none) rfl) ?_
  refine LW.rd hL rfl (Wants.free rfl) rfl (Rd.assign (v := .int .i64 0) rfl) ?_
  refine LW.nil hL rfl ?_
  refine NW.then ?_
  refine CW.seq ?_
  refine CW.region fun L hL => ?_
  refine LW.rd hL rfl (Wants.free rfl) rfl (Rd.move (v := .int .i64 most1) rfl) ?_
  refine LW.call hL rfl (Wants.free rfl) rfl (Cl.fn (f := 68) rfl Try.func68 (by kernel_rfl) rfl) h (fun e w2 h_ => ?_)
  clear h
  obtain ⟨r3, r4, rfl, h⟩ := h_
  refine ⟨_, rfl, ?_⟩
  refine LW.rd hL rfl (Wants.free rfl) rfl (Rd.move (v := .tuple #[.pointer r3, .int .i64 r4]) rfl) ?_
  refine LW.rd hL rfl (Wants.free rfl) rfl (Rd.extract (v := .pointer r3) rfl rfl) ?_
  refine LW.rd hL rfl (Wants.free rfl) rfl (Rd.extract (v := .int .i64 r4) rfl rfl) ?_
  refine LW.rd hL rfl (Wants.free rfl) rfl (Rd.assign (v := .pointer r3) rfl) ?_
  refine LW.rd hL rfl (Wants.free rfl) rfl (Rd.assign (v := .int .i64 r4) rfl) ?_
  refine LW.nil hL rfl ?_
  refine NW.then ?_
  refine CW.seq ?_
  refine CW.region fun L hL => ?_
  refine LW.rd hL rfl (Wants.free rfl) rfl (Rd.fa (v := .pointer (some (⟨b1, 0, none⟩ : Addr))) rfl (fun _ => by kernel_rfl)) ?_
  obtain ⟨t1, hc1, h⟩ := h
  refine LW.rd hL rfl (Wants.free rfl) rfl (Rd.ld (v := .int .i64 t1) rfl (by kernel_rfl) (eqs hc1)) ?_
  refine LW.call hL rfl (Wants.free rfl) rfl (Cl.fn (f := 51) rfl Try.func51 (by kernel_rfl) rfl) h (fun e w3 h_ => ?_)
  clear h
  obtain ⟨r5, r6, rfl, h⟩ := h_
  refine ⟨_, rfl, ?_⟩
  refine LW.rd hL rfl (Wants.free rfl) rfl (Rd.move (v := .tuple #[.pointer r5, .int .i64 r6]) rfl) ?_
  refine LW.rd hL rfl (Wants.free rfl) rfl (Rd.extract (v := .pointer r5) rfl rfl) ?_
  refine LW.rd hL rfl (Wants.free rfl) rfl (Rd.extract (v := .int .i64 r6) rfl rfl) ?_
  refine LW.rd hL rfl (Wants.free rfl) rfl (Rd.assign (v := .pointer r5) rfl) ?_
  refine LW.rd hL rfl (Wants.free rfl) rfl (Rd.assign (v := .int .i64 r6) rfl) ?_
  refine LW.nil hL rfl ?_
  refine NW.then ?_
  refine CW.seq ?_
  refine CW.region fun L hL => ?_
  refine LW.rd hL rfl (Wants.free rfl) rfl (Rd.fa (v := .pointer (some (⟨b1, 1, none⟩ : Addr))) rfl (fun _ => by kernel_rfl)) ?_
  obtain ⟨t2, hc2, h⟩ := h
  refine LW.rd hL rfl (Wants.free rfl) rfl (Rd.ld (v := .int .i64 t2) rfl (by kernel_rfl) (eqs hc2)) ?_
  refine LW.call hL rfl (Wants.free rfl) rfl (Cl.fn (f := 51) rfl Try.func51 (by kernel_rfl) rfl) h (fun e w4 h_ => ?_)
  clear h
  obtain ⟨r7, r8, rfl, h⟩ := h_
  refine ⟨_, rfl, ?_⟩
  refine LW.rd hL rfl (Wants.free rfl) rfl (Rd.move (v := .tuple #[.pointer r7, .int .i64 r8]) rfl) ?_
  refine LW.rd hL rfl (Wants.free rfl) rfl (Rd.extract (v := .pointer r7) rfl rfl) ?_
  refine LW.rd hL rfl (Wants.free rfl) rfl (Rd.extract (v := .int .i64 r8) rfl rfl) ?_
  refine LW.rd hL rfl (Wants.free rfl) rfl (Rd.assign (v := .pointer r7) rfl) ?_
  refine LW.rd hL rfl (Wants.free rfl) rfl (Rd.assign (v := .int .i64 r8) rfl) ?_
  refine LW.nil hL rfl ?_
  refine NW.then ?_
  refine CW.seq ?_
  refine CW.seq ?_
  refine CW.region fun L hL => ?_
  refine LW.rd hL rfl (Wants.free rfl) rfl (Rd.move (v := .int .i64 r4) rfl) ?_
  refine LW.rd hL rfl (Wants.free rfl) rfl (Rd.bin (v := .bool (!(r4 == 0))) rfl rfl (fun w => by kernel_rfl)) ?_
  refine LW.rd hL rfl (Wants.free rfl) rfl (Rd.move (v := .bool (!(r4 == 0))) rfl) ?_
  suffices K1 : L 6 [(2, .pointer (some (⟨b1, 0, none⟩ : Addr))), (4, .pointer none), (5, .int .i64 0), (6, .pointer r3), (8, .pointer r5), (10, .pointer r7), (11, .int .i64 r8), (34, .bool (!(r4 == 0) || !(r6 == 0)))] w4 by
    rcases Bool.eq_false_or_eq_true (!(r4 == 0)) with hb2 | hb2
    · skip
      refine LW.skip hL rfl (Skips.on rfl rfl rfl rfl rfl hb2) rfl ?_
      refine LW.skip hL rfl (Skips.on rfl rfl rfl rfl rfl hb2) rfl ?_
      refine LW.rd hL rfl (Wants.free rfl) rfl (Rd.pickT rfl hb2 rfl) ?_
      exact LW.sub hL (by exact ⟨rfl, rfl, rfl, rfl, rfl, rfl, rfl, (by rw [hb2]; rfl), trivial⟩) K1
    · skip
      refine LW.rd hL rfl (Wants.on rfl rfl rfl rfl rfl hb2) rfl (Rd.move (v := .int .i64 r6) rfl) ?_
      refine LW.rd hL rfl (Wants.on rfl rfl rfl rfl rfl hb2) rfl (Rd.bin (v := .bool (!(r6 == 0))) rfl rfl (fun w => by kernel_rfl)) ?_
      refine LW.rd hL rfl (Wants.free rfl) rfl (Rd.pickF rfl hb2 rfl) ?_
      exact LW.sub hL (by exact ⟨rfl, rfl, rfl, rfl, rfl, rfl, rfl, (by rw [hb2]; rfl), trivial⟩) K1
  refine LW.rd hL rfl (Wants.free rfl) rfl (Rd.move (v := .bool (!(r4 == 0) || !(r6 == 0))) rfl) ?_
  suffices K2 : L 10 [(2, .pointer (some (⟨b1, 0, none⟩ : Addr))), (4, .pointer none), (5, .int .i64 0), (6, .pointer r3), (8, .pointer r5), (10, .pointer r7), (38, .bool ((!(r4 == 0) || !(r6 == 0)) || !(r8 == 0)))] w4 by
    rcases Bool.eq_false_or_eq_true (!(r4 == 0) || !(r6 == 0)) with hb4 | hb4
    · skip
      refine LW.skip hL rfl (Skips.on rfl rfl rfl rfl rfl hb4) rfl ?_
      refine LW.skip hL rfl (Skips.on rfl rfl rfl rfl rfl hb4) rfl ?_
      refine LW.rd hL rfl (Wants.free rfl) rfl (Rd.pickT rfl hb4 rfl) ?_
      exact LW.sub hL (by exact ⟨rfl, rfl, rfl, rfl, rfl, rfl, (by rw [hb4]; rfl), trivial⟩) K2
    · skip
      refine LW.rd hL rfl (Wants.on rfl rfl rfl rfl rfl hb4) rfl (Rd.move (v := .int .i64 r8) rfl) ?_
      refine LW.rd hL rfl (Wants.on rfl rfl rfl rfl rfl hb4) rfl (Rd.bin (v := .bool (!(r8 == 0))) rfl rfl (fun w => by kernel_rfl)) ?_
      refine LW.rd hL rfl (Wants.free rfl) rfl (Rd.pickF rfl hb4 rfl) ?_
      exact LW.sub hL (by exact ⟨rfl, rfl, rfl, rfl, rfl, rfl, (by rw [hb4]; rfl), trivial⟩) K2
  refine LW.nil hL rfl ?_
  refine NW.then ?_
  refine CW.cond rfl (fun hb5 => ?_) (fun hb5 => ?_)
  · replace h := h.1 hb5
    refine CW.seq ?_
    refine CW.region fun L hL => ?_
    refine LW.rd hL rfl (Wants.free rfl) rfl (Rd.assign (v := .pointer none) rfl) ?_
    refine LW.rd hL rfl (Wants.free rfl) rfl (Rd.assign (v := .int .i64 2) rfl) ?_
    refine LW.nil hL rfl ?_
    refine NW.then ?_
    refine CW.ret ?_
    refine RW.then ?_
    exact res2 rfl rfl rfl ⟨none, 2, rfl, h⟩
  · replace h := h.2 hb5
    refine CW.skip ?_
    refine NW.then ?_
    refine CW.seq ?_
    refine CW.region fun L hL => ?_
    obtain ⟨t3, t4, hc3, h⟩ := h
    refine LW.rd hL rfl (Wants.free rfl) rfl (Rd.ldN (cs := [.int .i64 t3, .int .i64 t4]) rfl (by kernel_rfl) (by kernel_rfl) (cellsS hc3)) ?_
    refine LW.rd hL rfl (Wants.free rfl) rfl (Rd.move (v := .pointer r3) rfl) ?_
    refine LW.rd hL rfl (Wants.free rfl) rfl (Rd.move (v := .pointer r5) rfl) ?_
    refine LW.rd hL rfl (Wants.free rfl) rfl (Rd.move (v := .pointer r7) rfl) ?_
    obtain ⟨b2, hb_b2⟩ : ∃ b2, b2 = World.size w4 := ⟨_, rfl⟩
    obtain ⟨w5, hw_w5⟩ : ∃ w5, w5 = World.alloc w4 (.map #[] 0) := ⟨_, rfl⟩
    replace h := h b2 hb_b2 w5 hw_w5
    refine LW.val hL rfl (Wants.free rfl) rfl (mapE hb_b2 hw_w5 Vl.makeMap) ?_
    refine LW.rd hL rfl (Wants.free rfl) rfl (Rd.build (v := .agg #[.int .i64 t3, .int .i64 t4, .pointer r3, .pointer r5, .pointer r7, .map (some b2)]) rfl (fun _ => by kernel_rfl)) ?_
    obtain ⟨b3, hb_b3⟩ : ∃ b3, b3 = World.size w5 := ⟨_, rfl⟩
    obtain ⟨w6, hw_w6⟩ : ∃ w6, w6 = World.alloc w5 (.cells #[.int .i64 t3, .int .i64 t4, .pointer r3, .pointer r5, .pointer r7, .map (some b2)] 145) := ⟨_, rfl⟩
    replace h := h b3 hb_b3 w6 hw_w6
    refine LW.val hL rfl (Wants.free rfl) rfl (boxE hb_b3 hw_w6 (Vl.box (v := .agg #[.int .i64 t3, .int .i64 t4, .pointer r3, .pointer r5, .pointer r7, .map (some b2)]) rfl)) ?_
    refine LW.rd hL rfl (Wants.free rfl) rfl (Rd.assign (v := .pointer (some (⟨b3, 0, none⟩ : Addr))) rfl) ?_
    refine LW.rd hL rfl (Wants.free rfl) rfl (Rd.assign (v := .int .i64 0) rfl) ?_
    refine LW.nil hL rfl ?_
    refine NW.then ?_
    refine CW.ret ?_
    exact res2 rfl rfl rfl ⟨some (⟨b3, 0, none⟩ : Addr), 0, rfl, h⟩

/- pomander/pomanderref12.New -/
def V_pomanderref12_New (f1 : Int) (f2 : Int) (most1 : Int) (w : World) (R : Int → Int → Int → (Option Addr) → Nat → Nat → (Option Addr) → Nat → Nat → World → Prop) : Prop :=
  ∀ b1 : Nat, b1 = World.size w → ∀ w1 : World, w1 = World.alloc w (.cells #[.int .i64 f1, .int .i64 f2] 30) → (∀ b2 : Nat, b2 = World.size w1 → ∀ w2 : World, w2 = World.alloc w1 (.cells #[.int .i64 0, .int .i64 0, .int .i64 0, .slice none 0 0, .slice none 0 0] 36) → (∀ w3 : World, w3 = World.drew w2 → ∃ (t1 : Int) (t2 : Int), CellsAt w3 (⟨b1, 0, none⟩ : Addr) 0 [.int .i64 t1, .int .i64 t2] ∧ (Calls Try.prog 69 #[.int .i64 most1] w3 fun e w4 => ∃ (r6 : Int) (r7 : Option Addr) (r7n : Nat) (r7c : Nat), e = .returned (.agg #[.int .i64 r6, .slice r7 r7n r7c]) ∧ ((CellsAt w4 (⟨b1, 0, none⟩ : Addr) 0 [.int .i64 t1, .int .i64 t2] ∧ True) ∧ (Has w4 (⟨b2, 0, none⟩ : Addr) 5 ∧ Free w4 (⟨b2, 0, none⟩ : Addr) 5 ∧ ∀ w5 : World, w5 = setCells w4 (⟨b2, 0, none⟩ : Addr) 0 [.int .i64 t1, .int .i64 t2, .int .i64 r6, .slice r7 r7n r7c, .slice none 0 0] → (∃ (r8 : Int) (r9 : Int) (r10 : Int) (r11 : Option Addr) (r11n : Nat) (r11c : Nat) (r12 : Option Addr) (r12n : Nat) (r12c : Nat), CellsAt w5 (⟨b2, 0, none⟩ : Addr) 0 [.int .i64 r8, .int .i64 r9, .int .i64 r10, .slice r11 r11n r11c, .slice r12 r12n r12c] ∧ R r8 r9 r10 r11 r11n r11c r12 r12n r12c w5))))))
set_option maxRecDepth 100000 in
theorem ok_pomanderref12_New (f1 : Int) (f2 : Int) (most1 : Int) (w : World) (R : Int → Int → Int → (Option Addr) → Nat → Nat → (Option Addr) → Nat → Nat → World → Prop) (h : V_pomanderref12_New f1 f2 most1 w R) : Calls Try.prog 26 #[.agg #[.int .i64 f1, .int .i64 f2], .int .i64 most1] w (fun e w' => ∃ (r1 : Int) (r2 : Int) (r3 : Int) (r4 : Option Addr) (r4n : Nat) (r4c : Nat) (r5 : Option Addr) (r5n : Nat) (r5c : Nat), e = .returned (.agg #[.int .i64 r1, .int .i64 r2, .int .i64 r3, .slice r4 r4n r4c, .slice r5 r5n r5c]) ∧ R r1 r2 r3 r4 r4n r4c r5 r5n r5c w') := by
  unfold V_pomanderref12_New at h
  refine enter (N := 9) Try.func26 rfl rfl ?_
  refine CW.seq ?_
  refine CW.region fun L hL => ?_
  obtain ⟨b1, hb_b1⟩ : ∃ b1, b1 = World.size w := ⟨_, rfl⟩
  obtain ⟨w1, hw_w1⟩ : ∃ w1, w1 = World.alloc w (.cells #[.int .i64 f1, .int .i64 f2] 30) := ⟨_, rfl⟩
  replace h := h b1 hb_b1 w1 hw_w1
  refine LW.val hL rfl (Wants.free rfl) rfl (boxE hb_b1 hw_w1 (Vl.box (v := .agg #[.int .i64 f1, .int .i64 f2]) rfl)) ?_
  obtain ⟨b2, hb_b2⟩ : ∃ b2, b2 = World.size w1 := ⟨_, rfl⟩
  obtain ⟨w2, hw_w2⟩ : ∃ w2, w2 = World.alloc w1 (.cells #[.int .i64 0, .int .i64 0, .int .i64 0, .slice none 0 0, .slice none 0 0] 36) := ⟨_, rfl⟩
  replace h := h b2 hb_b2 w2 hw_w2
  refine LW.val hL rfl (Wants.free rfl) rfl (boxE hb_b2 hw_w2 (Vl.alloc (z := .agg #[.int .i64 0, .int .i64 0, .int .i64 0, .slice none 0 0, .slice none 0 0]) (by kernel_rfl))) ?_
  refine LW.nil hL rfl ?_
  refine NW.then ?_
  refine CW.seq ?_
  replace h := h _ rfl
  obtain ⟨t1, t2, hc1, h⟩ := h
  refine CW.drawn (fun w => CellsAt w (⟨b1, 0, none⟩ : Addr) 0 [.int .i64 t1, .int .i64 t2] ∧ True) 4 (by kernel_rfl) fun H hH => ?_
  generalize World.drew _ = w3 at *
  have hS1 : CellsAt w3 (⟨b1, 0, none⟩ : Addr) 0 [.int .i64 t1, .int .i64 t2] ∧ True := ⟨hc1, trivial⟩
  refine HW.take (i := 0) hH rfl (by kernel_rfl) (by kernel_rfl) (Wants.free rfl) rfl (fun _ => hS1) (Rd.ldN (cs := [.int .i64 t1, .int .i64 t2]) rfl (by kernel_rfl) (by kernel_rfl) (fun w h => cellsAt_get h.1)) ?_
  refine HW.pure (i := 1) hH rfl (by kernel_rfl) (Wants.free rfl) rfl (fun _ => hS1) (Rd.move (v := .int .i64 most1) rfl) ?_
  refine HW.call (i := 2) hH (by kernel_rfl) rfl (Wants.free rfl) rfl (Cl.fn (f := 69) rfl Try.func69 (by kernel_rfl) rfl) h (fun e w4 h_ => ?_)
  clear h
  obtain ⟨r6, r7, r7n, r7c, rfl, hS2, h⟩ := h_
  refine ⟨_, rfl, (fun _ => hS2), ?_⟩
  refine HW.pure (i := 3) hH rfl (by kernel_rfl) (Wants.free rfl) rfl (fun _ => hS2) (Rd.build (v := .agg #[.int .i64 t1, .int .i64 t2, .int .i64 r6, .slice r7 r7n r7c, .slice none 0 0]) rfl (fun _ => by kernel_rfl)) ?_
  obtain ⟨ho1, hf1, h⟩ := h
  obtain ⟨w5, hw_w5⟩ : ∃ w5, w5 = setCells w4 (⟨b2, 0, none⟩ : Addr) 0 [.int .i64 t1, .int .i64 t2, .int .i64 r6, .slice r7 r7n r7c, .slice none 0 0] := ⟨_, rfl⟩
  replace h := h w5 hw_w5
  refine HW.eff (i := 4) hH (by kernel_rfl) rfl (Wants.free rfl) rfl (stNE hw_w5 (Ef.stN (cs := [.int .i64 t1, .int .i64 t2, .int .i64 r6, .slice r7 r7n r7c, .slice none 0 0]) rfl rfl (by kernel_rfl) (List.forall_mem_cons.2 ⟨rfl, (List.forall_mem_cons.2 ⟨rfl, (List.forall_mem_cons.2 ⟨rfl, (List.forall_mem_cons.2 ⟨rfl, (List.forall_mem_cons.2 ⟨rfl, (List.forall_mem_nil _)⟩)⟩)⟩)⟩)⟩) ho1 hf1)) (fun hc => by cases hc) ?_
  refine HW.done hH (by kernel_rfl) ?_
  refine NW.then ?_
  refine CW.ret ?_
  obtain ⟨r8, r9, r10, r11, r11n, r11c, r12, r12n, r12c, hr1, h⟩ := h
  exact resN (vs := [.agg #[.int .i64 r8, .int .i64 r9, .int .i64 r10, .slice r11 r11n r11c, .slice r12 r12n r12c]]) (ResOK.c rfl (lvN (cs := [.int .i64 r8, .int .i64 r9, .int .i64 r10, .slice r11 r11n r11c, .slice r12 r12n r12c]) (by kernel_rfl) (by kernel_rfl) (cellsAt_get hr1)) ResOK.nil) rfl ⟨r8, r9, r10, r11, r11n, r11c, r12, r12n, r12c, rfl, h⟩

/- (*pomander/flow.Flow).Get -/
def V_flow_Flow_Get (f1 : Option Addr) (p1 : Int) (p2 : Int) (w : World) (R : Int → Int → World → Prop) : Prop :=
  ∀ b1 : Nat, b1 = World.size w → ∀ w1 : World, w1 = World.alloc w (.cells #[.int .i64 p1, .int .i64 p2] 56) → (∃ J1 : Int × Int → World → Prop, (∀ (s1 : Int × Int) (w2 : World), J1 s1 w2 → R 0 s1.2 w2) ∧ (Calls Try.prog 73 #[.pointer f1] w1 fun e w3 => ∃ (r3 : Bool), e = .returned (.bool r3) ∧ ((r3 = true → J1 (0, 1) w3) ∧ (r3 = false → ∃ (t1 : Int) (t2 : Int), CellsAt w3 (⟨b1, 0, none⟩ : Addr) 0 [.int .i64 t1, .int .i64 t2] ∧ (Calls Try.prog 74 #[.pointer f1, .agg #[.int .i64 t1, .int .i64 t2]] w3 fun e w4 => ∃ (r4 : Bool), e = .returned (.bool r4) ∧ (((!r4) = true → J1 (0, 2) w4) ∧ ((!r4) = false → ∃ (t3 : Int) (t4 : Int), CellsAt w4 (⟨b1, 0, none⟩ : Addr) 0 [.int .i64 t3, .int .i64 t4] ∧ (Calls Try.prog 75 #[.pointer f1, .agg #[.int .i64 t3, .int .i64 t4]] w4 fun e w5 => ∃ (r5 : Int), e = .returned (.int .u32 r5) ∧ (R r5 0 w5)))))))))
set_option maxRecDepth 100000 in
theorem ok_flow_Flow_Get (f1 : Option Addr) (p1 : Int) (p2 : Int) (w : World) (R : Int → Int → World → Prop) (h : V_flow_Flow_Get f1 p1 p2 w R) : Calls Try.prog 28 #[.pointer f1, .agg #[.int .i64 p1, .int .i64 p2]] w (fun e w' => ∃ (r1 : Int) (r2 : Int), e = .returned (.tuple #[.int .u32 r1, .int .i64 r2]) ∧ R r1 r2 w') := by
  unfold V_flow_Flow_Get at h
  refine enter (N := 16) Try.func28 rfl rfl ?_
  refine CW.seq ?_
  refine CW.region fun L hL => ?_
  obtain ⟨b1, hb_b1⟩ : ∃ b1, b1 = World.size w := ⟨_, rfl⟩
  obtain ⟨w1, hw_w1⟩ : ∃ w1, w1 = World.alloc w (.cells #[.int .i64 p1, .int .i64 p2] 56) := ⟨_, rfl⟩
  replace h := h b1 hb_b1 w1 hw_w1
  refine LW.val hL rfl (Wants.free rfl) rfl (boxE hb_b1 hw_w1 (Vl.box (v := .agg #[.int .i64 p1, .int .i64 p2]) rfl)) ?_
  refine LW.rd hL rfl (Wants.free rfl) rfl (Rd.assign (v := .int .u32 0) rfl) ?_
  refine LW.rd hL rfl (Wants.free rfl) rfl (Rd.assign (v := .int .i64 0) rfl) ?_
  refine LW.nil hL rfl ?_
  refine NW.then ?_
  obtain ⟨J1, hJ1, h⟩ := h
  refine CW.scope (S := Int × Int) 0 (fun s1 => [(4, .int .u32 s1.1), (5, .int .i64 s1.2)]) J1 rfl (fun s1 w2 h_ => ?_) ?_
  · replace h := hJ1 s1 w2 h_; clear h_
    refine CW.seq ?_
    refine CW.skip ?_
    refine NW.then ?_
    refine CW.seq ?_
    refine CW.region fun L hL => ?_
    refine LW.rd hL rfl (Wants.free rfl) rfl (Rd.move (v := .int .i64 s1.2) rfl) ?_
    refine LW.rd hL rfl (Wants.free rfl) rfl (Rd.assign (v := .int .u32 0) rfl) ?_
    refine LW.rd hL rfl (Wants.free rfl) rfl (Rd.assign (v := .int .i64 s1.2) rfl) ?_
    refine LW.nil hL rfl ?_
    refine NW.then ?_
    refine CW.ret ?_
    refine RW.jump ?_
    exact res2 rfl rfl rfl ⟨0, s1.2, rfl, h⟩
  · skip
    refine CW.seq ?_
    refine CW.seq ?_
    refine CW.region fun L hL => ?_
    refine LW.rd hL rfl (Wants.free rfl) rfl (Rd.assign (v := .int .i64 1) rfl) ?_
    refine LW.nil hL rfl ?_
    refine NW.then ?_
    refine CW.seq ?_
    refine CW.region fun L hL => ?_
    refine LW.rd hL rfl (Wants.free rfl) rfl (Rd.move (v := .pointer f1) rfl) ?_
    refine LW.call hL rfl (Wants.free rfl) rfl (Cl.fn (f := 73) rfl Try.func73 (by kernel_rfl) rfl) h (fun e w3 h_ => ?_)
    clear h
    obtain ⟨r3, rfl, h⟩ := h_
    refine ⟨_, rfl, ?_⟩
    refine LW.nil hL rfl ?_
    refine NW.then ?_
    refine CW.cond rfl (fun hb1 => ?_) (fun hb1 => ?_)
    · replace h := h.1 hb1
      refine CW.goto ?_
      refine GW.then ?_
      exact GW.hit (S := Int × Int) (Ek := fun s1 => [(4, .int .u32 s1.1), (5, .int .i64 s1.2)]) (0, 1) (by exact ⟨rfl, rfl, trivial⟩) h
    · replace h := h.2 hb1
      refine CW.skip ?_
      refine NW.then ?_
      refine CW.seq ?_
      refine CW.seq ?_
      refine CW.region fun L hL => ?_
      refine LW.rd hL rfl (Wants.free rfl) rfl (Rd.assign (v := .int .i64 2) rfl) ?_
      refine LW.nil hL rfl ?_
      refine NW.then ?_
      refine CW.seq ?_
      refine CW.region fun L hL => ?_
      refine LW.rd hL rfl (Wants.free rfl) rfl (Rd.move (v := .pointer f1) rfl) ?_
      obtain ⟨t1, t2, hc1, h⟩ := h
      refine LW.rd hL rfl (Wants.free rfl) rfl (Rd.ldN (cs := [.int .i64 t1, .int .i64 t2]) rfl (by kernel_rfl) (by kernel_rfl) (cellsS hc1)) ?_
      refine LW.call hL rfl (Wants.free rfl) rfl (Cl.fn (f := 74) rfl Try.func74 (by kernel_rfl) rfl) h (fun e w4 h_ => ?_)
      clear h
      obtain ⟨r4, rfl, h⟩ := h_
      refine ⟨_, rfl, ?_⟩
      refine LW.rd hL rfl (Wants.free rfl) rfl (Rd.un (v := .bool (!r4)) rfl (fun _ => by kernel_rfl)) ?_
      refine LW.nil hL rfl ?_
      refine NW.then ?_
      refine CW.cond rfl (fun hb2 => ?_) (fun hb2 => ?_)
      · replace h := h.1 hb2
        refine CW.goto ?_
        refine GW.then ?_
        exact GW.hit (S := Int × Int) (Ek := fun s1 => [(4, .int .u32 s1.1), (5, .int .i64 s1.2)]) (0, 2) (by exact ⟨rfl, rfl, trivial⟩) h
      · replace h := h.2 hb2
        refine CW.skip ?_
        refine NW.then ?_
        refine CW.seq ?_
        refine CW.seq ?_
        refine CW.region fun L hL => ?_
        refine LW.rd hL rfl (Wants.free rfl) rfl (Rd.move (v := .pointer f1) rfl) ?_
        obtain ⟨t3, t4, hc2, h⟩ := h
        refine LW.rd hL rfl (Wants.free rfl) rfl (Rd.ldN (cs := [.int .i64 t3, .int .i64 t4]) rfl (by kernel_rfl) (by kernel_rfl) (cellsS hc2)) ?_
        refine LW.call hL rfl (Wants.free rfl) rfl (Cl.fn (f := 75) rfl Try.func75 (by kernel_rfl) rfl) h (fun e w5 h_ => ?_)
        clear h
        obtain ⟨r5, rfl, h⟩ := h_
        refine ⟨_, rfl, ?_⟩
        refine LW.rd hL rfl (Wants.free rfl) rfl (Rd.assign (v := .int .u32 r5) rfl) ?_
        refine LW.rd hL rfl (Wants.free rfl) rfl (Rd.assign (v := .int .i64 0) rfl) ?_
        refine LW.nil hL rfl ?_
        refine NW.then ?_
        refine CW.ret ?_
        refine RW.then ?_
        refine RW.jump ?_
        exact res2 rfl rfl rfl ⟨r5, 0, rfl, h⟩

/- (pomander/pomanderref12.Flow).May -/
def V_pomanderref12_Flow_May (f1 : Int) (f2 : Int) (f3 : Int) (f4 : Option Addr) (f4n : Nat) (f4c : Nat) (f5 : Option Addr) (f5n : Nat) (f5c : Nat) (p1 : Int) (p2 : Int) (w : World) (R : Bool → World → Prop) : Prop :=
  ∀ b1 : Nat, b1 = World.size w → ∀ w1 : World, w1 = World.alloc w (.cells #[.int .i64 f1, .int .i64 f2, .int .i64 f3, .slice f4 f4n f4c, .slice f5 f5n f5c] 36) → (∀ b2 : Nat, b2 = World.size w1 → ∀ w2 : World, w2 = World.alloc w1 (.cells #[.int .i64 p1, .int .i64 p2] 56) → (∃ (t1 : Int), w2.cell? (⟨b2, 0, none⟩ : Addr) = some (.int .i64 t1) ∧ (∃ J1 : Bool × Int → World → Prop, (∀ (s1 : Bool × Int) (w3 : World), J1 s1 w3 → ∃ (t2 : Int), w3.cell? (⟨b2, 1, none⟩ : Addr) = some (.int .i64 t2) ∧ (∃ J2 : Bool → World → Prop, (∀ (b3 : Bool) (w4 : World), J2 b3 w4 → R b3 w4) ∧ (((decide (t2 ≥ 0)) = true → ∃ (t3 : Int), w3.cell? (⟨b2, 1, none⟩ : Addr) = some (.int .i64 t3) ∧ (J2 (decide (t3 < s1.2)) w3)) ∧ ((decide (t2 ≥ 0)) = false → J2 false w3)))) ∧ (((decide (t1 < 1) || decide (t1 > 17)) = true → R false w2) ∧ ((decide (t1 < 1) || decide (t1 > 17)) = false → ((t1 == 1) = true → J1 (false, 8) w2) ∧ ((t1 == 1) = false → ((t1 == 10) = true → ∃ (t4 : Int), w2.cell? (⟨b1, 0, none⟩ : Addr) = some (.int .i64 t4) ∧ (J1 (false, IntKind.wrap .i64 (64 * t4)) w2)) ∧ ((t1 == 10) = false → ((t1 == 11) = true → J1 (false, 4) w2) ∧ ((t1 == 11) = false → ((t1 == 12) = true → ∃ (t5 : Int), w2.cell? (⟨b1, 1, none⟩ : Addr) = some (.int .i64 t5) ∧ (J1 (false, IntKind.wrap .i64 (64 * t5)) w2)) ∧ ((t1 == 12) = false → ((decide (t1 ≥ 13) && decide (t1 ≤ 16)) = true → J1 (false, 2147483648) w2) ∧ ((decide (t1 ≥ 13) && decide (t1 ≤ 16)) = false → ((t1 == 17) = true → J1 (false, 2) w2) ∧ ((t1 == 17) = false → J1 (false, 1) w2)))))))))))
set_option maxRecDepth 100000 in
theorem ok_pomanderref12_Flow_May (f1 : Int) (f2 : Int) (f3 : Int) (f4 : Option Addr) (f4n : Nat) (f4c : Nat) (f5 : Option Addr) (f5n : Nat) (f5c : Nat) (p1 : Int) (p2 : Int) (w : World) (R : Bool → World → Prop) (h : V_pomanderref12_Flow_May f1 f2 f3 f4 f4n f4c f5 f5n f5c p1 p2 w R) : Calls Try.prog 29 #[.agg #[.int .i64 f1, .int .i64 f2, .int .i64 f3, .slice f4 f4n f4c, .slice f5 f5n f5c], .agg #[.int .i64 p1, .int .i64 p2]] w (fun e w' => ∃ (r1 : Bool), e = .returned (.bool r1) ∧ R r1 w') := by
  unfold V_pomanderref12_Flow_May at h
  refine enter (N := 55) Try.func29 rfl rfl ?_
  refine CW.seq ?_
  refine CW.region fun L hL => ?_
  obtain ⟨b1, hb_b1⟩ : ∃ b1, b1 = World.size w := ⟨_, rfl⟩
  obtain ⟨w1, hw_w1⟩ : ∃ w1, w1 = World.alloc w (.cells #[.int .i64 f1, .int .i64 f2, .int .i64 f3, .slice f4 f4n f4c, .slice f5 f5n f5c] 36) := ⟨_, rfl⟩
  replace h := h b1 hb_b1 w1 hw_w1
  refine LW.val hL rfl (Wants.free rfl) rfl (boxE hb_b1 hw_w1 (Vl.box (v := .agg #[.int .i64 f1, .int .i64 f2, .int .i64 f3, .slice f4 f4n f4c, .slice f5 f5n f5c]) rfl)) ?_
  obtain ⟨b2, hb_b2⟩ : ∃ b2, b2 = World.size w1 := ⟨_, rfl⟩
  obtain ⟨w2, hw_w2⟩ : ∃ w2, w2 = World.alloc w1 (.cells #[.int .i64 p1, .int .i64 p2] 56) := ⟨_, rfl⟩
  replace h := h b2 hb_b2 w2 hw_w2
  refine LW.val hL rfl (Wants.free rfl) rfl (boxE hb_b2 hw_w2 (Vl.box (v := .agg #[.int .i64 p1, .int .i64 p2]) rfl)) ?_
  refine LW.rd hL rfl (Wants.free rfl) rfl (Rd.assign (v := .bool false) rfl) ?_
  refine LW.nil hL rfl ?_
  refine NW.then ?_
  refine CW.seq ?_
  refine CW.region fun L hL => ?_
  refine LW.rd hL rfl (Wants.free rfl) rfl (Rd.fa (v := .pointer (some (⟨b2, 0, none⟩ : Addr))) rfl (fun _ => by kernel_rfl)) ?_
  obtain ⟨t1, hc1, h⟩ := h
  refine LW.rd hL rfl (Wants.free rfl) rfl (Rd.ld (v := .int .i64 t1) rfl (by kernel_rfl) (eqs hc1)) ?_
  refine LW.rd hL rfl (Wants.free rfl) rfl (Rd.assign (v := .int .i64 t1) rfl) ?_
  refine LW.nil hL rfl ?_
  refine NW.then ?_
  refine CW.seq ?_
  refine CW.region fun L hL => ?_
  refine LW.rd hL rfl (Wants.free rfl) rfl (Rd.assign (v := .int .i64 1) rfl) ?_
  refine LW.nil hL rfl ?_
  refine NW.then ?_
  obtain ⟨J1, hJ1, h⟩ := h
  refine CW.cut (S := Bool × Int) (fun s1 => [(3, .pointer (some (⟨b2, 0, none⟩ : Addr))), (4, .bool s1.1), (6, .int .i64 s1.2)]) J1 (fun s1 w3 h_ => ?_) ?_
  · replace h := hJ1 s1 w3 h_; clear h_
    refine CW.seq ?_
    refine CW.region fun L hL => ?_
    refine LW.rd hL rfl (Wants.free rfl) rfl (Rd.fa (v := .pointer (some (⟨b2, 1, none⟩ : Addr))) rfl (fun _ => by kernel_rfl)) ?_
    obtain ⟨t2, hc2, h⟩ := h
    refine LW.rd hL rfl (Wants.free rfl) rfl (Rd.ld (v := .int .i64 t2) rfl (by kernel_rfl) (eqs hc2)) ?_
    refine LW.rd hL rfl (Wants.free rfl) rfl (Rd.bin (v := .bool (decide (t2 ≥ 0))) rfl rfl (fun w => by kernel_rfl)) ?_
    refine LW.rd hL rfl (Wants.free rfl) rfl (Rd.move (v := .bool (decide (t2 ≥ 0))) rfl) ?_
    obtain ⟨J2, hJ2, h1_J2, h0_J2⟩ := h
    suffices K1 : ∀ (b3 : Bool) (w4 : World), J2 b3 w4 → L 9 [(4, .bool s1.1), (54, .bool b3)] w4 by
      rcases Bool.eq_false_or_eq_true (decide (t2 ≥ 0)) with hb1 | hb1
      · have h := h1_J2 hb1
        refine LW.rd hL rfl (Wants.on rfl rfl rfl rfl rfl hb1) rfl (Rd.fa (v := .pointer (some (⟨b2, 1, none⟩ : Addr))) rfl (fun _ => by kernel_rfl)) ?_
        obtain ⟨t3, hc3, h⟩ := h
        refine LW.rd hL rfl (Wants.on rfl rfl rfl rfl rfl hb1) rfl (Rd.ld (v := .int .i64 t3) rfl (by kernel_rfl) (eqs hc3)) ?_
        refine LW.rd hL rfl (Wants.on rfl rfl rfl rfl rfl hb1) rfl (Rd.move (v := .int .i64 s1.2) rfl) ?_
        refine LW.rd hL rfl (Wants.on rfl rfl rfl rfl rfl hb1) rfl (Rd.bin (v := .bool (decide (t3 < s1.2))) rfl rfl (fun w => by kernel_rfl)) ?_
        refine LW.rd hL rfl (Wants.free rfl) rfl (Rd.pickT rfl hb1 rfl) ?_
        exact LW.sub hL (by exact ⟨rfl, rfl, trivial⟩) (K1 (decide (t3 < s1.2)) w3 h)
      · have h := h0_J2 hb1
        refine LW.skip hL rfl (Skips.on rfl rfl rfl rfl rfl hb1) rfl ?_
        refine LW.skip hL rfl (Skips.on rfl rfl rfl rfl rfl hb1) rfl ?_
        refine LW.skip hL rfl (Skips.on rfl rfl rfl rfl rfl hb1) rfl ?_
        refine LW.skip hL rfl (Skips.on rfl rfl rfl rfl rfl hb1) rfl ?_
        refine LW.rd hL rfl (Wants.free rfl) rfl (Rd.pickF rfl hb1 rfl) ?_
        exact LW.sub hL (by exact ⟨rfl, rfl, trivial⟩) (K1 false w3 h)
    intro b3 w4 h_
    have h := hJ2 b3 w4 h_; clear h_
    refine LW.rd hL rfl (Wants.free rfl) rfl (Rd.assign (v := .bool b3) rfl) ?_
    refine LW.nil hL rfl ?_
    refine NW.then ?_
    refine CW.ret ?_
    exact res1 rfl rfl ⟨b3, rfl, h⟩
  · skip
    refine CW.block ?_
    refine CW.seq ?_
    refine CW.region fun L hL => ?_
    refine LW.rd hL rfl (Wants.free rfl) rfl (Rd.move (v := .int .i64 t1) rfl) ?_
    refine LW.rd hL rfl (Wants.free rfl) rfl (Rd.bin (v := .bool (decide (t1 < 1))) rfl rfl (fun w => by kernel_rfl)) ?_
    refine LW.rd hL rfl (Wants.free rfl) rfl (Rd.move (v := .bool (decide (t1 < 1))) rfl) ?_
    suffices K2 : L 6 [(2, .pointer (some (⟨b1, 0, none⟩ : Addr))), (3, .pointer (some (⟨b2, 0, none⟩ : Addr))), (4, .bool false), (5, .int .i64 t1), (6, .int .i64 1), (15, .bool (decide (t1 < 1) || decide (t1 > 17)))] w2 by
      rcases Bool.eq_false_or_eq_true (decide (t1 < 1)) with hb3 | hb3
      · skip
        refine LW.skip hL rfl (Skips.on rfl rfl rfl rfl rfl hb3) rfl ?_
        refine LW.skip hL rfl (Skips.on rfl rfl rfl rfl rfl hb3) rfl ?_
        refine LW.rd hL rfl (Wants.free rfl) rfl (Rd.pickT rfl hb3 rfl) ?_
        exact LW.sub hL (by exact ⟨rfl, rfl, rfl, rfl, rfl, (by rw [hb3]; rfl), trivial⟩) K2
      · skip
        refine LW.rd hL rfl (Wants.on rfl rfl rfl rfl rfl hb3) rfl (Rd.move (v := .int .i64 t1) rfl) ?_
        refine LW.rd hL rfl (Wants.on rfl rfl rfl rfl rfl hb3) rfl (Rd.bin (v := .bool (decide (t1 > 17))) rfl rfl (fun w => by kernel_rfl)) ?_
        refine LW.rd hL rfl (Wants.free rfl) rfl (Rd.pickF rfl hb3 rfl) ?_
        exact LW.sub hL (by exact ⟨rfl, rfl, rfl, rfl, rfl, (by rw [hb3]; rfl), trivial⟩) K2
    refine LW.rd hL rfl (Wants.free rfl) rfl (Rd.assign (v := .bool (decide (t1 < 1) || decide (t1 > 17))) rfl) ?_
    refine LW.nil hL rfl ?_
    refine NW.then ?_
    refine CW.cond rfl (fun hb4 => ?_) (fun hb4 => ?_)
    · replace h := h.1 hb4
      refine CW.seq ?_
      refine CW.region fun L hL => ?_
      refine LW.rd hL rfl (Wants.free rfl) rfl (Rd.assign (v := .bool false) rfl) ?_
      refine LW.nil hL rfl ?_
      refine NW.then ?_
      refine CW.ret ?_
      refine RW.block ?_
      refine RW.then ?_
      exact res1 rfl rfl ⟨false, rfl, h⟩
    · replace h := h.2 hb4
      refine CW.seq ?_
      refine CW.region fun L hL => ?_
      refine LW.rd hL rfl (Wants.free rfl) rfl (Rd.move (v := .int .i64 t1) rfl) ?_
      refine LW.rd hL rfl (Wants.free rfl) rfl (Rd.bin (v := .bool (t1 == 1)) rfl rfl (fun w => by kernel_rfl)) ?_
      refine LW.rd hL rfl (Wants.free rfl) rfl (Rd.assign (v := .bool (t1 == 1)) rfl) ?_
      refine LW.nil hL rfl ?_
      refine NW.then ?_
      refine CW.cond rfl (fun hb5 => ?_) (fun hb5 => ?_)
      · replace h := h.1 hb5
        refine CW.region fun L hL => ?_
        refine LW.rd hL rfl (Wants.free rfl) rfl (Rd.assign (v := .int .i64 8) rfl) ?_
        refine LW.nil hL rfl ?_
        refine NW.block ?_
        exact NW.cut (S := Bool × Int) (Ek := fun s1 => [(3, .pointer (some (⟨b2, 0, none⟩ : Addr))), (4, .bool s1.1), (6, .int .i64 s1.2)]) (false, 8) (by exact ⟨rfl, rfl, rfl, trivial⟩) h
      · replace h := h.2 hb5
        refine CW.seq ?_
        refine CW.region fun L hL => ?_
        refine LW.rd hL rfl (Wants.free rfl) rfl (Rd.move (v := .int .i64 t1) rfl) ?_
        refine LW.rd hL rfl (Wants.free rfl) rfl (Rd.bin (v := .bool (t1 == 10)) rfl rfl (fun w => by kernel_rfl)) ?_
        refine LW.rd hL rfl (Wants.free rfl) rfl (Rd.assign (v := .bool (t1 == 10)) rfl) ?_
        refine LW.nil hL rfl ?_
        refine NW.then ?_
        refine CW.cond rfl (fun hb6 => ?_) (fun hb6 => ?_)
        · replace h := h.1 hb6
          refine CW.region fun L hL => ?_
          refine LW.rd hL rfl (Wants.free rfl) rfl (Rd.fa (v := .pointer (some (⟨b1, 0, none⟩ : Addr))) rfl (fun _ => by kernel_rfl)) ?_
          refine LW.rd hL rfl (Wants.free rfl) rfl (Rd.fa (v := .pointer (some (⟨b1, 0, none⟩ : Addr))) rfl (fun _ => by kernel_rfl)) ?_
          obtain ⟨t4, hc4, h⟩ := h
          refine LW.rd hL rfl (Wants.free rfl) rfl (Rd.ld (v := .int .i64 t4) rfl (by kernel_rfl) (eqs hc4)) ?_
          refine LW.rd hL rfl (Wants.free rfl) rfl (Rd.bin (v := .int .i64 (IntKind.wrap .i64 (64 * t4))) rfl rfl (fun w => by kernel_rfl)) ?_
          refine LW.rd hL rfl (Wants.free rfl) rfl (Rd.assign (v := .int .i64 (IntKind.wrap .i64 (64 * t4))) rfl) ?_
          refine LW.nil hL rfl ?_
          refine NW.block ?_
          exact NW.cut (S := Bool × Int) (Ek := fun s1 => [(3, .pointer (some (⟨b2, 0, none⟩ : Addr))), (4, .bool s1.1), (6, .int .i64 s1.2)]) (false, IntKind.wrap .i64 (64 * t4)) (by exact ⟨rfl, rfl, rfl, trivial⟩) h
        · replace h := h.2 hb6
          refine CW.seq ?_
          refine CW.region fun L hL => ?_
          refine LW.rd hL rfl (Wants.free rfl) rfl (Rd.move (v := .int .i64 t1) rfl) ?_
          refine LW.rd hL rfl (Wants.free rfl) rfl (Rd.bin (v := .bool (t1 == 11)) rfl rfl (fun w => by kernel_rfl)) ?_
          refine LW.rd hL rfl (Wants.free rfl) rfl (Rd.assign (v := .bool (t1 == 11)) rfl) ?_
          refine LW.nil hL rfl ?_
          refine NW.then ?_
          refine CW.cond rfl (fun hb7 => ?_) (fun hb7 => ?_)
          · replace h := h.1 hb7
            refine CW.region fun L hL => ?_
            refine LW.rd hL rfl (Wants.free rfl) rfl (Rd.assign (v := .int .i64 4) rfl) ?_
            refine LW.nil hL rfl ?_
            refine NW.block ?_
            exact NW.cut (S := Bool × Int) (Ek := fun s1 => [(3, .pointer (some (⟨b2, 0, none⟩ : Addr))), (4, .bool s1.1), (6, .int .i64 s1.2)]) (false, 4) (by exact ⟨rfl, rfl, rfl, trivial⟩) h
          · replace h := h.2 hb7
            refine CW.seq ?_
            refine CW.region fun L hL => ?_
            refine LW.rd hL rfl (Wants.free rfl) rfl (Rd.move (v := .int .i64 t1) rfl) ?_
            refine LW.rd hL rfl (Wants.free rfl) rfl (Rd.bin (v := .bool (t1 == 12)) rfl rfl (fun w => by kernel_rfl)) ?_
            refine LW.rd hL rfl (Wants.free rfl) rfl (Rd.assign (v := .bool (t1 == 12)) rfl) ?_
            refine LW.nil hL rfl ?_
            refine NW.then ?_
            refine CW.cond rfl (fun hb8 => ?_) (fun hb8 => ?_)
            · replace h := h.1 hb8
              refine CW.region fun L hL => ?_
              refine LW.rd hL rfl (Wants.free rfl) rfl (Rd.fa (v := .pointer (some (⟨b1, 0, none⟩ : Addr))) rfl (fun _ => by kernel_rfl)) ?_
              refine LW.rd hL rfl (Wants.free rfl) rfl (Rd.fa (v := .pointer (some (⟨b1, 1, none⟩ : Addr))) rfl (fun _ => by kernel_rfl)) ?_
              obtain ⟨t5, hc5, h⟩ := h
              refine LW.rd hL rfl (Wants.free rfl) rfl (Rd.ld (v := .int .i64 t5) rfl (by kernel_rfl) (eqs hc5)) ?_
              refine LW.rd hL rfl (Wants.free rfl) rfl (Rd.bin (v := .int .i64 (IntKind.wrap .i64 (64 * t5))) rfl rfl (fun w => by kernel_rfl)) ?_
              refine LW.rd hL rfl (Wants.free rfl) rfl (Rd.assign (v := .int .i64 (IntKind.wrap .i64 (64 * t5))) rfl) ?_
              refine LW.nil hL rfl ?_
              refine NW.block ?_
              exact NW.cut (S := Bool × Int) (Ek := fun s1 => [(3, .pointer (some (⟨b2, 0, none⟩ : Addr))), (4, .bool s1.1), (6, .int .i64 s1.2)]) (false, IntKind.wrap .i64 (64 * t5)) (by exact ⟨rfl, rfl, rfl, trivial⟩) h
            · replace h := h.2 hb8
              refine CW.seq ?_
              refine CW.region fun L hL => ?_
              refine LW.rd hL rfl (Wants.free rfl) rfl (Rd.move (v := .int .i64 t1) rfl) ?_
              refine LW.rd hL rfl (Wants.free rfl) rfl (Rd.bin (v := .bool (decide (t1 ≥ 13))) rfl rfl (fun w => by kernel_rfl)) ?_
              refine LW.rd hL rfl (Wants.free rfl) rfl (Rd.move (v := .bool (decide (t1 ≥ 13))) rfl) ?_
              suffices K3 : L 6 [(3, .pointer (some (⟨b2, 0, none⟩ : Addr))), (4, .bool false), (5, .int .i64 t1), (6, .int .i64 1), (42, .bool (decide (t1 ≥ 13) && decide (t1 ≤ 16)))] w2 by
                rcases Bool.eq_false_or_eq_true (decide (t1 ≥ 13)) with hb10 | hb10
                · skip
                  refine LW.rd hL rfl (Wants.on rfl rfl rfl rfl rfl hb10) rfl (Rd.move (v := .int .i64 t1) rfl) ?_
                  refine LW.rd hL rfl (Wants.on rfl rfl rfl rfl rfl hb10) rfl (Rd.bin (v := .bool (decide (t1 ≤ 16))) rfl rfl (fun w => by kernel_rfl)) ?_
                  refine LW.rd hL rfl (Wants.free rfl) rfl (Rd.pickT rfl hb10 rfl) ?_
                  exact LW.sub hL (by exact ⟨rfl, rfl, rfl, rfl, (by rw [hb10]; rfl), trivial⟩) K3
                · skip
                  refine LW.skip hL rfl (Skips.on rfl rfl rfl rfl rfl hb10) rfl ?_
                  refine LW.skip hL rfl (Skips.on rfl rfl rfl rfl rfl hb10) rfl ?_
                  refine LW.rd hL rfl (Wants.free rfl) rfl (Rd.pickF rfl hb10 rfl) ?_
                  exact LW.sub hL (by exact ⟨rfl, rfl, rfl, rfl, (by rw [hb10]; rfl), trivial⟩) K3
              refine LW.rd hL rfl (Wants.free rfl) rfl (Rd.assign (v := .bool (decide (t1 ≥ 13) && decide (t1 ≤ 16))) rfl) ?_
              refine LW.nil hL rfl ?_
              refine NW.then ?_
              refine CW.cond rfl (fun hb11 => ?_) (fun hb11 => ?_)
              · replace h := h.1 hb11
                refine CW.region fun L hL => ?_
                refine LW.rd hL rfl (Wants.free rfl) rfl (Rd.assign (v := .int .i64 2147483648) rfl) ?_
                refine LW.nil hL rfl ?_
                refine NW.block ?_
                exact NW.cut (S := Bool × Int) (Ek := fun s1 => [(3, .pointer (some (⟨b2, 0, none⟩ : Addr))), (4, .bool s1.1), (6, .int .i64 s1.2)]) (false, 2147483648) (by exact ⟨rfl, rfl, rfl, trivial⟩) h
              · replace h := h.2 hb11
                refine CW.seq ?_
                refine CW.region fun L hL => ?_
                refine LW.rd hL rfl (Wants.free rfl) rfl (Rd.move (v := .int .i64 t1) rfl) ?_
                refine LW.rd hL rfl (Wants.free rfl) rfl (Rd.bin (v := .bool (t1 == 17)) rfl rfl (fun w => by kernel_rfl)) ?_
                refine LW.rd hL rfl (Wants.free rfl) rfl (Rd.assign (v := .bool (t1 == 17)) rfl) ?_
                refine LW.nil hL rfl ?_
                refine NW.then ?_
                refine CW.cond rfl (fun hb12 => ?_) (fun hb12 => ?_)
                · replace h := h.1 hb12
                  refine CW.region fun L hL => ?_
                  refine LW.rd hL rfl (Wants.free rfl) rfl (Rd.assign (v := .int .i64 2) rfl) ?_
                  refine LW.nil hL rfl ?_
                  refine NW.block ?_
                  exact NW.cut (S := Bool × Int) (Ek := fun s1 => [(3, .pointer (some (⟨b2, 0, none⟩ : Addr))), (4, .bool s1.1), (6, .int .i64 s1.2)]) (false, 2) (by exact ⟨rfl, rfl, rfl, trivial⟩) h
                · replace h := h.2 hb12
                  refine CW.skip ?_
                  refine NW.block ?_
                  exact NW.cut (S := Bool × Int) (Ek := fun s1 => [(3, .pointer (some (⟨b2, 0, none⟩ : Addr))), (4, .bool s1.1), (6, .int .i64 s1.2)]) (false, 1) (by exact ⟨rfl, rfl, rfl, trivial⟩) h

/- (*pomander/flow.Flow).Mark -/
def V_flow_Flow_Mark (f1 : Option Addr) (p1 : Int) (p2 : Int) (n1 : Int) (set1 : Int) (w : World) (R : Int → World → Prop) : Prop :=
  ∀ b1 : Nat, b1 = World.size w → ∀ w1 : World, w1 = World.alloc w (.cells #[.int .i64 p1, .int .i64 p2] 56) → (Calls Try.prog 73 #[.pointer f1] w1 fun e w2 => ∃ (r2 : Bool), e = .returned (.bool r2) ∧ ((r2 = true → R 1 w2) ∧ (r2 = false → ∃ (t1 : Int) (t2 : Int), CellsAt w2 (⟨b1, 0, none⟩ : Addr) 0 [.int .i64 t1, .int .i64 t2] ∧ (Calls Try.prog 74 #[.pointer f1, .agg #[.int .i64 t1, .int .i64 t2]] w2 fun e w3 => ∃ (r3 : Bool), e = .returned (.bool r3) ∧ (((!r3 || decide (set1 ≥ 65536)) = true → R 2 w3) ∧ ((!r3 || decide (set1 ≥ 65536)) = false → ∃ J1 : Bool → World → Prop, (∀ (b2 : Bool) (w4 : World), J1 b2 w4 → (b2 = true → R 4 w4) ∧ (b2 = false → Calls Try.prog 77 #[.pointer f1, .int .u32 set1] w4 fun e w7 => ∃ (r5 : Int), e = .returned (.int .i64 r5) ∧ (((!(r5 == 0)) = true → R r5 w7) ∧ ((!(r5 == 0)) = false → ∃ (I1 : Int → World → Prop) (m1 : Int → World → Nat), I1 0 w7 ∧ ∀ (s1 : Int) (w8 : World), I1 s1 w8 → ((decide (s1 < n1)) = true → ∃ (t5 : Int), w8.cell? (⟨b1, 0, none⟩ : Addr) = some (.int .i64 t5) ∧ (∃ (t6 : Int), w8.cell? (⟨b1, 1, none⟩ : Addr) = some (.int .i64 t6) ∧ (Calls Try.prog 78 #[.pointer f1, .agg #[.int .i64 t5, .int .i64 (IntKind.wrap .i64 (t6 + s1))], .int .u32 set1] w8 fun e w9 => e = .returned (.tuple #[]) ∧ ((I1 (IntKind.wrap .i64 (s1 + 1)) w9 ∧ m1 (IntKind.wrap .i64 (s1 + 1)) w9 < m1 s1 w8))))) ∧ ((decide (s1 < n1)) = false → R 0 w8))))) ∧ (((decide (n1 < 0) || decide (n1 > 65536)) = false → ∃ J2 : Bool → World → Prop, (∀ (b3 : Bool) (w5 : World), J2 b3 w5 → J1 b3 w5) ∧ (((decide (n1 > 0)) = true → ∃ (t3 : Int), w3.cell? (⟨b1, 0, none⟩ : Addr) = some (.int .i64 t3) ∧ (∃ (t4 : Int), w3.cell? (⟨b1, 1, none⟩ : Addr) = some (.int .i64 t4) ∧ (Calls Try.prog 74 #[.pointer f1, .agg #[.int .i64 t3, .int .i64 (IntKind.wrap .i64 ((IntKind.wrap .i64 (t4 + n1)) - 1))]] w3 fun e w6 => ∃ (r4 : Bool), e = .returned (.bool r4) ∧ (J2 (!r4) w6)))) ∧ ((decide (n1 > 0)) = false → J2 false w3))) ∧ ((decide (n1 < 0) || decide (n1 > 65536)) = true → J1 true w3))))))))
set_option maxRecDepth 100000 in
theorem ok_flow_Flow_Mark (f1 : Option Addr) (p1 : Int) (p2 : Int) (n1 : Int) (set1 : Int) (w : World) (R : Int → World → Prop) (h : V_flow_Flow_Mark f1 p1 p2 n1 set1 w R) : Calls Try.prog 36 #[.pointer f1, .agg #[.int .i64 p1, .int .i64 p2], .int .i64 n1, .int .u32 set1] w (fun e w' => ∃ (r1 : Int), e = .returned (.int .i64 r1) ∧ R r1 w') := by
  unfold V_flow_Flow_Mark at h
  refine enter (N := 68) Try.func36 rfl rfl ?_
  refine CW.seq ?_
  refine CW.region fun L hL => ?_
  obtain ⟨b1, hb_b1⟩ : ∃ b1, b1 = World.size w := ⟨_, rfl⟩
  obtain ⟨w1, hw_w1⟩ : ∃ w1, w1 = World.alloc w (.cells #[.int .i64 p1, .int .i64 p2] 56) := ⟨_, rfl⟩
  replace h := h b1 hb_b1 w1 hw_w1
  refine LW.val hL rfl (Wants.free rfl) rfl (boxE hb_b1 hw_w1 (Vl.box (v := .agg #[.int .i64 p1, .int .i64 p2]) rfl)) ?_
  refine LW.rd hL rfl (Wants.free rfl) rfl (Rd.assign (v := .int .i64 0) rfl) ?_
  refine LW.nil hL rfl ?_
  refine NW.then ?_
  refine CW.seq ?_
  refine CW.block ?_
  refine CW.seq ?_
  refine CW.region fun L hL => ?_
  refine LW.rd hL rfl (Wants.free rfl) rfl (Rd.move (v := .pointer f1) rfl) ?_
  refine LW.call hL rfl (Wants.free rfl) rfl (Cl.fn (f := 73) rfl Try.func73 (by kernel_rfl) rfl) h (fun e w2 h_ => ?_)
  clear h
  obtain ⟨r2, rfl, h⟩ := h_
  refine ⟨_, rfl, ?_⟩
  refine LW.rd hL rfl (Wants.free rfl) rfl (Rd.assign (v := .bool r2) rfl) ?_
  refine LW.nil hL rfl ?_
  refine NW.then ?_
  refine CW.cond rfl (fun hb1 => ?_) (fun hb1 => ?_)
  · replace h := h.1 hb1
    refine CW.seq ?_
    refine CW.region fun L hL => ?_
    refine LW.rd hL rfl (Wants.free rfl) rfl (Rd.assign (v := .int .i64 1) rfl) ?_
    refine LW.nil hL rfl ?_
    refine NW.then ?_
    refine CW.ret ?_
    refine RW.block ?_
    refine RW.then ?_
    exact res1 rfl rfl ⟨1, rfl, h⟩
  · replace h := h.2 hb1
    refine CW.seq ?_
    refine CW.region fun L hL => ?_
    refine LW.rd hL rfl (Wants.free rfl) rfl (Rd.move (v := .pointer f1) rfl) ?_
    obtain ⟨t1, t2, hc1, h⟩ := h
    refine LW.rd hL rfl (Wants.free rfl) rfl (Rd.ldN (cs := [.int .i64 t1, .int .i64 t2]) rfl (by kernel_rfl) (by kernel_rfl) (cellsS hc1)) ?_
    refine LW.call hL rfl (Wants.free rfl) rfl (Cl.fn (f := 74) rfl Try.func74 (by kernel_rfl) rfl) h (fun e w3 h_ => ?_)
    clear h
    obtain ⟨r3, rfl, h⟩ := h_
    refine ⟨_, rfl, ?_⟩
    refine LW.rd hL rfl (Wants.free rfl) rfl (Rd.un (v := .bool (!r3)) rfl (fun _ => by kernel_rfl)) ?_
    refine LW.rd hL rfl (Wants.free rfl) rfl (Rd.move (v := .bool (!r3)) rfl) ?_
    suffices K1 : L 8 [(0, .pointer f1), (2, .int .i64 n1), (3, .int .u32 set1), (5, .pointer (some (⟨b1, 0, none⟩ : Addr))), (8, .int .i64 0), (22, .bool (!r3 || decide (set1 ≥ 65536)))] w3 by
      rcases Bool.eq_false_or_eq_true (!r3) with hb3 | hb3
      · skip
        refine LW.skip hL rfl (Skips.on rfl rfl rfl rfl rfl hb3) rfl ?_
        refine LW.skip hL rfl (Skips.on rfl rfl rfl rfl rfl hb3) rfl ?_
        refine LW.rd hL rfl (Wants.free rfl) rfl (Rd.pickT rfl hb3 rfl) ?_
        exact LW.sub hL (by exact ⟨rfl, rfl, rfl, rfl, rfl, (by rw [hb3]; rfl), trivial⟩) K1
      · skip
        refine LW.rd hL rfl (Wants.on rfl rfl rfl rfl rfl hb3) rfl (Rd.move (v := .int .u32 set1) rfl) ?_
        refine LW.rd hL rfl (Wants.on rfl rfl rfl rfl rfl hb3) rfl (Rd.bin (v := .bool (decide (set1 ≥ 65536))) rfl rfl (fun w => by kernel_rfl)) ?_
        refine LW.rd hL rfl (Wants.free rfl) rfl (Rd.pickF rfl hb3 rfl) ?_
        exact LW.sub hL (by exact ⟨rfl, rfl, rfl, rfl, rfl, (by rw [hb3]; rfl), trivial⟩) K1
    refine LW.rd hL rfl (Wants.free rfl) rfl (Rd.assign (v := .bool (!r3 || decide (set1 ≥ 65536))) rfl) ?_
    refine LW.nil hL rfl ?_
    refine NW.then ?_
    refine CW.cond rfl (fun hb4 => ?_) (fun hb4 => ?_)
    · replace h := h.1 hb4
      refine CW.seq ?_
      refine CW.region fun L hL => ?_
      refine LW.rd hL rfl (Wants.free rfl) rfl (Rd.assign (v := .int .i64 2) rfl) ?_
      refine LW.nil hL rfl ?_
      refine NW.then ?_
      refine CW.ret ?_
      refine RW.block ?_
      refine RW.then ?_
      exact res1 rfl rfl ⟨2, rfl, h⟩
    · replace h := h.2 hb4
      refine CW.seq ?_
      refine CW.region fun L hL => ?_
      refine LW.rd hL rfl (Wants.free rfl) rfl (Rd.move (v := .int .i64 n1) rfl) ?_
      refine LW.rd hL rfl (Wants.free rfl) rfl (Rd.bin (v := .bool (decide (n1 < 0))) rfl rfl (fun w => by kernel_rfl)) ?_
      refine LW.rd hL rfl (Wants.free rfl) rfl (Rd.move (v := .bool (decide (n1 < 0))) rfl) ?_
      suffices K2 : L 6 [(0, .pointer f1), (2, .int .i64 n1), (3, .int .u32 set1), (5, .pointer (some (⟨b1, 0, none⟩ : Addr))), (8, .int .i64 0), (29, .bool (decide (n1 < 0) || decide (n1 > 65536)))] w3 by
        rcases Bool.eq_false_or_eq_true (decide (n1 < 0)) with hb6 | hb6
        · skip
          refine LW.skip hL rfl (Skips.on rfl rfl rfl rfl rfl hb6) rfl ?_
          refine LW.skip hL rfl (Skips.on rfl rfl rfl rfl rfl hb6) rfl ?_
          refine LW.rd hL rfl (Wants.free rfl) rfl (Rd.pickT rfl hb6 rfl) ?_
          exact LW.sub hL (by exact ⟨rfl, rfl, rfl, rfl, rfl, (by rw [hb6]; rfl), trivial⟩) K2
        · skip
          refine LW.rd hL rfl (Wants.on rfl rfl rfl rfl rfl hb6) rfl (Rd.move (v := .int .i64 n1) rfl) ?_
          refine LW.rd hL rfl (Wants.on rfl rfl rfl rfl rfl hb6) rfl (Rd.bin (v := .bool (decide (n1 > 65536))) rfl rfl (fun w => by kernel_rfl)) ?_
          refine LW.rd hL rfl (Wants.free rfl) rfl (Rd.pickF rfl hb6 rfl) ?_
          exact LW.sub hL (by exact ⟨rfl, rfl, rfl, rfl, rfl, (by rw [hb6]; rfl), trivial⟩) K2
      refine LW.rd hL rfl (Wants.free rfl) rfl (Rd.move (v := .bool (decide (n1 < 0) || decide (n1 > 65536))) rfl) ?_
      obtain ⟨J1, hJ1, h1_J1, h0_J1⟩ := h
      suffices K3 : ∀ (b2 : Bool) (w4 : World), J1 b2 w4 → L 23 [(0, .pointer f1), (2, .int .i64 n1), (3, .int .u32 set1), (5, .pointer (some (⟨b1, 0, none⟩ : Addr))), (8, .int .i64 0), (46, .bool b2)] w4 by
        rcases Bool.eq_false_or_eq_true (decide (n1 < 0) || decide (n1 > 65536)) with hb7 | hb7
        · have h := h0_J1 hb7
          refine LW.skip hL rfl (Skips.on rfl rfl rfl rfl rfl hb7) rfl ?_
          refine LW.skip hL rfl (Skips.on rfl rfl rfl rfl rfl hb7) rfl ?_
          refine LW.skip hL rfl (Skips.on rfl rfl rfl rfl rfl hb7) rfl ?_
          refine LW.skip hL rfl (Skips.un rfl rfl rfl rfl rfl) rfl ?_
          refine LW.skip hL rfl (Skips.un rfl rfl rfl rfl rfl) rfl ?_
          refine LW.skip hL rfl (Skips.un rfl rfl rfl rfl rfl) rfl ?_
          refine LW.skip hL rfl (Skips.un rfl rfl rfl rfl rfl) rfl ?_
          refine LW.skip hL rfl (Skips.un rfl rfl rfl rfl rfl) rfl ?_
          refine LW.skip hL rfl (Skips.un rfl rfl rfl rfl rfl) rfl ?_
          refine LW.skip hL rfl (Skips.un rfl rfl rfl rfl rfl) rfl ?_
          refine LW.skip hL rfl (Skips.un rfl rfl rfl rfl rfl) rfl ?_
          refine LW.skip hL rfl (Skips.un rfl rfl rfl rfl rfl) rfl ?_
          refine LW.skip hL rfl (Skips.un rfl rfl rfl rfl rfl) rfl ?_
          refine LW.skip hL rfl (Skips.un rfl rfl rfl rfl rfl) rfl ?_
          refine LW.skip hL rfl (Skips.on rfl rfl rfl rfl rfl hb7) rfl ?_
          refine LW.rd hL rfl (Wants.free rfl) rfl (Rd.pickT rfl hb7 rfl) ?_
          exact LW.sub hL (by exact ⟨rfl, rfl, rfl, rfl, rfl, rfl, trivial⟩) (K3 true w3 h)
        · have h := h1_J1 hb7
          refine LW.rd hL rfl (Wants.on rfl rfl rfl rfl rfl hb7) rfl (Rd.move (v := .int .i64 n1) rfl) ?_
          refine LW.rd hL rfl (Wants.on rfl rfl rfl rfl rfl hb7) rfl (Rd.bin (v := .bool (decide (n1 > 0))) rfl rfl (fun w => by kernel_rfl)) ?_
          refine LW.rd hL rfl (Wants.on rfl rfl rfl rfl rfl hb7) rfl (Rd.move (v := .bool (decide (n1 > 0))) rfl) ?_
          obtain ⟨J2, hJ2, h1_J2, h0_J2⟩ := h
          suffices K4 : ∀ (b3 : Bool) (w5 : World), J2 b3 w5 → L 22 [(0, .pointer f1), (2, .int .i64 n1), (3, .int .u32 set1), (5, .pointer (some (⟨b1, 0, none⟩ : Addr))), (8, .int .i64 0), (30, .bool (decide (n1 < 0) || decide (n1 > 65536))), (45, .bool b3)] w5 by
            rcases Bool.eq_false_or_eq_true (decide (n1 > 0)) with hb8 | hb8
            · have h := h1_J2 hb8
              refine LW.rd hL rfl (Wants.on rfl rfl rfl rfl rfl hb8) rfl (Rd.move (v := .pointer f1) rfl) ?_
              refine LW.rd hL rfl (Wants.on rfl rfl rfl rfl rfl hb8) rfl (Rd.fa (v := .pointer (some (⟨b1, 0, none⟩ : Addr))) rfl (fun _ => by kernel_rfl)) ?_
              obtain ⟨t3, hc2, h⟩ := h
              refine LW.rd hL rfl (Wants.on rfl rfl rfl rfl rfl hb8) rfl (Rd.ld (v := .int .i64 t3) rfl (by kernel_rfl) (eqs hc2)) ?_
              refine LW.rd hL rfl (Wants.on rfl rfl rfl rfl rfl hb8) rfl (Rd.fa (v := .pointer (some (⟨b1, 1, none⟩ : Addr))) rfl (fun _ => by kernel_rfl)) ?_
              obtain ⟨t4, hc3, h⟩ := h
              refine LW.rd hL rfl (Wants.on rfl rfl rfl rfl rfl hb8) rfl (Rd.ld (v := .int .i64 t4) rfl (by kernel_rfl) (eqs hc3)) ?_
              refine LW.rd hL rfl (Wants.on rfl rfl rfl rfl rfl hb8) rfl (Rd.move (v := .int .i64 n1) rfl) ?_
              refine LW.rd hL rfl (Wants.on rfl rfl rfl rfl rfl hb8) rfl (Rd.bin (v := .int .i64 (IntKind.wrap .i64 (t4 + n1))) rfl rfl (fun w => by kernel_rfl)) ?_
              refine LW.rd hL rfl (Wants.on rfl rfl rfl rfl rfl hb8) rfl (Rd.bin (v := .int .i64 (IntKind.wrap .i64 ((IntKind.wrap .i64 (t4 + n1)) - 1))) rfl rfl (fun w => by kernel_rfl)) ?_
              refine LW.rd hL rfl (Wants.on rfl rfl rfl rfl rfl hb8) rfl (Rd.build (v := .agg #[.int .i64 t3, .int .i64 (IntKind.wrap .i64 ((IntKind.wrap .i64 (t4 + n1)) - 1))]) rfl (fun _ => by kernel_rfl)) ?_
              refine LW.call hL rfl (Wants.on rfl rfl rfl rfl rfl hb8) rfl (Cl.fn (f := 74) rfl Try.func74 (by kernel_rfl) rfl) h (fun e w6 h_ => ?_)
              clear h
              obtain ⟨r4, rfl, h⟩ := h_
              refine ⟨_, rfl, ?_⟩
              refine LW.rd hL rfl (Wants.on rfl rfl rfl rfl rfl hb8) rfl (Rd.un (v := .bool (!r4)) rfl (fun _ => by kernel_rfl)) ?_
              refine LW.rd hL rfl (Wants.on rfl rfl rfl rfl rfl hb7) rfl (Rd.pickT rfl hb8 rfl) ?_
              exact LW.sub hL (by exact ⟨rfl, rfl, rfl, rfl, rfl, rfl, rfl, trivial⟩) (K4 (!r4) w6 h)
            · have h := h0_J2 hb8
              refine LW.skip hL rfl (Skips.on rfl rfl rfl rfl rfl hb8) rfl ?_
              refine LW.skip hL rfl (Skips.on rfl rfl rfl rfl rfl hb8) rfl ?_
              refine LW.skip hL rfl (Skips.on rfl rfl rfl rfl rfl hb8) rfl ?_
              refine LW.skip hL rfl (Skips.on rfl rfl rfl rfl rfl hb8) rfl ?_
              refine LW.skip hL rfl (Skips.on rfl rfl rfl rfl rfl hb8) rfl ?_
              refine LW.skip hL rfl (Skips.on rfl rfl rfl rfl rfl hb8) rfl ?_
              refine LW.skip hL rfl (Skips.on rfl rfl rfl rfl rfl hb8) rfl ?_
              refine LW.skip hL rfl (Skips.on rfl rfl rfl rfl rfl hb8) rfl ?_
              refine LW.skip hL rfl (Skips.on rfl rfl rfl rfl rfl hb8) rfl ?_
              refine LW.skip hL rfl (Skips.on rfl rfl rfl rfl rfl hb8) rfl ?_
              refine LW.skip hL rfl (Skips.on rfl rfl rfl rfl rfl hb8) rfl ?_
              refine LW.rd hL rfl (Wants.on rfl rfl rfl rfl rfl hb7) rfl (Rd.pickF rfl hb8 rfl) ?_
              exact LW.sub hL (by exact ⟨rfl, rfl, rfl, rfl, rfl, rfl, rfl, trivial⟩) (K4 false w3 h)
          intro b3 w5 h_
          have h := hJ2 b3 w5 h_; clear h_
          refine LW.rd hL rfl (Wants.free rfl) rfl (Rd.pickF rfl hb7 rfl) ?_
          exact LW.sub hL (by exact ⟨rfl, rfl, rfl, rfl, rfl, rfl, trivial⟩) (K3 b3 w5 h)
      intro b2 w4 h_
      have h := hJ1 b2 w4 h_; clear h_
      refine LW.rd hL rfl (Wants.free rfl) rfl (Rd.assign (v := .bool b2) rfl) ?_
      refine LW.nil hL rfl ?_
      refine NW.then ?_
      refine CW.cond rfl (fun hb9 => ?_) (fun hb9 => ?_)
      · replace h := h.1 hb9
        refine CW.seq ?_
        refine CW.region fun L hL => ?_
        refine LW.rd hL rfl (Wants.free rfl) rfl (Rd.assign (v := .int .i64 4) rfl) ?_
        refine LW.nil hL rfl ?_
        refine NW.then ?_
        refine CW.ret ?_
        refine RW.block ?_
        refine RW.then ?_
        exact res1 rfl rfl ⟨4, rfl, h⟩
      · replace h := h.2 hb9
        refine CW.skip ?_
        refine NW.block ?_
        refine NW.then ?_
        refine CW.seq ?_
        refine CW.seq ?_
        refine CW.region fun L hL => ?_
        refine LW.rd hL rfl (Wants.free rfl) rfl (Rd.move (v := .pointer f1) rfl) ?_
        refine LW.rd hL rfl (Wants.free rfl) rfl (Rd.move (v := .int .u32 set1) rfl) ?_
        refine LW.call hL rfl (Wants.free rfl) rfl (Cl.fn (f := 77) rfl Try.func77 (by kernel_rfl) rfl) h (fun e w7 h_ => ?_)
        clear h
        obtain ⟨r5, rfl, h⟩ := h_
        refine ⟨_, rfl, ?_⟩
        refine LW.rd hL rfl (Wants.free rfl) rfl (Rd.assign (v := .int .i64 r5) rfl) ?_
        refine LW.nil hL rfl ?_
        refine NW.then ?_
        refine CW.seq ?_
        refine CW.region fun L hL => ?_
        refine LW.rd hL rfl (Wants.free rfl) rfl (Rd.move (v := .int .i64 r5) rfl) ?_
        refine LW.rd hL rfl (Wants.free rfl) rfl (Rd.bin (v := .bool (!(r5 == 0))) rfl rfl (fun w => by kernel_rfl)) ?_
        refine LW.nil hL rfl ?_
        refine NW.then ?_
        refine CW.cond rfl (fun hb10 => ?_) (fun hb10 => ?_)
        · replace h := h.1 hb10
          refine CW.seq ?_
          refine CW.region fun L hL => ?_
          refine LW.rd hL rfl (Wants.free rfl) rfl (Rd.move (v := .int .i64 r5) rfl) ?_
          refine LW.rd hL rfl (Wants.free rfl) rfl (Rd.assign (v := .int .i64 r5) rfl) ?_
          refine LW.nil hL rfl ?_
          refine NW.then ?_
          refine CW.ret ?_
          refine RW.then ?_
          exact res1 rfl rfl ⟨r5, rfl, h⟩
        · replace h := h.2 hb10
          refine CW.skip ?_
          refine NW.then ?_
          refine CW.seq ?_
          refine CW.seq ?_
          refine CW.region fun L hL => ?_
          refine LW.rd hL rfl (Wants.free rfl) rfl (Rd.move (v := .int .i64 n1) rfl) ?_
          refine LW.rd hL rfl (Wants.free rfl) rfl (Rd.move (v := .int .i64 0) rfl) ?_
          refine LW.nil hL rfl ?_
          refine NW.then ?_
          refine CW.block ?_
          obtain ⟨I1, m1, hI1, h⟩ := h
          refine CW.loop (S := Int) (fun s1 => [(0, .pointer f1), (3, .int .u32 set1), (5, .pointer (some (⟨b1, 0, none⟩ : Addr))), (8, .int .i64 0), (53, .int .i64 n1), (54, .int .i64 s1)]) I1 m1 0 (by exact ⟨rfl, rfl, rfl, rfl, rfl, rfl, trivial⟩) hI1 (fun s1 w8 hI1 => ?_)
          replace h := h s1 w8 hI1
          refine CW.seq ?_
          refine CW.region fun L hL => ?_
          refine LW.rd hL rfl (Wants.free rfl) rfl (Rd.bin (v := .bool (decide (s1 < n1))) rfl rfl (fun w => by kernel_rfl)) ?_
          refine LW.nil hL rfl ?_
          refine NW.then ?_
          refine CW.seq ?_
          refine CW.cond rfl (fun hb11 => ?_) (fun hb11 => ?_)
          · replace h := h.1 hb11
            refine CW.skip ?_
            refine NW.then ?_
            refine CW.seq ?_
            refine CW.block ?_
            refine CW.seq ?_
            refine CW.region fun L hL => ?_
            refine LW.rd hL rfl (Wants.free rfl) rfl (Rd.move (v := .int .i64 s1) rfl) ?_
            refine LW.rd hL rfl (Wants.free rfl) rfl (Rd.assign (v := .int .i64 s1) rfl) ?_
            refine LW.nil hL rfl ?_
            refine NW.then ?_
            refine CW.region fun L hL => ?_
            refine LW.rd hL rfl (Wants.free rfl) rfl (Rd.move (v := .pointer f1) rfl) ?_
            refine LW.rd hL rfl (Wants.free rfl) rfl (Rd.fa (v := .pointer (some (⟨b1, 0, none⟩ : Addr))) rfl (fun _ => by kernel_rfl)) ?_
            obtain ⟨t5, hc4, h⟩ := h
            refine LW.rd hL rfl (Wants.free rfl) rfl (Rd.ld (v := .int .i64 t5) rfl (by kernel_rfl) (eqs hc4)) ?_
            refine LW.rd hL rfl (Wants.free rfl) rfl (Rd.fa (v := .pointer (some (⟨b1, 1, none⟩ : Addr))) rfl (fun _ => by kernel_rfl)) ?_
            obtain ⟨t6, hc5, h⟩ := h
            refine LW.rd hL rfl (Wants.free rfl) rfl (Rd.ld (v := .int .i64 t6) rfl (by kernel_rfl) (eqs hc5)) ?_
            refine LW.rd hL rfl (Wants.free rfl) rfl (Rd.move (v := .int .i64 s1) rfl) ?_
            refine LW.rd hL rfl (Wants.free rfl) rfl (Rd.bin (v := .int .i64 (IntKind.wrap .i64 (t6 + s1))) rfl rfl (fun w => by kernel_rfl)) ?_
            refine LW.rd hL rfl (Wants.free rfl) rfl (Rd.build (v := .agg #[.int .i64 t5, .int .i64 (IntKind.wrap .i64 (t6 + s1))]) rfl (fun _ => by kernel_rfl)) ?_
            refine LW.rd hL rfl (Wants.free rfl) rfl (Rd.move (v := .int .u32 set1) rfl) ?_
            refine LW.call hL rfl (Wants.free rfl) rfl (Cl.fn (f := 78) rfl Try.func78 (by kernel_rfl) rfl) h (fun e w9 h_ => ?_)
            clear h
            obtain ⟨rfl, h⟩ := h_
            refine ⟨_, rfl, ?_⟩
            refine LW.nil hL rfl ?_
            refine NW.block ?_
            refine NW.then ?_
            refine CW.region fun L hL => ?_
            refine LW.rd hL rfl (Wants.free rfl) rfl (Rd.bin (v := .int .i64 (IntKind.wrap .i64 (s1 + 1))) rfl rfl (fun w => by kernel_rfl)) ?_
            refine LW.rd hL rfl (Wants.free rfl) rfl (Rd.move (v := .int .i64 (IntKind.wrap .i64 (s1 + 1))) rfl) ?_
            refine LW.nil hL rfl ?_
            exact NW.loop (S := Int) (Ek := fun s1 => [(0, .pointer f1), (3, .int .u32 set1), (5, .pointer (some (⟨b1, 0, none⟩ : Addr))), (8, .int .i64 0), (53, .int .i64 n1), (54, .int .i64 s1)]) (IntKind.wrap .i64 (s1 + 1)) (by exact ⟨rfl, rfl, rfl, rfl, rfl, rfl, trivial⟩) h
          · replace h := h.2 hb11
            refine CW.exit ?_
            refine XW.then ?_
            refine XW.then ?_
            refine XW.hit ?_
            refine NW.then ?_
            refine CW.seq ?_
            refine CW.region fun L hL => ?_
            refine LW.rd hL rfl (Wants.free rfl) rfl (Rd.assign (v := .int .i64 0) rfl) ?_
            refine LW.nil hL rfl ?_
            refine NW.then ?_
            refine CW.ret ?_
            exact res1 rfl rfl ⟨0, rfl, h⟩

end Go.Proofs.Ytkfncibmfcdokaa
end

/- XFlow2 -/
section
/- Flows: get, put, keep, Mark, New. -/
set_option linter.unusedVariables false
set_option linter.unusedSimpArgs false
namespace Go.Proofs.Ytkfncibmfcdokaa
open Go Go.RowKit Go.X

def i64s (n : Int) : Prop := -9223372036854775808 ≤ n ∧ n ≤ 9223372036854775807

theorem nd_swap {A B B' C : List Nat} {n : Nat} (h : (A ++ (B ++ C)).Nodup) (hB' : B'.Nodup) (hs : ∀ i ∈ B', i ∈ B ∨ n ≤ i) (hA : ∀ i ∈ A, i < n) (hC : ∀ i ∈ C, i < n) : (A ++ (B' ++ C)).Nodup := by
  rw [List.nodup_append] at h ⊢
  obtain ⟨h1, h2, h3⟩ := h
  rw [List.nodup_append] at h2
  obtain ⟨h4, h5, h6⟩ := h2
  refine ⟨h1, ?_, ?_⟩
  · rw [List.nodup_append]
    refine ⟨hB', h5, fun a ha c hc e => ?_⟩
    rcases hs a ha with h | h
    · exact h6 a h c hc e
    · have := hC c hc; omega
  · intro a ha c hc e
    rcases List.mem_append.1 hc with hc | hc
    · rcases hs c hc with h | h
      · exact h3 a ha c (List.mem_append.2 (.inl h)) e
      · have := hA a ha; omega
    · exact h3 a ha c (List.mem_append.2 (.inr hc)) e

theorem flow_get {w : World} {b : Nat} {F : Fl} {fp : List Nat} (h : FlowAt w b F fp) {p1 p2 : Int} (hp : i64s p2) :
    Calls Try.prog 75 #[.pointer (some ⟨b, 0, none⟩), .agg #[.int .i64 p1, .int .i64 p2]] w fun e w' => ∃ r : Int, e = .returned (.int .u32 r) ∧ (r = F.g (p1, p2) ∧ Chg [] w w') := by
  obtain ⟨T, m, d, r, l, fpT, fpm, fpd, gm, gd, h1, h2, h3, h4, h5, h6, h7, h8, h9, rfl⟩ := h.there
  refine ok_flow_Flow_get _ _ _ _ _ ?_
  unfold V_flow_Flow_get
  refine v_alloc fun b1 w1 e1 hb1 c1 => ?_
  refine ⟨p1, by rw [cell_of hb1]; rfl, fun hk => ?_, fun hk => ⟨fun hk2 => ?_, fun hk2 => ?_⟩⟩
  · have hk' : p1 = 10 := by simpa using hk
    subst hk'
    refine v_drew fun w2 c2 => ?_
    have c02 := c1.trans0 c2
    refine ⟨_, rfl, _, by rw [add_at, cell_of (c02.obj (by simp) h1)]; rfl, p2, by rw [cell_of (c2.obj (by simp) hb1)]; rfl, ?_⟩
    refine (shadow_getp (h3.chg c02 (by simp)) hp).mono ?_
    rintro _ w3 ⟨r1, r2, rfl, c3, rfl, _⟩
    exact ⟨_, _, rfl, (h6 p2).symm, c02.trans0 c3⟩
  · have hk' : p1 = 12 := by simpa using hk2
    subst hk'
    refine v_drew fun w2 c2 => ?_
    have c02 := c1.trans0 c2
    refine ⟨_, rfl, _, by rw [add_at, cell_of (c02.obj (by simp) h1)]; rfl, p2, by rw [cell_of (c2.obj (by simp) hb1)]; rfl, ?_⟩
    refine (shadow_getp (h4.chg c02 (by simp)) hp).mono ?_
    rintro _ w3 ⟨r1, r2, rfl, c3, rfl, _⟩
    exact ⟨_, _, rfl, (h7 p2).symm, c02.trans0 c3⟩
  · have hk' : p1 ≠ 10 := by simpa using hk
    have hk2' : p1 ≠ 12 := by simpa using hk2
    refine v_drew fun w2 c2 => ?_
    have c02 := c1.trans0 c2
    refine ⟨_, rfl, _, by rw [add_at, cell_of (c02.obj (by simp) h1)]; rfl, p1, p2, cellsAt_of (c2.obj (by simp) hb1), ?_⟩
    have hl := (h5.chg c02 (by simp)).lookup (P := Try.prog) (T := 143) u143 keyPlace zero22 (p1, p2) false
    refine ⟨F.g (p1, p2), ?_, rfl, c02⟩
    rw [h8 _ hk' hk2']
    rw [show (Value.agg #[.int .i64 p1, .int .i64 p2]) = encP (p1, p2) from rfl, hl]
    cases lookK (p1, p2) l <;> rfl

def putP (g : Int × Int → Int) (p : Int × Int) (set : Int) : Int × Int → Int := fun q => if q = p then set else g q

theorem flow_put {w : World} {b : Nat} {F : Fl} {fp : List Nat} (h : FlowAt w b F fp) {p1 p2 set : Int} (hm : mayP F.fr F.se (p1, p2)) (hs0 : 0 ≤ set) (hs1 : set < 65536) :
    Calls Try.prog 78 #[.pointer (some ⟨b, 0, none⟩), .agg #[.int .i64 p1, .int .i64 p2], .int .u32 set] w fun e w' => e = .returned (.tuple #[]) ∧
      (∃ fp', FlowAt w' b { F with g := putP F.g (p1, p2) set } fp' ∧ Chg fp w w' ∧ ∀ i ∈ fp', i ∈ fp ∨ w.heap.size ≤ i) := by
  have hlt := h.lt
  have hnd := h.nodup
  have hw := h.wide
  obtain ⟨T, m, d, r, l, fpT, fpm, fpd, gm, gd, h1, h2, h3, h4, h5, h6, h7, h8, h9, rfl⟩ := h.there
  have hm' := hm
  unfold mayP boundP at hm'
  simp only [] at hm'
  have hnd0 := hnd
  simp only [List.nodup_cons, List.mem_cons, List.mem_append, not_or, List.nodup_append] at hnd
  obtain ⟨⟨nbr, nbT, nbm, nbd⟩, ⟨nrT, nrm, nrd⟩, ndT, ⟨ndm, ndd, nmd⟩, nTmd⟩ := hnd
  have hcase : ∀ {w1 : World}, Chg [] w w1 → w1.heap[b]? = some (.cells #[.int .i64 F.fr, .int .i64 F.se, .pointer (some ⟨T, 0, none⟩), .pointer (some ⟨m, 0, none⟩), .pointer (some ⟨d, 0, none⟩), .map (some r)] 145 (0, 0)) := fun c => c.obj (by simp) h1
  refine ok_flow_Flow_put _ _ _ _ _ _ ?_
  unfold V_flow_Flow_put
  refine v_alloc fun b1 w1 e1 hb1 c1 => ?_
  refine ⟨p1, by rw [cell_of hb1]; rfl, fun hk => ?_, fun hk => ⟨p1, by rw [cell_of hb1]; rfl, fun hk2 => ?_, fun hk2 => ?_⟩⟩
  · have hk' : p1 = 10 := by simpa using hk
    subst hk'
    simp at hm'
    refine v_drew fun w2 c2 => ?_
    have c02 := c1.trans0 c2
    refine ⟨_, rfl, _, by rw [add_at, cell_of (hcase c02)]; rfl, p2, by rw [cell_of (c2.obj (by simp) hb1)]; rfl, ?_⟩
    refine (shadow_setp (h3.chg c02 (by simp)) ⟨by omega, by omega⟩ hs0).mono ?_
    rintro _ w3 ⟨r1, rfl, hr⟩
    rw [if_neg (by omega), if_pos (by omega)] at hr
    obtain ⟨rfl, fpm', hS, c3, hf⟩ := hr
    have c03 : Chg fpm w w3 := c02.nil.trans c3 (fun _ h _ => h)
    have hf' : ∀ i ∈ fpm', i ∈ fpm ∨ w.heap.size ≤ i := fun i hi => (hf i hi).imp id (fun h => Nat.le_trans c02.size h)
    refine ⟨_, rfl, b :: r :: (fpT ++ (fpm' ++ fpd)), ⟨⟨T, m, d, r, l, fpT, fpm', fpd, putG gm p2 set, gd, c03.obj nbm h1, h2.chg c03 (fun i hi hm => nTmd i hi i (.inl hm) rfl), hS, h4.chg c03 (fun i hi hm => nmd i hm i hi rfl), h5.chg c03 nrm, ?_, ?_, ?_, h9, rfl⟩, ?_⟩, ?_, ?_⟩
    · intro n; simp only [putP, putG]
      by_cases e : n = p2 <;> simp [e, h6]
    · intro n; simp [putP, h7]
    · intro p hp1 hp2; simp only [putP]
      rw [if_neg (by intro e; rw [e] at hp1; exact hp1 rfl)]; exact h8 p hp1 hp2
    · have := nd_swap (A := b :: r :: fpT) (B := fpm) (B' := fpm') (C := fpd) (n := w.heap.size) (by simpa using hnd0) hS.nodup hf' (fun i hi => hlt i (by simp at hi ⊢; rcases hi with h | h | h <;> simp [h])) (fun i hi => hlt i (by simp [hi]))
      simpa using this
    · exact c03.mono (fun i hi _ => by simp [hi])
    · intro i hi
      simp only [List.mem_cons, List.mem_append] at hi ⊢
      rcases hi with h | h | h | h | h
      · simp [h]
      · simp [h]
      · simp [h]
      · rcases hf' i h with h | h <;> simp [h]
      · simp [h]
  · have hk' : p1 = 12 := by simpa using hk2
    subst hk'
    simp at hm'
    refine v_drew fun w2 c2 => ?_
    have c02 := c1.trans0 c2
    refine ⟨_, rfl, _, by rw [add_at, cell_of (hcase c02)]; rfl, p2, by rw [cell_of (c2.obj (by simp) hb1)]; rfl, ?_⟩
    refine (shadow_setp (h4.chg c02 (by simp)) ⟨by omega, by omega⟩ hs0).mono ?_
    rintro _ w3 ⟨r1, rfl, hr⟩
    rw [if_neg (by omega), if_pos (by omega)] at hr
    obtain ⟨rfl, fpd', hS, c3, hf⟩ := hr
    have c03 : Chg fpd w w3 := c02.nil.trans c3 (fun _ h _ => h)
    have hf' : ∀ i ∈ fpd', i ∈ fpd ∨ w.heap.size ≤ i := fun i hi => (hf i hi).imp id (fun h => Nat.le_trans c02.size h)
    refine ⟨_, rfl, b :: r :: (fpT ++ (fpm ++ fpd')), ⟨⟨T, m, d, r, l, fpT, fpm, fpd', gm, putG gd p2 set, c03.obj nbd h1, h2.chg c03 (fun i hi hm => nTmd i hi i (.inr hm) rfl), h3.chg c03 (fun i hi hm => nmd i hi i hm rfl), hS, h5.chg c03 nrd, ?_, ?_, ?_, h9, rfl⟩, ?_⟩, ?_, ?_⟩
    · intro n; simp [putP, h6]
    · intro n; simp only [putP, putG]
      by_cases e : n = p2 <;> simp [e, h7]
    · intro p hp1 hp2; simp only [putP]
      rw [if_neg (by intro e; rw [e] at hp2; exact hp2 rfl)]; exact h8 p hp1 hp2
    · have := nd_swap (A := b :: r :: (fpT ++ fpm)) (B := fpd) (B' := fpd') (C := []) (n := w.heap.size) (by simpa using hnd0) hS.nodup hf' (fun i hi => hlt i (by simp at hi ⊢; rcases hi with h | h | h | h <;> simp [h])) (by simp)
      simpa using this
    · exact c03.mono (fun i hi _ => by simp [hi])
    · intro i hi
      simp only [List.mem_cons, List.mem_append] at hi ⊢
      rcases hi with h | h | h | h | h
      · simp [h]
      · simp [h]
      · simp [h]
      · simp [h]
      · rcases hf' i h with h | h <;> simp [h]
  · have hk' : p1 ≠ 10 := by simpa using hk
    have hk2' : p1 ≠ 12 := by simpa using hk2
    refine ⟨fun hz => ?_, fun hz => ?_⟩
    · have hz' : set = 0 := by simpa using hz
      subst hz'
      refine v_drew fun w2 c2 => ?_
      have c02 := c1.trans0 c2
      obtain ⟨w3, hd, c3, _, hm3⟩ := (h5.chg c02 (by simp)).delete (P := Try.prog) (T := 143) u143 keyPlace (p1, p2) (ty := 0)
      have c03 : Chg [r] w w3 := c02.nil.trans c3 (fun _ h _ => h)
      refine ⟨_, rfl, _, by rw [add_at, cell_of (hcase c02)]; rfl, p1, p2, cellsAt_of (c2.obj (by simp) hb1), w3, hd, ?_⟩
      refine ⟨b :: r :: (fpT ++ (fpm ++ fpd)), ⟨⟨T, m, d, r, _, fpT, fpm, fpd, gm, gd, c03.obj (by simpa using nbr) h1, h2.chg c03 (fun i hi hm => nrT (by simp at hm; exact hm ▸ hi)), h3.chg c03 (fun i hi hm => nrm (by simp at hm; exact hm ▸ hi)), h4.chg c03 (fun i hi hm => nrd (by simp at hm; exact hm ▸ hi)), hm3, ?_, ?_, ?_, ?_, rfl⟩, hnd0⟩, ?_, fun i hi => .inl hi⟩
      · intro n; simp only [putP]; rw [if_neg (by intro e; exact hk' (congrArg Prod.fst e).symm)]; exact h6 n
      · intro n; simp only [putP]; rw [if_neg (by intro e; exact hk2' (congrArg Prod.fst e).symm)]; exact h7 n
      · intro p hp1 hp2; simp only [putP]
        simp only [lookK_del]
        by_cases e : p = (p1, p2)
        · simp [e]
        · simp [e, h8 p hp1 hp2]
      · intro x hx; exact h9 x (List.mem_filter.1 hx).1
      · exact c03.mono (by simp)
    · have hz' : set ≠ 0 := by simpa using hz
      refine v_drew fun w2 c2 => ?_
      have c02 := c1.trans0 c2
      obtain ⟨w3, hd, c3, _, hm3⟩ := (h5.chg c02 (by simp)).update (P := Try.prog) (T := 143) u143 keyPlace (p1, p2) set
      have c03 : Chg [r] w w3 := c02.nil.trans c3 (fun _ h _ => h)
      refine ⟨_, rfl, _, by rw [add_at, cell_of (hcase c02)]; rfl, p1, p2, cellsAt_of (c2.obj (by simp) hb1), w3, hd, ?_⟩
      refine ⟨b :: r :: (fpT ++ (fpm ++ fpd)), ⟨⟨T, m, d, r, _, fpT, fpm, fpd, gm, gd, c03.obj (by simpa using nbr) h1, h2.chg c03 (fun i hi hm => nrT (by simp at hm; exact hm ▸ hi)), h3.chg c03 (fun i hi hm => nrm (by simp at hm; exact hm ▸ hi)), h4.chg c03 (fun i hi hm => nrd (by simp at hm; exact hm ▸ hi)), hm3, ?_, ?_, ?_, ?_, rfl⟩, hnd0⟩, ?_, fun i hi => .inl hi⟩
      · intro n; simp only [putP]; rw [if_neg (by intro e; exact hk' (congrArg Prod.fst e).symm)]; exact h6 n
      · intro n; simp only [putP]; rw [if_neg (by intro e; exact hk2' (congrArg Prod.fst e).symm)]; exact h7 n
      · intro p hp1 hp2; simp only [putP]
        simp only [lookK_upd]
        by_cases e : p = (p1, p2)
        · simp [e]
        · simp [e, h8 p hp1 hp2]
      · intro x hx
        unfold upd at hx
        split at hx
        · obtain ⟨y, hy, rfl⟩ := List.mem_map.1 hx
          by_cases e : y.1 = (p1, p2)
          · rw [if_pos e]; exact ⟨hk', hk2', hm, by show 0 < set; omega, hs1⟩
          · rw [if_neg e]; exact h9 y hy
        · rcases List.mem_append.1 hx with hx | hx
          · exact h9 x hx
          · simp at hx; subst hx; exact ⟨hk', hk2', hm, by show 0 < set; omega, hs1⟩
      · exact c03.mono (by simp)

theorem flow_keep {w : World} {b : Nat} {F : Fl} {fp : List Nat} (h : FlowAt w b F fp) {set : Int} (hs0 : 0 ≤ set) :
    Calls Try.prog 77 #[.pointer (some ⟨b, 0, none⟩), .int .u32 set] w fun e w' => ∃ r : Int, e = .returned (.int .i64 r) ∧
      (r = keepE F.most F.sets set ∧ ∃ fp', FlowAt w' b { F with sets := keepS F.most F.sets set } fp' ∧ Chg fp w w' ∧ ∀ i ∈ fp', i ∈ fp ∨ w.heap.size ≤ i) := by
  have hlt := h.lt
  have hnd := h.nodup
  obtain ⟨T, m, d, r, l, fpT, fpm, fpd, gm, gd, h1, h2, h3, h4, h5, h6, h7, h8, h9, rfl⟩ := h.there
  have hnd0 := hnd
  simp only [List.nodup_cons, List.mem_cons, List.mem_append, not_or, List.nodup_append] at hnd
  obtain ⟨⟨nbr, nbT, nbm, nbd⟩, ⟨nrT, nrm, nrd⟩, ndT, ⟨ndm, ndd, nmd⟩, nTmd⟩ := hnd
  refine ok_flow_Flow_keep _ _ _ _ ?_
  unfold V_flow_Flow_keep
  refine ⟨_, rfl, _, by rw [add_at, cell_of h1]; rfl, ?_⟩
  refine (table_keep h2 hs0).mono ?_
  rintro _ w3 ⟨r1, r2, rfl, rfl, fpT', hT, c3, hf⟩
  refine ⟨_, _, rfl, rfl, b :: r :: (fpT' ++ (fpm ++ fpd)), ⟨⟨T, m, d, r, l, fpT', fpm, fpd, gm, gd, c3.obj nbT h1, hT, h3.chg c3 (fun i hi hm => nTmd i hm i (.inl hi) rfl), h4.chg c3 (fun i hi hm => nTmd i hm i (.inr hi) rfl), h5.chg c3 nrT, h6, h7, h8, h9, rfl⟩, ?_⟩, ?_, ?_⟩
  · have := nd_swap (A := [b, r]) (B := fpT) (B' := fpT') (C := fpm ++ fpd) (n := w.heap.size) (by simpa using hnd0) hT.nodup hf (fun i hi => hlt i (by simp at hi ⊢; rcases hi with h | h <;> simp [h])) (fun i hi => hlt i (by simp at hi ⊢; rcases hi with h | h <;> simp [h]))
    simpa using this
  · exact c3.mono (fun i hi _ => by simp [hi])
  · intro i hi
    simp only [List.mem_cons, List.mem_append] at hi ⊢
    rcases hi with h | h | h | h | h
    · simp [h]
    · simp [h]
    · rcases hf i h with h | h <;> simp [h]
    · simp [h]
    · simp [h]

def flowNew (fr se most : Int) : Fl := ⟨fr, se, most, [0], fun _ => 0⟩
def rightP (fr se most : Int) : Prop := 1 ≤ fr ∧ fr ≤ 32 ∧ 1 ≤ se ∧ se ≤ 32 ∧ 1 ≤ most ∧ most ≤ 65536
instance (fr se most : Int) : Decidable (rightP fr se most) := by unfold rightP; exact inferInstance

theorem flow_new (w : World) (fr se most : Int) :
    Calls Try.prog 25 #[.agg #[.int .i64 fr, .int .i64 se], .int .i64 most] w fun e w' => ∃ (r1 : Option Addr) (r2 : Int), e = .returned (.tuple #[.pointer r1, .int .i64 r2]) ∧
      (Chg [] w w' ∧ if rightP fr se most then r2 = 0 ∧ ∃ b fp, r1 = some ⟨b, 0, none⟩ ∧ FlowAt w' b (flowNew fr se most) fp ∧ ∀ i ∈ fp, w.heap.size ≤ i else r1 = none ∧ r2 = 2) := by
  refine ok_flow_New _ _ _ _ _ ?_
  unfold V_flow_New
  refine v_alloc fun b1 w1 e1 hb1 c1 => ?_
  refine (table_new w1 most).mono ?_
  rintro _ w2 ⟨r3, r4, rfl, c2, ht⟩
  have hb2 := c2.obj (by simp) hb1
  refine ⟨_, _, rfl, fr, by rw [cell_of hb2]; rfl, ?_⟩
  refine (shadow_new w2 fr).mono ?_
  rintro _ w3 ⟨r5, r6, rfl, c3, hm⟩
  have hb3 := c3.obj (by simp) hb2
  refine ⟨_, _, rfl, se, by rw [cell_of hb3]; rfl, ?_⟩
  refine (shadow_new w3 se).mono ?_
  rintro _ w4 ⟨r7, r8, rfl, c4, hd⟩
  have hb4 := c4.obj (by simp) hb3
  have c04 : Chg [] w w4 := ((c1.trans0 c2).trans0 c3).trans0 c4
  refine ⟨_, _, rfl, fun hbad => ?_, fun hgood => ?_⟩
  · refine ⟨c04, ?_⟩
    rw [if_neg]
    · exact ⟨rfl, rfl⟩
    · rintro ⟨k1, k2, k3, k4, k5, k6⟩
      rw [if_pos ⟨k5, k6⟩] at ht
      rw [if_pos ⟨k1, k2⟩] at hm
      rw [if_pos ⟨k3, k4⟩] at hd
      simp [ht.1, hm.1, hd.1] at hbad
  simp at hgood
  by_cases k1 : 1 ≤ most ∧ most ≤ 65536
  case neg => rw [if_neg k1] at ht; omega
  by_cases k2 : 1 ≤ fr ∧ fr ≤ 32
  case neg => rw [if_neg k2] at hm; omega
  by_cases k3 : 1 ≤ se ∧ se ≤ 32
  case neg => rw [if_neg k3] at hd; omega
  rw [if_pos k1] at ht
  rw [if_pos k2] at hm
  rw [if_pos k3] at hd
  obtain ⟨rfl, T, fpT, rfl, hT, fT⟩ := ht
  obtain ⟨rfl, m, fpm, rfl, hM, fM⟩ := hm
  obtain ⟨rfl, d, fpd, rfl, hD, fD⟩ := hd
  refine ⟨fr, se, cellsAt_of hb4, ?_⟩
  refine v_alloc fun b2 w5 e5 h5 c5 => ?_
  refine v_alloc fun b3 w6 e6 h6 c6 => ?_
  have c06 := (c04.trans0 c5).trans0 c6
  have l5 : b2 < w5.heap.size := lt_of_heap h5
  have s1 := c1.size
  have s2 := c2.size
  have s3 := c3.size
  have s4 := c4.size
  have s5 := c5.size
  have lT := hT.lt
  have lM := hM.lt
  have lD := hD.lt
  refine ⟨c06, ?_⟩
  rw [if_pos ⟨k2.1, k2.2, k3.1, k3.2, k1.1, k1.2⟩]
  have hmap : MapIs w5 b2 encP (fun n : Int => .int .u32 n) [] := ⟨#[], 0, h5, rfl, by simp, by simp, by simp⟩
  have c26 := ((c3.trans0 c4).trans0 c5).trans0 c6
  have c36 := (c4.trans0 c5).trans0 c6
  have c46 := c5.trans0 c6
  refine ⟨rfl, b3, b3 :: b2 :: (fpT ++ (fpm ++ fpd)), rfl, ⟨⟨T, m, d, b2, [], fpT, fpm, fpd, fun _ => 0, fun _ => 0, h6, hT.chg c26 (by simp), hM.chg c36 (by simp), hD.chg c46 (by simp), hmap.chg c6 (by simp), fun _ => rfl, fun _ => rfl, fun _ _ _ => rfl, by simp, rfl⟩, ?_⟩, ?_⟩
  · simp only [List.nodup_cons, List.mem_cons, List.mem_append, not_or, List.nodup_append]
    refine ⟨⟨by omega, fun h => ?_, fun h => ?_, fun h => ?_⟩, ⟨fun h => ?_, fun h => ?_, fun h => ?_⟩, hT.nodup, ⟨hM.nodup, hD.nodup, fun a ha c hc e => ?_⟩, fun a ha c hc e => ?_⟩
    · have := lT _ h; omega
    · have := lM _ h; omega
    · have := lD _ h; omega
    · have := lT _ h; omega
    · have := lM _ h; omega
    · have := lD _ h; omega
    · have := lM _ ha; have := fD _ hc; omega
    · have := lT _ ha
      rcases hc with hc | hc
      · have := fM _ hc; omega
      · have := fD _ hc; omega
  · intro i hi
    simp only [List.mem_cons, List.mem_append] at hi
    rcases hi with h | h | h | h | h
    · omega
    · omega
    · have := fT i h; omega
    · have := fM i h; omega
    · have := fD i h; omega
end Go.Proofs.Ytkfncibmfcdokaa
end
