import Derived.Test.YtkfncibmfcdokaaProg
import Derived.Test.YtkfncibmfcdokaaXEq
set_option linter.unusedVariables false
set_option linter.unusedSimpArgs false
namespace Go.Proofs.Ytkfncibmfcdokaa
open Go.X

/- (pomander/pomanderref02.Table).Keep -/
def V_pomanderref02_Table_Keep (t1 : Int) (t2 : Option Addr) (t2n : Nat) (t2c : Nat) (set1 : Int) (w : World) (R : Int → (Option Addr) → Nat → Nat → Int → Int → World → Prop) : Prop :=
  ∀ b1 : Nat, b1 = World.size w → ∀ w1 : World, w1 = World.alloc w (.cells #[.int .i64 t1, .slice t2 t2n t2c] 33) → (∀ b2 : Nat, b2 = World.size w1 → ∀ w2 : World, w2 = World.alloc w1 (.cells #[.int .i64 0, .slice none 0 0] 33) → (((decide (set1 ≥ 65536)) = true → ∃ (t3 : Int) (t4 : Option Addr) (t4n : Nat) (t4c : Nat), CellsAt w2 (⟨b1, 0, none⟩ : Addr) 0 [.int .i64 t3, .slice t4 t4n t4c] ∧ (Has w2 (⟨b2, 0, none⟩ : Addr) 2 ∧ Free w2 (⟨b2, 0, none⟩ : Addr) 2 ∧ ∀ w3 : World, w3 = setCells w2 (⟨b2, 0, none⟩ : Addr) 0 [.int .i64 t3, .slice t4 t4n t4c] → (∃ (r5 : Int) (r6 : Option Addr) (r6n : Nat) (r6c : Nat), CellsAt w3 (⟨b2, 0, none⟩ : Addr) 0 [.int .i64 r5, .slice r6 r6n r6c] ∧ R r5 r6 r6n r6c 0 2 w3))) ∧ ((decide (set1 ≥ 65536)) = false → ∃ (t5 : Int) (t6 : Option Addr) (t6n : Nat) (t6c : Nat), CellsAt w2 (⟨b1, 0, none⟩ : Addr) 0 [.int .i64 t5, .slice t6 t6n t6c] ∧ (Calls Try.prog 124 #[.agg #[.int .i64 t5, .slice t6 t6n t6c], .int .u32 set1] w2 fun e w4 => ∃ (r7 : Int), e = .returned (.int .i64 r7) ∧ (((decide (r7 ≥ 0)) = true → ∃ (t7 : Int) (t8 : Option Addr) (t8n : Nat) (t8c : Nat), CellsAt w4 (⟨b1, 0, none⟩ : Addr) 0 [.int .i64 t7, .slice t8 t8n t8c] ∧ (Has w4 (⟨b2, 0, none⟩ : Addr) 2 ∧ Free w4 (⟨b2, 0, none⟩ : Addr) 2 ∧ ∀ w5 : World, w5 = setCells w4 (⟨b2, 0, none⟩ : Addr) 0 [.int .i64 t7, .slice t8 t8n t8c] → (∃ (r8 : Int) (r9 : Option Addr) (r9n : Nat) (r9c : Nat), CellsAt w5 (⟨b2, 0, none⟩ : Addr) 0 [.int .i64 r8, .slice r9 r9n r9c] ∧ R r8 r9 r9n r9c r7 0 w5))) ∧ ((decide (r7 ≥ 0)) = false → ∃ (t9 : Option Addr) (t9n : Nat) (t9c : Nat), w4.cell? (⟨b1, 1, none⟩ : Addr) = some (.slice t9 t9n t9c) ∧ (∃ (t10 : Int), w4.cell? (⟨b1, 0, none⟩ : Addr) = some (.int .i64 t10) ∧ (((decide ((t9n : Int) ≥ t10)) = true → ∃ (t11 : Int) (t12 : Option Addr) (t12n : Nat) (t12c : Nat), CellsAt w4 (⟨b1, 0, none⟩ : Addr) 0 [.int .i64 t11, .slice t12 t12n t12c] ∧ (Has w4 (⟨b2, 0, none⟩ : Addr) 2 ∧ Free w4 (⟨b2, 0, none⟩ : Addr) 2 ∧ ∀ w6 : World, w6 = setCells w4 (⟨b2, 0, none⟩ : Addr) 0 [.int .i64 t11, .slice t12 t12n t12c] → (∃ (r10 : Int) (r11 : Option Addr) (r11n : Nat) (r11c : Nat), CellsAt w6 (⟨b2, 0, none⟩ : Addr) 0 [.int .i64 r10, .slice r11 r11n r11c] ∧ R r10 r11 r11n r11c 0 120 w6))) ∧ ((decide ((t9n : Int) ≥ t10)) = false → ∃ (t13 : Option Addr) (t13n : Nat) (t13c : Nat), w4.cell? (⟨b1, 1, none⟩ : Addr) = some (.slice t13 t13n t13c) ∧ (∃ (l1 : Option Addr) (l1n : Nat) (l1c : Nat) (w7 : World), (Builtin.append_ #[31, 31] 31 #[.slice none 0 0, .slice t13 t13n t13c]).run Try.prog w4 = .ok (.slice l1 l1n l1c) w7 ∧ (∀ b3 : Nat, b3 = World.size w7 → ∀ w8 : World, w8 = World.alloc w7 (.cells #[.int .u32 set1] 22) → (∃ (l2 : Option Addr) (l2n : Nat) (l2c : Nat) (w9 : World), (Builtin.append_ #[31, 31] 31 #[.slice l1 l1n l1c, .slice (some (⟨b3, 0, none⟩ : Addr)) 1 1]).run Try.prog w8 = .ok (.slice l2 l2n l2c) w9 ∧ ((∃ o : Value, w9.cell? (⟨b1, 1, none⟩ : Addr) = some o) ∧ w9.frozen? (⟨b1, 1, none⟩ : Addr) = false ∧ ∀ w10 : World, w10 = World.setCell w9 (⟨b1, 1, none⟩ : Addr) (.slice l2 l2n l2c) → (∀ w11 : World, w11 = World.drew w10 → ∃ (t14 : Int) (t15 : Option Addr) (t15n : Nat) (t15c : Nat), CellsAt w11 (⟨b1, 0, none⟩ : Addr) 0 [.int .i64 t14, .slice t15 t15n t15c] ∧ (∃ (t16 : Option Addr) (t16n : Nat) (t16c : Nat), w11.cell? (⟨b1, 1, none⟩ : Addr) = some (.slice t16 t16n t16c) ∧ (Has w11 (⟨b2, 0, none⟩ : Addr) 2 ∧ Free w11 (⟨b2, 0, none⟩ : Addr) 2 ∧ ∀ w12 : World, w12 = setCells w11 (⟨b2, 0, none⟩ : Addr) 0 [.int .i64 t14, .slice t15 t15n t15c] → ((CellsAt w12 (⟨b1, 0, none⟩ : Addr) 0 [.int .i64 t14, .slice t15 t15n t15c] ∧ w12.cell? (⟨b1, 1, none⟩ : Addr) = some (.slice t16 t16n t16c) ∧ True) ∧ (∃ (r12 : Int) (r13 : Option Addr) (r13n : Nat) (r13c : Nat), CellsAt w12 (⟨b2, 0, none⟩ : Addr) 0 [.int .i64 r12, .slice r13 r13n r13c] ∧ R r12 r13 r13n r13c (IntKind.wrap .i64 ((t16n : Int) - 1)) 0 w12))))))))))))))))))
set_option maxRecDepth 100000 in
theorem ok_pomanderref02_Table_Keep (t1 : Int) (t2 : Option Addr) (t2n : Nat) (t2c : Nat) (set1 : Int) (w : World) (R : Int → (Option Addr) → Nat → Nat → Int → Int → World → Prop) (h : V_pomanderref02_Table_Keep t1 t2 t2n t2c set1 w R) : Calls Try.prog 104 #[.agg #[.int .i64 t1, .slice t2 t2n t2c], .int .u32 set1] w (fun e w' => ∃ (r1 : Int) (r2 : Option Addr) (r2n : Nat) (r2c : Nat) (r3 : Int) (r4 : Int), e = .returned (.tuple #[.agg #[.int .i64 r1, .slice r2 r2n r2c], .int .i64 r3, .int .i64 r4]) ∧ R r1 r2 r2n r2c r3 r4 w') := by
  unfold V_pomanderref02_Table_Keep at h
  refine enter (N := 37) Try.func104 rfl rfl ?_
  refine CW.seq ?_
  refine CW.region fun L hL => ?_
  obtain ⟨b1, hb_b1⟩ : ∃ b1, b1 = World.size w := ⟨_, rfl⟩
  obtain ⟨w1, hw_w1⟩ : ∃ w1, w1 = World.alloc w (.cells #[.int .i64 t1, .slice t2 t2n t2c] 33) := ⟨_, rfl⟩
  replace h := h b1 hb_b1 w1 hw_w1
  refine LW.val hL rfl (Wants.free rfl) rfl (boxE hb_b1 hw_w1 (Vl.box (v := .agg #[.int .i64 t1, .slice t2 t2n t2c]) rfl)) ?_
  obtain ⟨b2, hb_b2⟩ : ∃ b2, b2 = World.size w1 := ⟨_, rfl⟩
  obtain ⟨w2, hw_w2⟩ : ∃ w2, w2 = World.alloc w1 (.cells #[.int .i64 0, .slice none 0 0] 33) := ⟨_, rfl⟩
  replace h := h b2 hb_b2 w2 hw_w2
  refine LW.val hL rfl (Wants.free rfl) rfl (boxE hb_b2 hw_w2 (Vl.alloc (z := .agg #[.int .i64 0, .slice none 0 0]) (by kernel_rfl))) ?_
  refine LW.rd hL rfl (Wants.free rfl) rfl (Rd.assign (v := .int .i64 0) rfl) ?_
  refine LW.rd hL rfl (Wants.free rfl) rfl (Rd.assign (v := .int .i64 0) rfl) ?_
  refine LW.nil hL rfl ?_
  refine NW.then ?_
  refine CW.seq ?_
  refine CW.seq ?_
  refine CW.region fun L hL => ?_
  refine LW.rd hL rfl (Wants.free rfl) rfl (Rd.move (v := .int .u32 set1) rfl) ?_
  refine LW.rd hL rfl (Wants.free rfl) rfl (Rd.bin (v := .bool (decide (set1 ≥ 65536))) rfl rfl (fun w => by kernel_rfl)) ?_
  refine LW.nil hL rfl ?_
  refine NW.then ?_
  refine CW.cond rfl (fun hb1 => ?_) (fun hb1 => ?_)
  · replace h := h.1 hb1
    refine CW.seq ?_
    refine CW.region fun L hL => ?_
    obtain ⟨t3, t4, t4n, t4c, hc1, h⟩ := h
    refine LW.rd hL rfl (Wants.free rfl) rfl (Rd.ldN (cs := [.int .i64 t3, .slice t4 t4n t4c]) rfl (by kernel_rfl) (by kernel_rfl) (cellsS hc1)) ?_
    obtain ⟨ho1, hf1, h⟩ := h
    obtain ⟨w3, hw_w3⟩ : ∃ w3, w3 = setCells w2 (⟨b2, 0, none⟩ : Addr) 0 [.int .i64 t3, .slice t4 t4n t4c] := ⟨_, rfl⟩
    replace h := h w3 hw_w3
    refine LW.eff hL rfl (Wants.free rfl) rfl (stNE hw_w3 (Ef.stN (cs := [.int .i64 t3, .slice t4 t4n t4c]) rfl rfl (by kernel_rfl) (List.forall_mem_cons.2 ⟨rfl, (List.forall_mem_cons.2 ⟨rfl, (List.forall_mem_nil _)⟩)⟩) ho1 hf1)) ?_
    refine LW.rd hL rfl (Wants.free rfl) rfl (Rd.assign (v := .int .i64 0) rfl) ?_
    refine LW.rd hL rfl (Wants.free rfl) rfl (Rd.assign (v := .int .i64 2) rfl) ?_
    refine LW.nil hL rfl ?_
    refine NW.then ?_
    refine CW.ret ?_
    refine RW.then ?_
    obtain ⟨r5, r6, r6n, r6c, hr1, h⟩ := h
    exact resN (vs := [.agg #[.int .i64 r5, .slice r6 r6n r6c], .int .i64 0, .int .i64 2]) (ResOK.c rfl (lvN (cs := [.int .i64 r5, .slice r6 r6n r6c]) (by kernel_rfl) (by kernel_rfl) (cellsAt_get hr1)) (ResOK.t rfl (ResOK.t rfl ResOK.nil))) rfl ⟨r5, r6, r6n, r6c, 0, 2, rfl, h⟩
  · replace h := h.2 hb1
    refine CW.skip ?_
    refine NW.then ?_
    refine CW.seq ?_
    refine CW.region fun L hL => ?_
    obtain ⟨t5, t6, t6n, t6c, hc2, h⟩ := h
    refine LW.rd hL rfl (Wants.free rfl) rfl (Rd.ldN (cs := [.int .i64 t5, .slice t6 t6n t6c]) rfl (by kernel_rfl) (by kernel_rfl) (cellsS hc2)) ?_
    refine LW.rd hL rfl (Wants.free rfl) rfl (Rd.move (v := .int .u32 set1) rfl) ?_
    refine LW.call hL rfl (Wants.free rfl) rfl (Cl.fn (f := 124) rfl Try.func124 (by kernel_rfl) rfl) h (fun e w4 h_ => ?_)
    clear h
    obtain ⟨r7, rfl, h⟩ := h_
    refine ⟨_, rfl, ?_⟩
    refine LW.rd hL rfl (Wants.free rfl) rfl (Rd.assign (v := .int .i64 r7) rfl) ?_
    refine LW.nil hL rfl ?_
    refine NW.then ?_
    refine CW.seq ?_
    refine CW.seq ?_
    refine CW.region fun L hL => ?_
    refine LW.rd hL rfl (Wants.free rfl) rfl (Rd.move (v := .int .i64 r7) rfl) ?_
    refine LW.rd hL rfl (Wants.free rfl) rfl (Rd.bin (v := .bool (decide (r7 ≥ 0))) rfl rfl (fun w => by kernel_rfl)) ?_
    refine LW.nil hL rfl ?_
    refine NW.then ?_
    refine CW.cond rfl (fun hb2 => ?_) (fun hb2 => ?_)
    · replace h := h.1 hb2
      refine CW.seq ?_
      refine CW.region fun L hL => ?_
      obtain ⟨t7, t8, t8n, t8c, hc3, h⟩ := h
      refine LW.rd hL rfl (Wants.free rfl) rfl (Rd.ldN (cs := [.int .i64 t7, .slice t8 t8n t8c]) rfl (by kernel_rfl) (by kernel_rfl) (cellsS hc3)) ?_
      refine LW.rd hL rfl (Wants.free rfl) rfl (Rd.move (v := .int .i64 r7) rfl) ?_
      obtain ⟨ho2, hf2, h⟩ := h
      obtain ⟨w5, hw_w5⟩ : ∃ w5, w5 = setCells w4 (⟨b2, 0, none⟩ : Addr) 0 [.int .i64 t7, .slice t8 t8n t8c] := ⟨_, rfl⟩
      replace h := h w5 hw_w5
      refine LW.eff hL rfl (Wants.free rfl) rfl (stNE hw_w5 (Ef.stN (cs := [.int .i64 t7, .slice t8 t8n t8c]) rfl rfl (by kernel_rfl) (List.forall_mem_cons.2 ⟨rfl, (List.forall_mem_cons.2 ⟨rfl, (List.forall_mem_nil _)⟩)⟩) ho2 hf2)) ?_
      refine LW.rd hL rfl (Wants.free rfl) rfl (Rd.assign (v := .int .i64 r7) rfl) ?_
      refine LW.rd hL rfl (Wants.free rfl) rfl (Rd.assign (v := .int .i64 0) rfl) ?_
      refine LW.nil hL rfl ?_
      refine NW.then ?_
      refine CW.ret ?_
      refine RW.then ?_
      obtain ⟨r8, r9, r9n, r9c, hr2, h⟩ := h
      exact resN (vs := [.agg #[.int .i64 r8, .slice r9 r9n r9c], .int .i64 r7, .int .i64 0]) (ResOK.c rfl (lvN (cs := [.int .i64 r8, .slice r9 r9n r9c]) (by kernel_rfl) (by kernel_rfl) (cellsAt_get hr2)) (ResOK.t rfl (ResOK.t rfl ResOK.nil))) rfl ⟨r8, r9, r9n, r9c, r7, 0, rfl, h⟩
    · replace h := h.2 hb2
      refine CW.skip ?_
      refine NW.then ?_
      refine CW.seq ?_
      refine CW.seq ?_
      refine CW.region fun L hL => ?_
      refine LW.rd hL rfl (Wants.free rfl) rfl (Rd.fa (v := .pointer (some (⟨b1, 1, none⟩ : Addr))) rfl (fun _ => by kernel_rfl)) ?_
      obtain ⟨t9, t9n, t9c, hc4, h⟩ := h
      refine LW.rd hL rfl (Wants.free rfl) rfl (Rd.ld (v := .slice t9 t9n t9c) rfl (by kernel_rfl) (eqs hc4)) ?_
      refine LW.rd hL rfl (Wants.free rfl) rfl (Rd.builtin (v := .int .i64 (t9n : Int)) rfl (fun _ _ => by kernel_rfl)) ?_
      refine LW.rd hL rfl (Wants.free rfl) rfl (Rd.fa (v := .pointer (some (⟨b1, 0, none⟩ : Addr))) rfl (fun _ => by kernel_rfl)) ?_
      obtain ⟨t10, hc5, h⟩ := h
      refine LW.rd hL rfl (Wants.free rfl) rfl (Rd.ld (v := .int .i64 t10) rfl (by kernel_rfl) (eqs hc5)) ?_
      refine LW.rd hL rfl (Wants.free rfl) rfl (Rd.bin (v := .bool (decide ((t9n : Int) ≥ t10))) rfl rfl (fun w => by kernel_rfl)) ?_
      refine LW.nil hL rfl ?_
      refine NW.then ?_
      refine CW.cond rfl (fun hb3 => ?_) (fun hb3 => ?_)
      · replace h := h.1 hb3
        refine CW.seq ?_
        refine CW.region fun L hL => ?_
        obtain ⟨t11, t12, t12n, t12c, hc6, h⟩ := h
        refine LW.rd hL rfl (Wants.free rfl) rfl (Rd.ldN (cs := [.int .i64 t11, .slice t12 t12n t12c]) rfl (by kernel_rfl) (by kernel_rfl) (cellsS hc6)) ?_
        obtain ⟨ho3, hf3, h⟩ := h
        obtain ⟨w6, hw_w6⟩ : ∃ w6, w6 = setCells w4 (⟨b2, 0, none⟩ : Addr) 0 [.int .i64 t11, .slice t12 t12n t12c] := ⟨_, rfl⟩
        replace h := h w6 hw_w6
        refine LW.eff hL rfl (Wants.free rfl) rfl (stNE hw_w6 (Ef.stN (cs := [.int .i64 t11, .slice t12 t12n t12c]) rfl rfl (by kernel_rfl) (List.forall_mem_cons.2 ⟨rfl, (List.forall_mem_cons.2 ⟨rfl, (List.forall_mem_nil _)⟩)⟩) ho3 hf3)) ?_
        refine LW.rd hL rfl (Wants.free rfl) rfl (Rd.assign (v := .int .i64 0) rfl) ?_
        refine LW.rd hL rfl (Wants.free rfl) rfl (Rd.assign (v := .int .i64 120) rfl) ?_
        refine LW.nil hL rfl ?_
        refine NW.then ?_
        refine CW.ret ?_
        refine RW.then ?_
        obtain ⟨r10, r11, r11n, r11c, hr3, h⟩ := h
        exact resN (vs := [.agg #[.int .i64 r10, .slice r11 r11n r11c], .int .i64 0, .int .i64 120]) (ResOK.c rfl (lvN (cs := [.int .i64 r10, .slice r11 r11n r11c]) (by kernel_rfl) (by kernel_rfl) (cellsAt_get hr3)) (ResOK.t rfl (ResOK.t rfl ResOK.nil))) rfl ⟨r10, r11, r11n, r11c, 0, 120, rfl, h⟩
      · replace h := h.2 hb3
        refine CW.skip ?_
        refine NW.then ?_
        refine CW.seq ?_
        refine CW.region fun L hL => ?_
        refine LW.rd hL rfl (Wants.free rfl) rfl (Rd.fa (v := .pointer (some (⟨b1, 1, none⟩ : Addr))) rfl (fun _ => by kernel_rfl)) ?_
        obtain ⟨t13, t13n, t13c, hc7, h⟩ := h
        refine LW.rd hL rfl (Wants.free rfl) rfl (Rd.ld (v := .slice t13 t13n t13c) rfl (by kernel_rfl) (eqs hc7)) ?_
        obtain ⟨l1, l1n, l1c, w7, ha1, h⟩ := h
        refine LW.val hL rfl (Wants.free rfl) rfl (Vl.builtin (v := .slice l1 l1n l1c) rfl (valB ha1)) ?_
        refine LW.rd hL rfl (Wants.free rfl) rfl (Rd.move (v := .int .u32 set1) rfl) ?_
        obtain ⟨b3, hb_b3⟩ : ∃ b3, b3 = World.size w7 := ⟨_, rfl⟩
        obtain ⟨w8, hw_w8⟩ : ∃ w8, w8 = World.alloc w7 (.cells #[.int .u32 set1] 22) := ⟨_, rfl⟩
        replace h := h b3 hb_b3 w8 hw_w8
        refine LW.val hL rfl (Wants.free rfl) rfl (sliceE (n := 1) hb_b3 hw_w8 (fun w => Vl.buildSlice (vs := [(0, .int .u32 set1)]) rfl (by kernel_rfl))) ?_
        obtain ⟨l2, l2n, l2c, w9, ha2, h⟩ := h
        refine LW.val hL rfl (Wants.free rfl) rfl (Vl.builtin (v := .slice l2 l2n l2c) rfl (valB ha2)) ?_
        refine LW.rd hL rfl (Wants.free rfl) rfl (Rd.fa (v := .pointer (some (⟨b1, 1, none⟩ : Addr))) rfl (fun _ => by kernel_rfl)) ?_
        obtain ⟨⟨o_w10, ho4⟩, hf4, h⟩ := h
        obtain ⟨w10, hw_w10⟩ : ∃ w10, w10 = World.setCell w9 (⟨b1, 1, none⟩ : Addr) (.slice l2 l2n l2c) := ⟨_, rfl⟩
        replace h := h w10 hw_w10
        refine LW.eff hL rfl (Wants.free rfl) rfl (stE hw_w10 (Ef.st rfl rfl rfl (by kernel_rfl) ho4 hf4)) ?_
        refine LW.nil hL rfl ?_
        refine NW.then ?_
        refine CW.seq ?_
        replace h := h _ rfl
        obtain ⟨t14, t15, t15n, t15c, hc8, h⟩ := h
        obtain ⟨t16, t16n, t16c, hc9, h⟩ := h
        refine CW.drawn (fun w => CellsAt w (⟨b1, 0, none⟩ : Addr) 0 [.int .i64 t14, .slice t15 t15n t15c] ∧ w.cell? (⟨b1, 1, none⟩ : Addr) = some (.slice t16 t16n t16c) ∧ True) 8 (by kernel_rfl) fun H hH => ?_
        generalize World.drew _ = w11 at *
        have hS1 : CellsAt w11 (⟨b1, 0, none⟩ : Addr) 0 [.int .i64 t14, .slice t15 t15n t15c] ∧ w11.cell? (⟨b1, 1, none⟩ : Addr) = some (.slice t16 t16n t16c) ∧ True := ⟨hc8, hc9, trivial⟩
        refine HW.take (i := 0) hH rfl (by kernel_rfl) (by kernel_rfl) (Wants.free rfl) rfl (fun _ => hS1) (Rd.ldN (cs := [.int .i64 t14, .slice t15 t15n t15c]) rfl (by kernel_rfl) (by kernel_rfl) (fun w h => cellsAt_get h.1)) ?_
        refine HW.pure (i := 1) hH rfl (by kernel_rfl) (Wants.free rfl) rfl (fun _ => hS1) (Rd.fa (v := .pointer (some (⟨b1, 1, none⟩ : Addr))) rfl (fun _ => by kernel_rfl)) ?_
        refine HW.take (i := 2) hH rfl (by kernel_rfl) (by kernel_rfl) (Wants.free rfl) rfl (fun _ => hS1) (Rd.ld (v := .slice t16 t16n t16c) rfl (by kernel_rfl) (fun w h => h.2.1)) ?_
        refine HW.pure (i := 3) hH rfl (by kernel_rfl) (Wants.free rfl) rfl (fun _ => hS1) (Rd.builtin (v := .int .i64 (t16n : Int)) rfl (fun _ _ => by kernel_rfl)) ?_
        refine HW.pure (i := 4) hH rfl (by kernel_rfl) (Wants.free rfl) rfl (fun _ => hS1) (Rd.bin (v := .int .i64 (IntKind.wrap .i64 ((t16n : Int) - 1))) rfl rfl (fun w => by kernel_rfl)) ?_
        obtain ⟨ho5, hf5, h⟩ := h
        obtain ⟨w12, hw_w12⟩ : ∃ w12, w12 = setCells w11 (⟨b2, 0, none⟩ : Addr) 0 [.int .i64 t14, .slice t15 t15n t15c] := ⟨_, rfl⟩
        replace h := h w12 hw_w12
        obtain ⟨hS2, h⟩ := h
        refine HW.eff (i := 5) hH (by kernel_rfl) rfl (Wants.free rfl) rfl (stNE hw_w12 (Ef.stN (cs := [.int .i64 t14, .slice t15 t15n t15c]) rfl rfl (by kernel_rfl) (List.forall_mem_cons.2 ⟨rfl, (List.forall_mem_cons.2 ⟨rfl, (List.forall_mem_nil _)⟩)⟩) ho5 hf5)) (fun _ => hS2) ?_
        refine HW.pure (i := 6) hH rfl (by kernel_rfl) (Wants.free rfl) rfl (fun _ => hS2) (Rd.assign (v := .int .i64 (IntKind.wrap .i64 ((t16n : Int) - 1))) rfl) ?_
        refine HW.pure (i := 7) hH rfl (by kernel_rfl) (Wants.free rfl) rfl (fun _ => hS2) (Rd.assign (v := .int .i64 0) rfl) ?_
        refine HW.done hH (by kernel_rfl) ?_
        refine NW.then ?_
        refine CW.ret ?_
        obtain ⟨r12, r13, r13n, r13c, hr4, h⟩ := h
        exact resN (vs := [.agg #[.int .i64 r12, .slice r13 r13n r13c], .int .i64 (IntKind.wrap .i64 ((t16n : Int) - 1)), .int .i64 0]) (ResOK.c rfl (lvN (cs := [.int .i64 r12, .slice r13 r13n r13c]) (by kernel_rfl) (by kernel_rfl) (cellsAt_get hr4)) (ResOK.t rfl (ResOK.t rfl ResOK.nil))) rfl ⟨r12, r13, r13n, r13c, IntKind.wrap .i64 ((t16n : Int) - 1), 0, rfl, h⟩

/- (pomander/pomanderref12.Flow).Put -/
def V_pomanderref12_Flow_Put (f1 : Int) (f2 : Int) (f3 : Int) (f4 : Option Addr) (f4n : Nat) (f4c : Nat) (f5 : Option Addr) (f5n : Nat) (f5c : Nat) (p1 : Int) (p2 : Int) (set1 : Int) (w : World) (R : Int → Int → Int → (Option Addr) → Nat → Nat → (Option Addr) → Nat → Nat → World → Prop) : Prop :=
  ∀ b1 : Nat, b1 = World.size w → ∀ w1 : World, w1 = World.alloc w (.cells #[.int .i64 f1, .int .i64 f2, .int .i64 f3, .slice f4 f4n f4c, .slice f5 f5n f5c] 36) → (∀ b2 : Nat, b2 = World.size w1 → ∀ w2 : World, w2 = World.alloc w1 (.cells #[.int .i64 p1, .int .i64 p2] 56) → (∀ b3 : Nat, b3 = World.size w2 → ∀ w3 : World, w3 = World.alloc w2 (.cells #[.int .i64 0, .int .i64 0, .int .i64 0, .slice none 0 0, .slice none 0 0] 36) → (∃ (I1 : (Option Addr) × Nat × Nat × Bool × Int → World → Prop) (m1 : (Option Addr) × Nat × Nat × Bool × Int → World → Nat), I1 (none, 0, 0, set1 == 0, 0) w3 ∧ ∀ (s1 : (Option Addr) × Nat × Nat × Bool × Int) (w4 : World), I1 s1 w4 → ∃ (t1 : Option Addr) (t1n : Nat) (t1c : Nat), w4.cell? (⟨b1, 4, none⟩ : Addr) = some (.slice t1 t1n t1c) ∧ (((decide (s1.2.2.2.2 < (t1n : Int))) = true → ∃ J1 : (Option Addr) × Nat × Nat × Bool → World → Prop, (∀ (s2 : (Option Addr) × Nat × Nat × Bool) (w5 : World), J1 s2 w5 → (I1 (s2.1, s2.2.1, s2.2.2.1, s2.2.2.2, IntKind.wrap .i64 (s1.2.2.2.2 + 1)) w5 ∧ m1 (s2.1, s2.2.1, s2.2.2.1, s2.2.2.2, IntKind.wrap .i64 (s1.2.2.2.2 + 1)) w5 < m1 s1 w4)) ∧ (∃ (t2 : Option Addr) (t2n : Nat) (t2c : Nat), w4.cell? (⟨b1, 4, none⟩ : Addr) = some (.slice t2 t2n t2c) ∧ (∃ a1 : Addr, t2 = some a1 ∧ (0 : Int) ≤ s1.2.2.2.2 ∧ s1.2.2.2.2 < (t2n : Int) ∧ (∃ (t3 : Int) (t4 : Int) (t5 : Int), CellsAt w4 (a1.add (Int.toNat s1.2.2.2.2 * 3)) 0 [.int .i64 t3, .int .i64 t4, .int .u32 t5] ∧ (∀ b4 : Nat, b4 = World.size w4 → ∀ w6 : World, w6 = World.alloc w4 (.cells #[.int .i64 0, .int .i64 0, .int .u32 0] 149) → (Has w6 (⟨b4, 0, none⟩ : Addr) 3 ∧ Free w6 (⟨b4, 0, none⟩ : Addr) 3 ∧ ∀ w7 : World, w7 = setCells w6 (⟨b4, 0, none⟩ : Addr) 0 [.int .i64 t3, .int .i64 t4, .int .u32 t5] → (∃ J2 : (Option Addr) × Nat × Nat × Bool → World → Prop, (∀ (s3 : (Option Addr) × Nat × Nat × Bool) (w8 : World), J2 s3 w8 → ∃ J3 : (Option Addr) × Nat × Nat → World → Prop, (∀ (s4 : (Option Addr) × Nat × Nat) (w9 : World), J3 s4 w9 → ∃ (t6 : Int) (t7 : Int), CellsAt w9 (⟨b4, 0, none⟩ : Addr) 0 [.int .i64 t6, .int .i64 t7] ∧ (∃ (t8 : Int) (t9 : Int), CellsAt w9 (⟨b2, 0, none⟩ : Addr) 0 [.int .i64 t8, .int .i64 t9] ∧ ((((t6 == t8) && (t7 == t9) && !s3.2.2.2) = true → ∃ (t10 : Int) (t11 : Int), CellsAt w9 (⟨b2, 0, none⟩ : Addr) 0 [.int .i64 t10, .int .i64 t11] ∧ (∀ b5 : Nat, b5 = World.size w9 → ∀ w10 : World, w10 = World.alloc w9 (.cells #[.int .i64 t10, .int .i64 t11, .int .u32 set1] 149) → (∃ (l1 : Option Addr) (l1n : Nat) (l1c : Nat) (w11 : World), (Builtin.append_ #[34, 34] 34 #[.slice s4.1 s4.2.1 s4.2.2, .slice (some (⟨b5, 0, none⟩ : Addr)) 1 1]).run Try.prog w10 = .ok (.slice l1 l1n l1c) w11 ∧ (J1 (l1, l1n, l1c, true) w11)))) ∧ (((t6 == t8) && (t7 == t9) && !s3.2.2.2) = false → J1 (s4.1, s4.2.1, s4.2.2, s3.2.2.2) w9)))) ∧ (∃ (t12 : Int) (t13 : Int), CellsAt w8 (⟨b4, 0, none⟩ : Addr) 0 [.int .i64 t12, .int .i64 t13] ∧ (∃ (t14 : Int) (t15 : Int), CellsAt w8 (⟨b2, 0, none⟩ : Addr) 0 [.int .i64 t14, .int .i64 t15] ∧ (((!((t12 == t14) && (t13 == t15))) = true → ∃ (t16 : Int) (t17 : Int) (t18 : Int), CellsAt w8 (⟨b4, 0, none⟩ : Addr) 0 [.int .i64 t16, .int .i64 t17, .int .u32 t18] ∧ (∀ b6 : Nat, b6 = World.size w8 → ∀ w12 : World, w12 = World.alloc w8 (.cells #[.int .i64 t16, .int .i64 t17, .int .u32 t18] 149) → (∃ (l2 : Option Addr) (l2n : Nat) (l2c : Nat) (w13 : World), (Builtin.append_ #[34, 34] 34 #[.slice s3.1 s3.2.1 s3.2.2.1, .slice (some (⟨b6, 0, none⟩ : Addr)) 1 1]).run Try.prog w12 = .ok (.slice l2 l2n l2c) w13 ∧ (J3 (l2, l2n, l2c) w13)))) ∧ ((!((t12 == t14) && (t13 == t15))) = false → J3 (s3.1, s3.2.1, s3.2.2.1) w8))))) ∧ (∃ J4 : Bool → World → Prop, (∀ (b7 : Bool) (w14 : World), J4 b7 w14 → (b7 = true → ∃ (t23 : Int) (t24 : Int), CellsAt w14 (⟨b2, 0, none⟩ : Addr) 0 [.int .i64 t23, .int .i64 t24] ∧ (∀ b8 : Nat, b8 = World.size w14 → ∀ w16 : World, w16 = World.alloc w14 (.cells #[.int .i64 t23, .int .i64 t24, .int .u32 set1] 149) → (∃ (l3 : Option Addr) (l3n : Nat) (l3c : Nat) (w17 : World), (Builtin.append_ #[34, 34] 34 #[.slice s1.1 s1.2.1 s1.2.2.1, .slice (some (⟨b8, 0, none⟩ : Addr)) 1 1]).run Try.prog w16 = .ok (.slice l3 l3n l3c) w17 ∧ (J2 (l3, l3n, l3c, true) w17)))) ∧ (b7 = false → J2 (s1.1, s1.2.1, s1.2.2.1, s1.2.2.2.1) w14)) ∧ (((!s1.2.2.2.1) = true → ∃ (t19 : Int) (t20 : Int), CellsAt w7 (⟨b2, 0, none⟩ : Addr) 0 [.int .i64 t19, .int .i64 t20] ∧ (∃ (t21 : Int) (t22 : Int), CellsAt w7 (⟨b4, 0, none⟩ : Addr) 0 [.int .i64 t21, .int .i64 t22] ∧ (Calls Try.prog 125 #[.agg #[.int .i64 t19, .int .i64 t20], .agg #[.int .i64 t21, .int .i64 t22]] w7 fun e w15 => ∃ (r6 : Bool), e = .returned (.bool r6) ∧ (J4 r6 w15)))) ∧ ((!s1.2.2.2.1) = false → J4 false w7)))))))))) ∧ ((decide (s1.2.2.2.2 < (t1n : Int))) = false → ∃ J5 : (Option Addr) × Nat × Nat → World → Prop, (∀ (s5 : (Option Addr) × Nat × Nat) (w18 : World), J5 s5 w18 → (∃ o : Value, w18.cell? (⟨b1, 4, none⟩ : Addr) = some o) ∧ w18.frozen? (⟨b1, 4, none⟩ : Addr) = false ∧ ∀ w19 : World, w19 = World.setCell w18 (⟨b1, 4, none⟩ : Addr) (.slice s5.1 s5.2.1 s5.2.2) → (∃ (t25 : Int) (t26 : Int) (t27 : Int) (t28 : Option Addr) (t28n : Nat) (t28c : Nat) (t29 : Option Addr) (t29n : Nat) (t29c : Nat), CellsAt w19 (⟨b1, 0, none⟩ : Addr) 0 [.int .i64 t25, .int .i64 t26, .int .i64 t27, .slice t28 t28n t28c, .slice t29 t29n t29c] ∧ (Has w19 (⟨b3, 0, none⟩ : Addr) 5 ∧ Free w19 (⟨b3, 0, none⟩ : Addr) 5 ∧ ∀ w20 : World, w20 = setCells w19 (⟨b3, 0, none⟩ : Addr) 0 [.int .i64 t25, .int .i64 t26, .int .i64 t27, .slice t28 t28n t28c, .slice t29 t29n t29c] → (∃ (r7 : Int) (r8 : Int) (r9 : Int) (r10 : Option Addr) (r10n : Nat) (r10c : Nat) (r11 : Option Addr) (r11n : Nat) (r11c : Nat), CellsAt w20 (⟨b3, 0, none⟩ : Addr) 0 [.int .i64 r7, .int .i64 r8, .int .i64 r9, .slice r10 r10n r10c, .slice r11 r11n r11c] ∧ R r7 r8 r9 r10 r10n r10c r11 r11n r11c w20)))) ∧ (((!s1.2.2.2.1) = true → ∃ (t30 : Int) (t31 : Int), CellsAt w4 (⟨b2, 0, none⟩ : Addr) 0 [.int .i64 t30, .int .i64 t31] ∧ (∀ b9 : Nat, b9 = World.size w4 → ∀ w21 : World, w21 = World.alloc w4 (.cells #[.int .i64 t30, .int .i64 t31, .int .u32 set1] 149) → (∃ (l4 : Option Addr) (l4n : Nat) (l4c : Nat) (w22 : World), (Builtin.append_ #[34, 34] 34 #[.slice s1.1 s1.2.1 s1.2.2.1, .slice (some (⟨b9, 0, none⟩ : Addr)) 1 1]).run Try.prog w21 = .ok (.slice l4 l4n l4c) w22 ∧ (J5 (l4, l4n, l4c) w22)))) ∧ ((!s1.2.2.2.1) = false → J5 (s1.1, s1.2.1, s1.2.2.1) w4)))))))
set_option maxRecDepth 100000 in
theorem ok_pomanderref12_Flow_Put (f1 : Int) (f2 : Int) (f3 : Int) (f4 : Option Addr) (f4n : Nat) (f4c : Nat) (f5 : Option Addr) (f5n : Nat) (f5c : Nat) (p1 : Int) (p2 : Int) (set1 : Int) (w : World) (R : Int → Int → Int → (Option Addr) → Nat → Nat → (Option Addr) → Nat → Nat → World → Prop) (h : V_pomanderref12_Flow_Put f1 f2 f3 f4 f4n f4c f5 f5n f5c p1 p2 set1 w R) : Calls Try.prog 105 #[.agg #[.int .i64 f1, .int .i64 f2, .int .i64 f3, .slice f4 f4n f4c, .slice f5 f5n f5c], .agg #[.int .i64 p1, .int .i64 p2], .int .u32 set1] w (fun e w' => ∃ (r1 : Int) (r2 : Int) (r3 : Int) (r4 : Option Addr) (r4n : Nat) (r4c : Nat) (r5 : Option Addr) (r5n : Nat) (r5c : Nat), e = .returned (.agg #[.int .i64 r1, .int .i64 r2, .int .i64 r3, .slice r4 r4n r4c, .slice r5 r5n r5c]) ∧ R r1 r2 r3 r4 r4n r4c r5 r5n r5c w') := by
  unfold V_pomanderref12_Flow_Put at h
  refine enter (N := 72) Try.func105 rfl rfl ?_
  refine CW.seq ?_
  refine CW.region fun L hL => ?_
  obtain ⟨b1, hb_b1⟩ : ∃ b1, b1 = World.size w := ⟨_, rfl⟩
  obtain ⟨w1, hw_w1⟩ : ∃ w1, w1 = World.alloc w (.cells #[.int .i64 f1, .int .i64 f2, .int .i64 f3, .slice f4 f4n f4c, .slice f5 f5n f5c] 36) := ⟨_, rfl⟩
  replace h := h b1 hb_b1 w1 hw_w1
  refine LW.val hL rfl (Wants.free rfl) rfl (boxE hb_b1 hw_w1 (Vl.box (v := .agg #[.int .i64 f1, .int .i64 f2, .int .i64 f3, .slice f4 f4n f4c, .slice f5 f5n f5c]) rfl)) ?_
  obtain ⟨b2, hb_b2⟩ : ∃ b2, b2 = World.size w1 := ⟨_, rfl⟩
  obtain ⟨w2, hw_w2⟩ : ∃ w2, w2 = World.alloc w1 (.cells #[.int .i64 p1, .int .i64 p2] 56) := ⟨_, rfl⟩
  replace h := h b2 hb_b2 w2 hw_w2
  refine LW.val hL rfl (Wants.free rfl) rfl (boxE hb_b2 hw_w2 (Vl.box (v := .agg #[.int .i64 p1, .int .i64 p2]) rfl)) ?_
  obtain ⟨b3, hb_b3⟩ : ∃ b3, b3 = World.size w2 := ⟨_, rfl⟩
  obtain ⟨w3, hw_w3⟩ : ∃ w3, w3 = World.alloc w2 (.cells #[.int .i64 0, .int .i64 0, .int .i64 0, .slice none 0 0, .slice none 0 0] 36) := ⟨_, rfl⟩
  replace h := h b3 hb_b3 w3 hw_w3
  refine LW.val hL rfl (Wants.free rfl) rfl (boxE hb_b3 hw_w3 (Vl.alloc (z := .agg #[.int .i64 0, .int .i64 0, .int .i64 0, .slice none 0 0, .slice none 0 0]) (by kernel_rfl))) ?_
  refine LW.nil hL rfl ?_
  refine NW.then ?_
  refine CW.seq ?_
  refine CW.region fun L hL => ?_
  refine LW.rd hL rfl (Wants.free rfl) rfl (Rd.assign (v := .slice none 0 0) rfl) ?_
  refine LW.nil hL rfl ?_
  refine NW.then ?_
  refine CW.seq ?_
  refine CW.region fun L hL => ?_
  refine LW.rd hL rfl (Wants.free rfl) rfl (Rd.move (v := .int .u32 set1) rfl) ?_
  refine LW.rd hL rfl (Wants.free rfl) rfl (Rd.bin (v := .bool (set1 == 0)) rfl rfl (fun w => by kernel_rfl)) ?_
  refine LW.rd hL rfl (Wants.free rfl) rfl (Rd.assign (v := .bool (set1 == 0)) rfl) ?_
  refine LW.nil hL rfl ?_
  refine NW.then ?_
  refine CW.seq ?_
  refine CW.seq ?_
  refine CW.region fun L hL => ?_
  refine LW.rd hL rfl (Wants.free rfl) rfl (Rd.assign (v := .int .i64 0) rfl) ?_
  refine LW.nil hL rfl ?_
  refine NW.then ?_
  refine CW.block ?_
  obtain ⟨I1, m1, hI1, h⟩ := h
  refine CW.loop (S := (Option Addr) × Nat × Nat × Bool × Int) (fun s1 => [(2, .int .u32 set1), (3, .pointer (some (⟨b1, 0, none⟩ : Addr))), (4, .pointer (some (⟨b2, 0, none⟩ : Addr))), (6, .pointer (some (⟨b3, 0, none⟩ : Addr))), (7, .slice s1.1 s1.2.1 s1.2.2.1), (8, .bool s1.2.2.2.1), (9, .int .i64 s1.2.2.2.2)]) I1 m1 (none, 0, 0, set1 == 0, 0) (by exact ⟨rfl, rfl, rfl, rfl, rfl, rfl, rfl, trivial⟩) hI1 (fun s1 w4 hI1 => ?_)
  replace h := h s1 w4 hI1
  refine CW.seq ?_
  refine CW.seq ?_
  refine CW.region fun L hL => ?_
  refine LW.rd hL rfl (Wants.free rfl) rfl (Rd.move (v := .int .i64 s1.2.2.2.2) rfl) ?_
  refine LW.rd hL rfl (Wants.free rfl) rfl (Rd.fa (v := .pointer (some (⟨b1, 4, none⟩ : Addr))) rfl (fun _ => by kernel_rfl)) ?_
  obtain ⟨t1, t1n, t1c, hc1, h⟩ := h
  refine LW.rd hL rfl (Wants.free rfl) rfl (Rd.ld (v := .slice t1 t1n t1c) rfl (by kernel_rfl) (eqs hc1)) ?_
  refine LW.rd hL rfl (Wants.free rfl) rfl (Rd.builtin (v := .int .i64 (t1n : Int)) rfl (fun _ _ => by kernel_rfl)) ?_
  refine LW.rd hL rfl (Wants.free rfl) rfl (Rd.bin (v := .bool (decide (s1.2.2.2.2 < (t1n : Int)))) rfl rfl (fun w => by kernel_rfl)) ?_
  refine LW.nil hL rfl ?_
  refine NW.then ?_
  refine CW.cond rfl (fun hb1 => ?_) (fun hb1 => ?_)
  · replace h := h.1 hb1
    refine CW.skip ?_
    refine NW.then ?_
    obtain ⟨J1, hJ1, h⟩ := h
    refine CW.cut (S := (Option Addr) × Nat × Nat × Bool) (fun s2 => [(2, .int .u32 set1), (3, .pointer (some (⟨b1, 0, none⟩ : Addr))), (4, .pointer (some (⟨b2, 0, none⟩ : Addr))), (6, .pointer (some (⟨b3, 0, none⟩ : Addr))), (9, .int .i64 s1.2.2.2.2), (7, .slice s2.1 s2.2.1 s2.2.2.1), (8, .bool s2.2.2.2)]) J1 (fun s2 w5 h_ => ?_) ?_
    · replace h := hJ1 s2 w5 h_; clear h_
      refine CW.region fun L hL => ?_
      refine LW.rd hL rfl (Wants.free rfl) rfl (Rd.move (v := .int .i64 s1.2.2.2.2) rfl) ?_
      refine LW.rd hL rfl (Wants.free rfl) rfl (Rd.bin (v := .int .i64 (IntKind.wrap .i64 (s1.2.2.2.2 + 1))) rfl rfl (fun w => by kernel_rfl)) ?_
      refine LW.rd hL rfl (Wants.free rfl) rfl (Rd.assign (v := .int .i64 (IntKind.wrap .i64 (s1.2.2.2.2 + 1))) rfl) ?_
      refine LW.nil hL rfl ?_
      exact NW.loop (S := (Option Addr) × Nat × Nat × Bool × Int) (Ek := fun s1 => [(2, .int .u32 set1), (3, .pointer (some (⟨b1, 0, none⟩ : Addr))), (4, .pointer (some (⟨b2, 0, none⟩ : Addr))), (6, .pointer (some (⟨b3, 0, none⟩ : Addr))), (7, .slice s1.1 s1.2.1 s1.2.2.1), (8, .bool s1.2.2.2.1), (9, .int .i64 s1.2.2.2.2)]) (s2.1, s2.2.1, s2.2.2.1, s2.2.2.2, IntKind.wrap .i64 (s1.2.2.2.2 + 1)) (by exact ⟨rfl, rfl, rfl, rfl, rfl, rfl, rfl, trivial⟩) h
    · skip
      refine CW.block ?_
      refine CW.seq ?_
      refine CW.region fun L hL => ?_
      refine LW.rd hL rfl (Wants.free rfl) rfl (Rd.fa (v := .pointer (some (⟨b1, 4, none⟩ : Addr))) rfl (fun _ => by kernel_rfl)) ?_
      obtain ⟨t2, t2n, t2c, hc2, h⟩ := h
      refine LW.rd hL rfl (Wants.free rfl) rfl (Rd.ld (v := .slice t2 t2n t2c) rfl (by kernel_rfl) (eqs hc2)) ?_
      refine LW.rd hL rfl (Wants.free rfl) rfl (Rd.move (v := .int .i64 s1.2.2.2.2) rfl) ?_
      obtain ⟨a1, he1, hi1, hi2, h⟩ := h
      refine LW.rd hL rfl (Wants.free rfl) rfl (Rd.iaS (q := a1) (sz := 3) (by rw [← he1]; rfl) rfl Try.underlying34 (by kernel_rfl) hi1 hi2) ?_
      obtain ⟨t3, t4, t5, hc3, h⟩ := h
      refine LW.rd hL rfl (Wants.free rfl) rfl (Rd.ldN (cs := [.int .i64 t3, .int .i64 t4, .int .u32 t5]) rfl (by kernel_rfl) (by kernel_rfl) (cellsS hc3)) ?_
      obtain ⟨b4, hb_b4⟩ : ∃ b4, b4 = World.size w4 := ⟨_, rfl⟩
      obtain ⟨w6, hw_w6⟩ : ∃ w6, w6 = World.alloc w4 (.cells #[.int .i64 0, .int .i64 0, .int .u32 0] 149) := ⟨_, rfl⟩
      replace h := h b4 hb_b4 w6 hw_w6
      refine LW.val hL rfl (Wants.free rfl) rfl (boxE hb_b4 hw_w6 (Vl.alloc (z := .agg #[.int .i64 0, .int .i64 0, .int .u32 0]) (by kernel_rfl))) ?_
      obtain ⟨ho1, hf1, h⟩ := h
      obtain ⟨w7, hw_w7⟩ : ∃ w7, w7 = setCells w6 (⟨b4, 0, none⟩ : Addr) 0 [.int .i64 t3, .int .i64 t4, .int .u32 t5] := ⟨_, rfl⟩
      replace h := h w7 hw_w7
      refine LW.eff hL rfl (Wants.free rfl) rfl (stNE hw_w7 (Ef.stN (cs := [.int .i64 t3, .int .i64 t4, .int .u32 t5]) rfl rfl (by kernel_rfl) (List.forall_mem_cons.2 ⟨rfl, (List.forall_mem_cons.2 ⟨rfl, (List.forall_mem_cons.2 ⟨rfl, (List.forall_mem_nil _)⟩)⟩)⟩) ho1 hf1)) ?_
      refine LW.nil hL rfl ?_
      refine NW.then ?_
      obtain ⟨J2, hJ2, h⟩ := h
      refine CW.cut (S := (Option Addr) × Nat × Nat × Bool) (fun s3 => [(2, .int .u32 set1), (3, .pointer (some (⟨b1, 0, none⟩ : Addr))), (4, .pointer (some (⟨b2, 0, none⟩ : Addr))), (6, .pointer (some (⟨b3, 0, none⟩ : Addr))), (9, .int .i64 s1.2.2.2.2), (10, .pointer (some (⟨b4, 0, none⟩ : Addr))), (7, .slice s3.1 s3.2.1 s3.2.2.1), (8, .bool s3.2.2.2)]) J2 (fun s3 w8 h_ => ?_) ?_
      · replace h := hJ2 s3 w8 h_; clear h_
        obtain ⟨J3, hJ3, h⟩ := h
        refine CW.cut (S := (Option Addr) × Nat × Nat) (fun s4 => [(2, .int .u32 set1), (3, .pointer (some (⟨b1, 0, none⟩ : Addr))), (4, .pointer (some (⟨b2, 0, none⟩ : Addr))), (6, .pointer (some (⟨b3, 0, none⟩ : Addr))), (8, .bool s3.2.2.2), (9, .int .i64 s1.2.2.2.2), (10, .pointer (some (⟨b4, 0, none⟩ : Addr))), (7, .slice s4.1 s4.2.1 s4.2.2)]) J3 (fun s4 w9 h_ => ?_) ?_
        · replace h := hJ3 s4 w9 h_; clear h_
          refine CW.seq ?_
          refine CW.region fun L hL => ?_
          refine LW.rd hL rfl (Wants.free rfl) rfl (Rd.fa (v := .pointer (some (⟨b4, 0, none⟩ : Addr))) rfl (fun _ => by kernel_rfl)) ?_
          obtain ⟨t6, t7, hc4, h⟩ := h
          refine LW.rd hL rfl (Wants.free rfl) rfl (Rd.ldN (cs := [.int .i64 t6, .int .i64 t7]) rfl (by kernel_rfl) (by kernel_rfl) (cellsS hc4)) ?_
          obtain ⟨t8, t9, hc5, h⟩ := h
          refine LW.rd hL rfl (Wants.free rfl) rfl (Rd.ldN (cs := [.int .i64 t8, .int .i64 t9]) rfl (by kernel_rfl) (by kernel_rfl) (cellsS hc5)) ?_
          refine LW.rd hL rfl (Wants.free rfl) rfl (Rd.bin (v := .bool ((t6 == t8) && (t7 == t9))) rfl rfl (fun w => eqS_56 _ _ _ _ w)) ?_
          refine LW.rd hL rfl (Wants.free rfl) rfl (Rd.move (v := .bool ((t6 == t8) && (t7 == t9))) rfl) ?_
          suffices K1 : L 8 [(2, .int .u32 set1), (3, .pointer (some (⟨b1, 0, none⟩ : Addr))), (4, .pointer (some (⟨b2, 0, none⟩ : Addr))), (6, .pointer (some (⟨b3, 0, none⟩ : Addr))), (7, .slice s4.1 s4.2.1 s4.2.2), (8, .bool s3.2.2.2), (9, .int .i64 s1.2.2.2.2), (54, .bool ((t6 == t8) && (t7 == t9) && !s3.2.2.2))] w9 by
            rcases Bool.eq_false_or_eq_true ((t6 == t8) && (t7 == t9)) with hb3 | hb3
            · skip
              refine LW.rd hL rfl (Wants.on rfl rfl rfl rfl rfl hb3) rfl (Rd.move (v := .bool s3.2.2.2) rfl) ?_
              refine LW.rd hL rfl (Wants.on rfl rfl rfl rfl rfl hb3) rfl (Rd.un (v := .bool (!s3.2.2.2)) rfl (fun _ => by kernel_rfl)) ?_
              refine LW.rd hL rfl (Wants.free rfl) rfl (Rd.pickT rfl hb3 rfl) ?_
              exact LW.sub hL (by exact ⟨rfl, rfl, rfl, rfl, rfl, rfl, rfl, (by rw [hb3]; rfl), trivial⟩) K1
            · skip
              refine LW.skip hL rfl (Skips.on rfl rfl rfl rfl rfl hb3) rfl ?_
              refine LW.skip hL rfl (Skips.on rfl rfl rfl rfl rfl hb3) rfl ?_
              refine LW.rd hL rfl (Wants.free rfl) rfl (Rd.pickF rfl hb3 rfl) ?_
              exact LW.sub hL (by exact ⟨rfl, rfl, rfl, rfl, rfl, rfl, rfl, (by rw [hb3]; rfl), trivial⟩) K1
          refine LW.nil hL rfl ?_
          refine NW.then ?_
          refine CW.cond rfl (fun hb4 => ?_) (fun hb4 => ?_)
          · replace h := h.1 hb4
            refine CW.seq ?_
            refine CW.region fun L hL => ?_
            refine LW.rd hL rfl (Wants.free rfl) rfl (Rd.move (v := .slice s4.1 s4.2.1 s4.2.2) rfl) ?_
            obtain ⟨t10, t11, hc6, h⟩ := h
            refine LW.rd hL rfl (Wants.free rfl) rfl (Rd.ldN (cs := [.int .i64 t10, .int .i64 t11]) rfl (by kernel_rfl) (by kernel_rfl) (cellsS hc6)) ?_
            refine LW.rd hL rfl (Wants.free rfl) rfl (Rd.move (v := .int .u32 set1) rfl) ?_
            refine LW.rd hL rfl (Wants.free rfl) rfl (Rd.build (v := .agg #[.int .i64 t10, .int .i64 t11, .int .u32 set1]) rfl (fun _ => by kernel_rfl)) ?_
            obtain ⟨b5, hb_b5⟩ : ∃ b5, b5 = World.size w9 := ⟨_, rfl⟩
            obtain ⟨w10, hw_w10⟩ : ∃ w10, w10 = World.alloc w9 (.cells #[.int .i64 t10, .int .i64 t11, .int .u32 set1] 149) := ⟨_, rfl⟩
            replace h := h b5 hb_b5 w10 hw_w10
            refine LW.val hL rfl (Wants.free rfl) rfl (sliceE (n := 1) hb_b5 hw_w10 (fun w => Vl.buildSlice (vs := [(0, .agg #[.int .i64 t10, .int .i64 t11, .int .u32 set1])]) rfl (by kernel_rfl))) ?_
            obtain ⟨l1, l1n, l1c, w11, ha1, h⟩ := h
            refine LW.val hL rfl (Wants.free rfl) rfl (Vl.builtin (v := .slice l1 l1n l1c) rfl (valB ha1)) ?_
            refine LW.rd hL rfl (Wants.free rfl) rfl (Rd.assign (v := .slice l1 l1n l1c) rfl) ?_
            refine LW.nil hL rfl ?_
            refine NW.then ?_
            refine CW.region fun L hL => ?_
            refine LW.rd hL rfl (Wants.free rfl) rfl (Rd.assign (v := .bool true) rfl) ?_
            refine LW.nil hL rfl ?_
            refine NW.block ?_
            exact NW.cut (S := (Option Addr) × Nat × Nat × Bool) (Ek := fun s2 => [(2, .int .u32 set1), (3, .pointer (some (⟨b1, 0, none⟩ : Addr))), (4, .pointer (some (⟨b2, 0, none⟩ : Addr))), (6, .pointer (some (⟨b3, 0, none⟩ : Addr))), (9, .int .i64 s1.2.2.2.2), (7, .slice s2.1 s2.2.1 s2.2.2.1), (8, .bool s2.2.2.2)]) (l1, l1n, l1c, true) (by exact ⟨rfl, rfl, rfl, rfl, rfl, rfl, rfl, trivial⟩) h
          · replace h := h.2 hb4
            refine CW.skip ?_
            refine NW.block ?_
            exact NW.cut (S := (Option Addr) × Nat × Nat × Bool) (Ek := fun s2 => [(2, .int .u32 set1), (3, .pointer (some (⟨b1, 0, none⟩ : Addr))), (4, .pointer (some (⟨b2, 0, none⟩ : Addr))), (6, .pointer (some (⟨b3, 0, none⟩ : Addr))), (9, .int .i64 s1.2.2.2.2), (7, .slice s2.1 s2.2.1 s2.2.2.1), (8, .bool s2.2.2.2)]) (s4.1, s4.2.1, s4.2.2, s3.2.2.2) (by exact ⟨rfl, rfl, rfl, rfl, rfl, rfl, rfl, trivial⟩) h
        · skip
          refine CW.seq ?_
          refine CW.region fun L hL => ?_
          refine LW.rd hL rfl (Wants.free rfl) rfl (Rd.fa (v := .pointer (some (⟨b4, 0, none⟩ : Addr))) rfl (fun _ => by kernel_rfl)) ?_
          obtain ⟨t12, t13, hc7, h⟩ := h
          refine LW.rd hL rfl (Wants.free rfl) rfl (Rd.ldN (cs := [.int .i64 t12, .int .i64 t13]) rfl (by kernel_rfl) (by kernel_rfl) (cellsS hc7)) ?_
          obtain ⟨t14, t15, hc8, h⟩ := h
          refine LW.rd hL rfl (Wants.free rfl) rfl (Rd.ldN (cs := [.int .i64 t14, .int .i64 t15]) rfl (by kernel_rfl) (by kernel_rfl) (cellsS hc8)) ?_
          refine LW.rd hL rfl (Wants.free rfl) rfl (Rd.bin (v := .bool (!((t12 == t14) && (t13 == t15)))) rfl rfl (fun w => neS_56 _ _ _ _ w)) ?_
          refine LW.nil hL rfl ?_
          refine NW.then ?_
          refine CW.cond rfl (fun hb5 => ?_) (fun hb5 => ?_)
          · replace h := h.1 hb5
            refine CW.region fun L hL => ?_
            refine LW.rd hL rfl (Wants.free rfl) rfl (Rd.move (v := .slice s3.1 s3.2.1 s3.2.2.1) rfl) ?_
            obtain ⟨t16, t17, t18, hc9, h⟩ := h
            refine LW.rd hL rfl (Wants.free rfl) rfl (Rd.ldN (cs := [.int .i64 t16, .int .i64 t17, .int .u32 t18]) rfl (by kernel_rfl) (by kernel_rfl) (cellsS hc9)) ?_
            obtain ⟨b6, hb_b6⟩ : ∃ b6, b6 = World.size w8 := ⟨_, rfl⟩
            obtain ⟨w12, hw_w12⟩ : ∃ w12, w12 = World.alloc w8 (.cells #[.int .i64 t16, .int .i64 t17, .int .u32 t18] 149) := ⟨_, rfl⟩
            replace h := h b6 hb_b6 w12 hw_w12
            refine LW.val hL rfl (Wants.free rfl) rfl (sliceE (n := 1) hb_b6 hw_w12 (fun w => Vl.buildSlice (vs := [(0, .agg #[.int .i64 t16, .int .i64 t17, .int .u32 t18])]) rfl (by kernel_rfl))) ?_
            obtain ⟨l2, l2n, l2c, w13, ha2, h⟩ := h
            refine LW.val hL rfl (Wants.free rfl) rfl (Vl.builtin (v := .slice l2 l2n l2c) rfl (valB ha2)) ?_
            refine LW.rd hL rfl (Wants.free rfl) rfl (Rd.assign (v := .slice l2 l2n l2c) rfl) ?_
            refine LW.nil hL rfl ?_
            exact NW.cut (S := (Option Addr) × Nat × Nat) (Ek := fun s4 => [(2, .int .u32 set1), (3, .pointer (some (⟨b1, 0, none⟩ : Addr))), (4, .pointer (some (⟨b2, 0, none⟩ : Addr))), (6, .pointer (some (⟨b3, 0, none⟩ : Addr))), (8, .bool s3.2.2.2), (9, .int .i64 s1.2.2.2.2), (10, .pointer (some (⟨b4, 0, none⟩ : Addr))), (7, .slice s4.1 s4.2.1 s4.2.2)]) (l2, l2n, l2c) (by exact ⟨rfl, rfl, rfl, rfl, rfl, rfl, rfl, rfl, trivial⟩) h
          · replace h := h.2 hb5
            refine CW.skip ?_
            exact NW.cut (S := (Option Addr) × Nat × Nat) (Ek := fun s4 => [(2, .int .u32 set1), (3, .pointer (some (⟨b1, 0, none⟩ : Addr))), (4, .pointer (some (⟨b2, 0, none⟩ : Addr))), (6, .pointer (some (⟨b3, 0, none⟩ : Addr))), (8, .bool s3.2.2.2), (9, .int .i64 s1.2.2.2.2), (10, .pointer (some (⟨b4, 0, none⟩ : Addr))), (7, .slice s4.1 s4.2.1 s4.2.2)]) (s3.1, s3.2.1, s3.2.2.1) (by exact ⟨rfl, rfl, rfl, rfl, rfl, rfl, rfl, rfl, trivial⟩) h
      · skip
        refine CW.seq ?_
        refine CW.region fun L hL => ?_
        refine LW.rd hL rfl (Wants.free rfl) rfl (Rd.move (v := .bool s1.2.2.2.1) rfl) ?_
        refine LW.rd hL rfl (Wants.free rfl) rfl (Rd.un (v := .bool (!s1.2.2.2.1)) rfl (fun _ => by kernel_rfl)) ?_
        refine LW.rd hL rfl (Wants.free rfl) rfl (Rd.move (v := .bool (!s1.2.2.2.1)) rfl) ?_
        obtain ⟨J4, hJ4, h1_J4, h0_J4⟩ := h
        suffices K2 : ∀ (b7 : Bool) (w14 : World), J4 b7 w14 → L 8 [(2, .int .u32 set1), (3, .pointer (some (⟨b1, 0, none⟩ : Addr))), (4, .pointer (some (⟨b2, 0, none⟩ : Addr))), (6, .pointer (some (⟨b3, 0, none⟩ : Addr))), (7, .slice s1.1 s1.2.1 s1.2.2.1), (8, .bool s1.2.2.2.1), (9, .int .i64 s1.2.2.2.2), (10, .pointer (some (⟨b4, 0, none⟩ : Addr))), (32, .bool b7)] w14 by
          rcases Bool.eq_false_or_eq_true (!s1.2.2.2.1) with hb6 | hb6
          · have h := h1_J4 hb6
            obtain ⟨t19, t20, hc10, h⟩ := h
            refine LW.rd hL rfl (Wants.on rfl rfl rfl rfl rfl hb6) rfl (Rd.ldN (cs := [.int .i64 t19, .int .i64 t20]) rfl (by kernel_rfl) (by kernel_rfl) (cellsS hc10)) ?_
            refine LW.rd hL rfl (Wants.on rfl rfl rfl rfl rfl hb6) rfl (Rd.fa (v := .pointer (some (⟨b4, 0, none⟩ : Addr))) rfl (fun _ => by kernel_rfl)) ?_
            obtain ⟨t21, t22, hc11, h⟩ := h
            refine LW.rd hL rfl (Wants.on rfl rfl rfl rfl rfl hb6) rfl (Rd.ldN (cs := [.int .i64 t21, .int .i64 t22]) rfl (by kernel_rfl) (by kernel_rfl) (cellsS hc11)) ?_
            refine LW.call hL rfl (Wants.on rfl rfl rfl rfl rfl hb6) rfl (Cl.fn (f := 125) rfl Try.func125 (by kernel_rfl) rfl) h (fun e w15 h_ => ?_)
            clear h
            obtain ⟨r6, rfl, h⟩ := h_
            refine ⟨_, rfl, ?_⟩
            refine LW.rd hL rfl (Wants.free rfl) rfl (Rd.pickT rfl hb6 rfl) ?_
            exact LW.sub hL (by exact ⟨rfl, rfl, rfl, rfl, rfl, rfl, rfl, rfl, rfl, trivial⟩) (K2 r6 w15 h)
          · have h := h0_J4 hb6
            refine LW.skip hL rfl (Skips.on rfl rfl rfl rfl rfl hb6) rfl ?_
            refine LW.skip hL rfl (Skips.on rfl rfl rfl rfl rfl hb6) rfl ?_
            refine LW.skip hL rfl (Skips.on rfl rfl rfl rfl rfl hb6) rfl ?_
            refine LW.skip hL rfl (Skips.on rfl rfl rfl rfl rfl hb6) rfl ?_
            refine LW.rd hL rfl (Wants.free rfl) rfl (Rd.pickF rfl hb6 rfl) ?_
            exact LW.sub hL (by exact ⟨rfl, rfl, rfl, rfl, rfl, rfl, rfl, rfl, rfl, trivial⟩) (K2 false w7 h)
        intro b7 w14 h_
        have h := hJ4 b7 w14 h_; clear h_
        refine LW.nil hL rfl ?_
        refine NW.then ?_
        refine CW.cond rfl (fun hb7 => ?_) (fun hb7 => ?_)
        · replace h := h.1 hb7
          refine CW.seq ?_
          refine CW.region fun L hL => ?_
          refine LW.rd hL rfl (Wants.free rfl) rfl (Rd.move (v := .slice s1.1 s1.2.1 s1.2.2.1) rfl) ?_
          obtain ⟨t23, t24, hc12, h⟩ := h
          refine LW.rd hL rfl (Wants.free rfl) rfl (Rd.ldN (cs := [.int .i64 t23, .int .i64 t24]) rfl (by kernel_rfl) (by kernel_rfl) (cellsS hc12)) ?_
          refine LW.rd hL rfl (Wants.free rfl) rfl (Rd.move (v := .int .u32 set1) rfl) ?_
          refine LW.rd hL rfl (Wants.free rfl) rfl (Rd.build (v := .agg #[.int .i64 t23, .int .i64 t24, .int .u32 set1]) rfl (fun _ => by kernel_rfl)) ?_
          obtain ⟨b8, hb_b8⟩ : ∃ b8, b8 = World.size w14 := ⟨_, rfl⟩
          obtain ⟨w16, hw_w16⟩ : ∃ w16, w16 = World.alloc w14 (.cells #[.int .i64 t23, .int .i64 t24, .int .u32 set1] 149) := ⟨_, rfl⟩
          replace h := h b8 hb_b8 w16 hw_w16
          refine LW.val hL rfl (Wants.free rfl) rfl (sliceE (n := 1) hb_b8 hw_w16 (fun w => Vl.buildSlice (vs := [(0, .agg #[.int .i64 t23, .int .i64 t24, .int .u32 set1])]) rfl (by kernel_rfl))) ?_
          obtain ⟨l3, l3n, l3c, w17, ha3, h⟩ := h
          refine LW.val hL rfl (Wants.free rfl) rfl (Vl.builtin (v := .slice l3 l3n l3c) rfl (valB ha3)) ?_
          refine LW.rd hL rfl (Wants.free rfl) rfl (Rd.assign (v := .slice l3 l3n l3c) rfl) ?_
          refine LW.nil hL rfl ?_
          refine NW.then ?_
          refine CW.region fun L hL => ?_
          refine LW.rd hL rfl (Wants.free rfl) rfl (Rd.assign (v := .bool true) rfl) ?_
          refine LW.nil hL rfl ?_
          exact NW.cut (S := (Option Addr) × Nat × Nat × Bool) (Ek := fun s3 => [(2, .int .u32 set1), (3, .pointer (some (⟨b1, 0, none⟩ : Addr))), (4, .pointer (some (⟨b2, 0, none⟩ : Addr))), (6, .pointer (some (⟨b3, 0, none⟩ : Addr))), (9, .int .i64 s1.2.2.2.2), (10, .pointer (some (⟨b4, 0, none⟩ : Addr))), (7, .slice s3.1 s3.2.1 s3.2.2.1), (8, .bool s3.2.2.2)]) (l3, l3n, l3c, true) (by exact ⟨rfl, rfl, rfl, rfl, rfl, rfl, rfl, rfl, trivial⟩) h
        · replace h := h.2 hb7
          refine CW.skip ?_
          exact NW.cut (S := (Option Addr) × Nat × Nat × Bool) (Ek := fun s3 => [(2, .int .u32 set1), (3, .pointer (some (⟨b1, 0, none⟩ : Addr))), (4, .pointer (some (⟨b2, 0, none⟩ : Addr))), (6, .pointer (some (⟨b3, 0, none⟩ : Addr))), (9, .int .i64 s1.2.2.2.2), (10, .pointer (some (⟨b4, 0, none⟩ : Addr))), (7, .slice s3.1 s3.2.1 s3.2.2.1), (8, .bool s3.2.2.2)]) (s1.1, s1.2.1, s1.2.2.1, s1.2.2.2.1) (by exact ⟨rfl, rfl, rfl, rfl, rfl, rfl, rfl, rfl, trivial⟩) h
  · replace h := h.2 hb1
    refine CW.exit ?_
    refine XW.then ?_
    refine XW.then ?_
    refine XW.hit ?_
    refine NW.then ?_
    obtain ⟨J5, hJ5, h⟩ := h
    refine CW.cut (S := (Option Addr) × Nat × Nat) (fun s5 => [(3, .pointer (some (⟨b1, 0, none⟩ : Addr))), (6, .pointer (some (⟨b3, 0, none⟩ : Addr))), (7, .slice s5.1 s5.2.1 s5.2.2)]) J5 (fun s5 w18 h_ => ?_) ?_
    · replace h := hJ5 s5 w18 h_; clear h_
      refine CW.seq ?_
      refine CW.region fun L hL => ?_
      refine LW.rd hL rfl (Wants.free rfl) rfl (Rd.move (v := .slice s5.1 s5.2.1 s5.2.2) rfl) ?_
      refine LW.rd hL rfl (Wants.free rfl) rfl (Rd.fa (v := .pointer (some (⟨b1, 4, none⟩ : Addr))) rfl (fun _ => by kernel_rfl)) ?_
      obtain ⟨⟨o_w19, ho2⟩, hf2, h⟩ := h
      obtain ⟨w19, hw_w19⟩ : ∃ w19, w19 = World.setCell w18 (⟨b1, 4, none⟩ : Addr) (.slice s5.1 s5.2.1 s5.2.2) := ⟨_, rfl⟩
      replace h := h w19 hw_w19
      refine LW.eff hL rfl (Wants.free rfl) rfl (stE hw_w19 (Ef.st rfl rfl rfl (by kernel_rfl) ho2 hf2)) ?_
      refine LW.nil hL rfl ?_
      refine NW.then ?_
      refine CW.seq ?_
      refine CW.region fun L hL => ?_
      obtain ⟨t25, t26, t27, t28, t28n, t28c, t29, t29n, t29c, hc13, h⟩ := h
      refine LW.rd hL rfl (Wants.free rfl) rfl (Rd.ldN (cs := [.int .i64 t25, .int .i64 t26, .int .i64 t27, .slice t28 t28n t28c, .slice t29 t29n t29c]) rfl (by kernel_rfl) (by kernel_rfl) (cellsS hc13)) ?_
      obtain ⟨ho3, hf3, h⟩ := h
      obtain ⟨w20, hw_w20⟩ : ∃ w20, w20 = setCells w19 (⟨b3, 0, none⟩ : Addr) 0 [.int .i64 t25, .int .i64 t26, .int .i64 t27, .slice t28 t28n t28c, .slice t29 t29n t29c] := ⟨_, rfl⟩
      replace h := h w20 hw_w20
      refine LW.eff hL rfl (Wants.free rfl) rfl (stNE hw_w20 (Ef.stN (cs := [.int .i64 t25, .int .i64 t26, .int .i64 t27, .slice t28 t28n t28c, .slice t29 t29n t29c]) rfl rfl (by kernel_rfl) (List.forall_mem_cons.2 ⟨rfl, (List.forall_mem_cons.2 ⟨rfl, (List.forall_mem_cons.2 ⟨rfl, (List.forall_mem_cons.2 ⟨rfl, (List.forall_mem_cons.2 ⟨rfl, (List.forall_mem_nil _)⟩)⟩)⟩)⟩)⟩) ho3 hf3)) ?_
      refine LW.nil hL rfl ?_
      refine NW.then ?_
      refine CW.ret ?_
      obtain ⟨r7, r8, r9, r10, r10n, r10c, r11, r11n, r11c, hr1, h⟩ := h
      exact resN (vs := [.agg #[.int .i64 r7, .int .i64 r8, .int .i64 r9, .slice r10 r10n r10c, .slice r11 r11n r11c]]) (ResOK.c rfl (lvN (cs := [.int .i64 r7, .int .i64 r8, .int .i64 r9, .slice r10 r10n r10c, .slice r11 r11n r11c]) (by kernel_rfl) (by kernel_rfl) (cellsAt_get hr1)) ResOK.nil) rfl ⟨r7, r8, r9, r10, r10n, r10c, r11, r11n, r11c, rfl, h⟩
    · skip
      refine CW.seq ?_
      refine CW.region fun L hL => ?_
      refine LW.rd hL rfl (Wants.free rfl) rfl (Rd.move (v := .bool s1.2.2.2.1) rfl) ?_
      refine LW.rd hL rfl (Wants.free rfl) rfl (Rd.un (v := .bool (!s1.2.2.2.1)) rfl (fun _ => by kernel_rfl)) ?_
      refine LW.nil hL rfl ?_
      refine NW.then ?_
      refine CW.cond rfl (fun hb8 => ?_) (fun hb8 => ?_)
      · replace h := h.1 hb8
        refine CW.region fun L hL => ?_
        refine LW.rd hL rfl (Wants.free rfl) rfl (Rd.move (v := .slice s1.1 s1.2.1 s1.2.2.1) rfl) ?_
        obtain ⟨t30, t31, hc14, h⟩ := h
        refine LW.rd hL rfl (Wants.free rfl) rfl (Rd.ldN (cs := [.int .i64 t30, .int .i64 t31]) rfl (by kernel_rfl) (by kernel_rfl) (cellsS hc14)) ?_
        refine LW.rd hL rfl (Wants.free rfl) rfl (Rd.move (v := .int .u32 set1) rfl) ?_
        refine LW.rd hL rfl (Wants.free rfl) rfl (Rd.build (v := .agg #[.int .i64 t30, .int .i64 t31, .int .u32 set1]) rfl (fun _ => by kernel_rfl)) ?_
        obtain ⟨b9, hb_b9⟩ : ∃ b9, b9 = World.size w4 := ⟨_, rfl⟩
        obtain ⟨w21, hw_w21⟩ : ∃ w21, w21 = World.alloc w4 (.cells #[.int .i64 t30, .int .i64 t31, .int .u32 set1] 149) := ⟨_, rfl⟩
        replace h := h b9 hb_b9 w21 hw_w21
        refine LW.val hL rfl (Wants.free rfl) rfl (sliceE (n := 1) hb_b9 hw_w21 (fun w => Vl.buildSlice (vs := [(0, .agg #[.int .i64 t30, .int .i64 t31, .int .u32 set1])]) rfl (by kernel_rfl))) ?_
        obtain ⟨l4, l4n, l4c, w22, ha4, h⟩ := h
        refine LW.val hL rfl (Wants.free rfl) rfl (Vl.builtin (v := .slice l4 l4n l4c) rfl (valB ha4)) ?_
        refine LW.rd hL rfl (Wants.free rfl) rfl (Rd.assign (v := .slice l4 l4n l4c) rfl) ?_
        refine LW.nil hL rfl ?_
        exact NW.cut (S := (Option Addr) × Nat × Nat) (Ek := fun s5 => [(3, .pointer (some (⟨b1, 0, none⟩ : Addr))), (6, .pointer (some (⟨b3, 0, none⟩ : Addr))), (7, .slice s5.1 s5.2.1 s5.2.2)]) (l4, l4n, l4c) (by exact ⟨rfl, rfl, rfl, trivial⟩) h
      · replace h := h.2 hb8
        refine CW.skip ?_
        exact NW.cut (S := (Option Addr) × Nat × Nat) (Ek := fun s5 => [(3, .pointer (some (⟨b1, 0, none⟩ : Addr))), (6, .pointer (some (⟨b3, 0, none⟩ : Addr))), (7, .slice s5.1 s5.2.1 s5.2.2)]) (s1.1, s1.2.1, s1.2.2.1) (by exact ⟨rfl, rfl, rfl, trivial⟩) h

/- (*pomander/flow.Flow).bounds -/
def V_flow_Flow_bounds (f1 : Option Addr) (w : World) (R : Value → Value → Value → Value → Value → Value → Value → Value → Value → Value → Value → Value → Value → Value → Value → Value → Value → Value → World → Prop) : Prop :=
  ∀ b1 : Nat, b1 = World.size w → ∀ w1 : World, w1 = World.alloc w (.cells #[.pointer f1] 28) → (∀ b2 : Nat, b2 = World.size w1 → ∀ w2 : World, w2 = World.alloc w1 (.cells #[.nilFunc, .nilFunc, .nilFunc, .nilFunc, .nilFunc, .nilFunc, .nilFunc, .nilFunc, .nilFunc, .nilFunc, .nilFunc, .nilFunc, .nilFunc, .nilFunc, .nilFunc, .nilFunc, .nilFunc, .nilFunc] 202) → (∀ b3 : Nat, b3 = World.size w2 → ∀ w3 : World, w3 = World.alloc w2 (.cells #[.nilFunc, .nilFunc, .nilFunc, .nilFunc, .nilFunc, .nilFunc, .nilFunc, .nilFunc, .nilFunc, .nilFunc, .nilFunc, .nilFunc, .nilFunc, .nilFunc, .nilFunc, .nilFunc, .nilFunc, .nilFunc] 202) → (Has w3 (⟨b3, 0, none⟩ : Addr) 18 ∧ Free w3 (⟨b3, 0, none⟩ : Addr) 18 ∧ ∀ w4 : World, w4 = setCells w3 (⟨b3, 0, none⟩ : Addr) 0 [.nilFunc, .func (.func 129) #[] #[], .nilFunc, .nilFunc, .nilFunc, .nilFunc, .nilFunc, .nilFunc, .nilFunc, .nilFunc, .func (.func 132) #[] #[.pointer (some (⟨b1, 0, none⟩ : Addr))], .func (.func 130) #[] #[], .func (.func 133) #[] #[.pointer (some (⟨b1, 0, none⟩ : Addr))], .func (.func 128) #[] #[], .func (.func 128) #[] #[], .func (.func 128) #[] #[], .func (.func 128) #[] #[], .func (.func 131) #[] #[]] → (∃ (I1 : Int → World → Prop) (m1 : Int → World → Nat), I1 2 w4 ∧ ∀ (s1 : Int) (w5 : World), I1 s1 w5 → ((decide (s1 ≤ 9)) = true → (0 : Int) ≤ s1 ∧ (s1 : Int) < 18 ∧ ((∃ o : Value, w5.cell? ((⟨b3, 0, none⟩ : Addr).add (Int.toNat s1 * 1)) = some o) ∧ w5.frozen? ((⟨b3, 0, none⟩ : Addr).add (Int.toNat s1 * 1)) = false ∧ ∀ w6 : World, w6 = World.setCell w5 ((⟨b3, 0, none⟩ : Addr).add (Int.toNat s1 * 1)) (.func (.func 127) #[] #[]) → ((I1 (IntKind.wrap .i64 (s1 + 1)) w6 ∧ m1 (IntKind.wrap .i64 (s1 + 1)) w6 < m1 s1 w5)))) ∧ ((decide (s1 ≤ 9)) = false → ∃ (t1 : Value) (t2 : Value) (t3 : Value) (t4 : Value) (t5 : Value) (t6 : Value) (t7 : Value) (t8 : Value) (t9 : Value) (t10 : Value) (t11 : Value) (t12 : Value) (t13 : Value) (t14 : Value) (t15 : Value) (t16 : Value) (t17 : Value) (t18 : Value), CellsAt w5 (⟨b3, 0, none⟩ : Addr) 0 [t1, t2, t3, t4, t5, t6, t7, t8, t9, t10, t11, t12, t13, t14, t15, t16, t17, t18] ∧ (Value.oneCell' t1 = true ∧ Value.oneCell' t2 = true ∧ Value.oneCell' t3 = true ∧ Value.oneCell' t4 = true ∧ Value.oneCell' t5 = true ∧ Value.oneCell' t6 = true ∧ Value.oneCell' t7 = true ∧ Value.oneCell' t8 = true ∧ Value.oneCell' t9 = true ∧ Value.oneCell' t10 = true ∧ Value.oneCell' t11 = true ∧ Value.oneCell' t12 = true ∧ Value.oneCell' t13 = true ∧ Value.oneCell' t14 = true ∧ Value.oneCell' t15 = true ∧ Value.oneCell' t16 = true ∧ Value.oneCell' t17 = true ∧ Value.oneCell' t18 = true ∧ Has w5 (⟨b2, 0, none⟩ : Addr) 18 ∧ Free w5 (⟨b2, 0, none⟩ : Addr) 18 ∧ ∀ w7 : World, w7 = setCells w5 (⟨b2, 0, none⟩ : Addr) 0 [t1, t2, t3, t4, t5, t6, t7, t8, t9, t10, t11, t12, t13, t14, t15, t16, t17, t18] → (∃ (r19 : Value) (r20 : Value) (r21 : Value) (r22 : Value) (r23 : Value) (r24 : Value) (r25 : Value) (r26 : Value) (r27 : Value) (r28 : Value) (r29 : Value) (r30 : Value) (r31 : Value) (r32 : Value) (r33 : Value) (r34 : Value) (r35 : Value) (r36 : Value), CellsAt w7 (⟨b2, 0, none⟩ : Addr) 0 [r19, r20, r21, r22, r23, r24, r25, r26, r27, r28, r29, r30, r31, r32, r33, r34, r35, r36] ∧ R r19 r20 r21 r22 r23 r24 r25 r26 r27 r28 r29 r30 r31 r32 r33 r34 r35 r36 w7)))))))
set_option maxRecDepth 100000 in
theorem ok_flow_Flow_bounds (f1 : Option Addr) (w : World) (R : Value → Value → Value → Value → Value → Value → Value → Value → Value → Value → Value → Value → Value → Value → Value → Value → Value → Value → World → Prop) (h : V_flow_Flow_bounds f1 w R) : Calls Try.prog 108 #[.pointer f1] w (fun e w' => ∃ (r1 : Value) (r2 : Value) (r3 : Value) (r4 : Value) (r5 : Value) (r6 : Value) (r7 : Value) (r8 : Value) (r9 : Value) (r10 : Value) (r11 : Value) (r12 : Value) (r13 : Value) (r14 : Value) (r15 : Value) (r16 : Value) (r17 : Value) (r18 : Value), e = .returned (.agg #[r1, r2, r3, r4, r5, r6, r7, r8, r9, r10, r11, r12, r13, r14, r15, r16, r17, r18]) ∧ R r1 r2 r3 r4 r5 r6 r7 r8 r9 r10 r11 r12 r13 r14 r15 r16 r17 r18 w') := by
  unfold V_flow_Flow_bounds at h
  refine enter (N := 22) Try.func108 rfl rfl ?_
  refine CW.seq ?_
  refine CW.region fun L hL => ?_
  obtain ⟨b1, hb_b1⟩ : ∃ b1, b1 = World.size w := ⟨_, rfl⟩
  obtain ⟨w1, hw_w1⟩ : ∃ w1, w1 = World.alloc w (.cells #[.pointer f1] 28) := ⟨_, rfl⟩
  replace h := h b1 hb_b1 w1 hw_w1
  refine LW.val hL rfl (Wants.free rfl) rfl (boxE hb_b1 hw_w1 (Vl.box (v := .pointer f1) rfl)) ?_
  obtain ⟨b2, hb_b2⟩ : ∃ b2, b2 = World.size w1 := ⟨_, rfl⟩
  obtain ⟨w2, hw_w2⟩ : ∃ w2, w2 = World.alloc w1 (.cells #[.nilFunc, .nilFunc, .nilFunc, .nilFunc, .nilFunc, .nilFunc, .nilFunc, .nilFunc, .nilFunc, .nilFunc, .nilFunc, .nilFunc, .nilFunc, .nilFunc, .nilFunc, .nilFunc, .nilFunc, .nilFunc] 202) := ⟨_, rfl⟩
  replace h := h b2 hb_b2 w2 hw_w2
  refine LW.val hL rfl (Wants.free rfl) rfl (boxE hb_b2 hw_w2 (Vl.alloc (z := .agg #[.nilFunc, .nilFunc, .nilFunc, .nilFunc, .nilFunc, .nilFunc, .nilFunc, .nilFunc, .nilFunc, .nilFunc, .nilFunc, .nilFunc, .nilFunc, .nilFunc, .nilFunc, .nilFunc, .nilFunc, .nilFunc]) (by kernel_rfl))) ?_
  refine LW.nil hL rfl ?_
  refine NW.then ?_
  refine CW.seq ?_
  refine CW.region fun L hL => ?_
  refine LW.rd hL rfl (Wants.free rfl) rfl (Rd.assign (v := .func (.func 127) #[] #[]) rfl) ?_
  refine LW.nil hL rfl ?_
  refine NW.then ?_
  refine CW.seq ?_
  refine CW.region fun L hL => ?_
  refine LW.rd hL rfl (Wants.free rfl) rfl (Rd.assign (v := .func (.func 128) #[] #[]) rfl) ?_
  refine LW.nil hL rfl ?_
  refine NW.then ?_
  refine CW.seq ?_
  refine CW.region fun L hL => ?_
  refine LW.rd hL rfl (Wants.free rfl) rfl (Rd.makeFunc rfl) ?_
  refine LW.rd hL rfl (Wants.free rfl) rfl (Rd.makeFunc rfl) ?_
  refine LW.rd hL rfl (Wants.free rfl) rfl (Rd.move (v := .func (.func 128) #[] #[]) rfl) ?_
  refine LW.rd hL rfl (Wants.free rfl) rfl (Rd.move (v := .func (.func 128) #[] #[]) rfl) ?_
  refine LW.rd hL rfl (Wants.free rfl) rfl (Rd.move (v := .func (.func 128) #[] #[]) rfl) ?_
  refine LW.rd hL rfl (Wants.free rfl) rfl (Rd.move (v := .func (.func 128) #[] #[]) rfl) ?_
  refine LW.rd hL rfl (Wants.free rfl) rfl (Rd.build (v := .agg #[.nilFunc, .func (.func 129) #[] #[], .nilFunc, .nilFunc, .nilFunc, .nilFunc, .nilFunc, .nilFunc, .nilFunc, .nilFunc, .func (.func 132) #[] #[.pointer (some (⟨b1, 0, none⟩ : Addr))], .func (.func 130) #[] #[], .func (.func 133) #[] #[.pointer (some (⟨b1, 0, none⟩ : Addr))], .func (.func 128) #[] #[], .func (.func 128) #[] #[], .func (.func 128) #[] #[], .func (.func 128) #[] #[], .func (.func 131) #[] #[]]) rfl (fun _ => by kernel_rfl)) ?_
  obtain ⟨b3, hb_b3⟩ : ∃ b3, b3 = World.size w2 := ⟨_, rfl⟩
  obtain ⟨w3, hw_w3⟩ : ∃ w3, w3 = World.alloc w2 (.cells #[.nilFunc, .nilFunc, .nilFunc, .nilFunc, .nilFunc, .nilFunc, .nilFunc, .nilFunc, .nilFunc, .nilFunc, .nilFunc, .nilFunc, .nilFunc, .nilFunc, .nilFunc, .nilFunc, .nilFunc, .nilFunc] 202) := ⟨_, rfl⟩
  replace h := h b3 hb_b3 w3 hw_w3
  refine LW.val hL rfl (Wants.free rfl) rfl (boxE hb_b3 hw_w3 (Vl.alloc (z := .agg #[.nilFunc, .nilFunc, .nilFunc, .nilFunc, .nilFunc, .nilFunc, .nilFunc, .nilFunc, .nilFunc, .nilFunc, .nilFunc, .nilFunc, .nilFunc, .nilFunc, .nilFunc, .nilFunc, .nilFunc, .nilFunc]) (by kernel_rfl))) ?_
  obtain ⟨ho1, hf1, h⟩ := h
  obtain ⟨w4, hw_w4⟩ : ∃ w4, w4 = setCells w3 (⟨b3, 0, none⟩ : Addr) 0 [.nilFunc, .func (.func 129) #[] #[], .nilFunc, .nilFunc, .nilFunc, .nilFunc, .nilFunc, .nilFunc, .nilFunc, .nilFunc, .func (.func 132) #[] #[.pointer (some (⟨b1, 0, none⟩ : Addr))], .func (.func 130) #[] #[], .func (.func 133) #[] #[.pointer (some (⟨b1, 0, none⟩ : Addr))], .func (.func 128) #[] #[], .func (.func 128) #[] #[], .func (.func 128) #[] #[], .func (.func 128) #[] #[], .func (.func 131) #[] #[]] := ⟨_, rfl⟩
  replace h := h w4 hw_w4
  refine LW.eff hL rfl (Wants.free rfl) rfl (stNE hw_w4 (Ef.stN (cs := [.nilFunc, .func (.func 129) #[] #[], .nilFunc, .nilFunc, .nilFunc, .nilFunc, .nilFunc, .nilFunc, .nilFunc, .nilFunc, .func (.func 132) #[] #[.pointer (some (⟨b1, 0, none⟩ : Addr))], .func (.func 130) #[] #[], .func (.func 133) #[] #[.pointer (some (⟨b1, 0, none⟩ : Addr))], .func (.func 128) #[] #[], .func (.func 128) #[] #[], .func (.func 128) #[] #[], .func (.func 128) #[] #[], .func (.func 131) #[] #[]]) rfl rfl (by kernel_rfl) (List.forall_mem_cons.2 ⟨rfl, (List.forall_mem_cons.2 ⟨rfl, (List.forall_mem_cons.2 ⟨rfl, (List.forall_mem_cons.2 ⟨rfl, (List.forall_mem_cons.2 ⟨rfl, (List.forall_mem_cons.2 ⟨rfl, (List.forall_mem_cons.2 ⟨rfl, (List.forall_mem_cons.2 ⟨rfl, (List.forall_mem_cons.2 ⟨rfl, (List.forall_mem_cons.2 ⟨rfl, (List.forall_mem_cons.2 ⟨rfl, (List.forall_mem_cons.2 ⟨rfl, (List.forall_mem_cons.2 ⟨rfl, (List.forall_mem_cons.2 ⟨rfl, (List.forall_mem_cons.2 ⟨rfl, (List.forall_mem_cons.2 ⟨rfl, (List.forall_mem_cons.2 ⟨rfl, (List.forall_mem_cons.2 ⟨rfl, (List.forall_mem_nil _)⟩)⟩)⟩)⟩)⟩)⟩)⟩)⟩)⟩)⟩)⟩)⟩)⟩)⟩)⟩)⟩)⟩)⟩) ho1 hf1)) ?_
  refine LW.nil hL rfl ?_
  refine NW.then ?_
  refine CW.seq ?_
  refine CW.seq ?_
  refine CW.region fun L hL => ?_
  refine LW.rd hL rfl (Wants.free rfl) rfl (Rd.assign (v := .int .i64 2) rfl) ?_
  refine LW.nil hL rfl ?_
  refine NW.then ?_
  refine CW.block ?_
  obtain ⟨I1, m1, hI1, h⟩ := h
  refine CW.loop (S := Int) (fun s1 => [(2, .pointer (some (⟨b2, 0, none⟩ : Addr))), (3, .func (.func 127) #[] #[]), (5, .pointer (some (⟨b3, 0, none⟩ : Addr))), (6, .int .i64 s1)]) I1 m1 2 (by exact ⟨rfl, rfl, rfl, rfl, trivial⟩) hI1 (fun s1 w5 hI1 => ?_)
  replace h := h s1 w5 hI1
  refine CW.seq ?_
  refine CW.seq ?_
  refine CW.region fun L hL => ?_
  refine LW.rd hL rfl (Wants.free rfl) rfl (Rd.move (v := .int .i64 s1) rfl) ?_
  refine LW.rd hL rfl (Wants.free rfl) rfl (Rd.bin (v := .bool (decide (s1 ≤ 9))) rfl rfl (fun w => by kernel_rfl)) ?_
  refine LW.nil hL rfl ?_
  refine NW.then ?_
  refine CW.cond rfl (fun hb1 => ?_) (fun hb1 => ?_)
  · replace h := h.1 hb1
    refine CW.skip ?_
    refine NW.then ?_
    refine CW.seq ?_
    refine CW.block ?_
    refine CW.region fun L hL => ?_
    refine LW.rd hL rfl (Wants.free rfl) rfl (Rd.move (v := .int .i64 s1) rfl) ?_
    refine LW.rd hL rfl (Wants.free rfl) rfl (Rd.move (v := .func (.func 127) #[] #[]) rfl) ?_
    obtain ⟨hi1, hi2, h⟩ := h
    refine LW.rd hL rfl (Wants.free rfl) rfl (Rd.iaA (sz := 1) rfl rfl Try.underlying202 (by kernel_rfl) hi1 hi2) ?_
    obtain ⟨⟨o_w6, ho2⟩, hf2, h⟩ := h
    obtain ⟨w6, hw_w6⟩ : ∃ w6, w6 = World.setCell w5 ((⟨b3, 0, none⟩ : Addr).add (Int.toNat s1 * 1)) (.func (.func 127) #[] #[]) := ⟨_, rfl⟩
    replace h := h w6 hw_w6
    refine LW.eff hL rfl (Wants.free rfl) rfl (stE hw_w6 (Ef.st rfl rfl rfl (by kernel_rfl) ho2 hf2)) ?_
    refine LW.nil hL rfl ?_
    refine NW.block ?_
    refine NW.then ?_
    refine CW.region fun L hL => ?_
    refine LW.rd hL rfl (Wants.free rfl) rfl (Rd.move (v := .int .i64 s1) rfl) ?_
    refine LW.rd hL rfl (Wants.free rfl) rfl (Rd.bin (v := .int .i64 (IntKind.wrap .i64 (s1 + 1))) rfl rfl (fun w => by kernel_rfl)) ?_
    refine LW.rd hL rfl (Wants.free rfl) rfl (Rd.assign (v := .int .i64 (IntKind.wrap .i64 (s1 + 1))) rfl) ?_
    refine LW.nil hL rfl ?_
    exact NW.loop (S := Int) (Ek := fun s1 => [(2, .pointer (some (⟨b2, 0, none⟩ : Addr))), (3, .func (.func 127) #[] #[]), (5, .pointer (some (⟨b3, 0, none⟩ : Addr))), (6, .int .i64 s1)]) (IntKind.wrap .i64 (s1 + 1)) (by exact ⟨rfl, rfl, rfl, rfl, trivial⟩) h
  · replace h := h.2 hb1
    refine CW.exit ?_
    refine XW.then ?_
    refine XW.then ?_
    refine XW.hit ?_
    refine NW.then ?_
    refine CW.seq ?_
    refine CW.region fun L hL => ?_
    obtain ⟨t1, t2, t3, t4, t5, t6, t7, t8, t9, t10, t11, t12, t13, t14, t15, t16, t17, t18, hc1, h⟩ := h
    refine LW.rd hL rfl (Wants.free rfl) rfl (Rd.ldN (cs := [t1, t2, t3, t4, t5, t6, t7, t8, t9, t10, t11, t12, t13, t14, t15, t16, t17, t18]) rfl (by kernel_rfl) (by kernel_rfl) (cellsS hc1)) ?_
    obtain ⟨hv1, hv2, hv3, hv4, hv5, hv6, hv7, hv8, hv9, hv10, hv11, hv12, hv13, hv14, hv15, hv16, hv17, hv18, ho3, hf3, h⟩ := h
    obtain ⟨w7, hw_w7⟩ : ∃ w7, w7 = setCells w5 (⟨b2, 0, none⟩ : Addr) 0 [t1, t2, t3, t4, t5, t6, t7, t8, t9, t10, t11, t12, t13, t14, t15, t16, t17, t18] := ⟨_, rfl⟩
    replace h := h w7 hw_w7
    refine LW.eff hL rfl (Wants.free rfl) rfl (stNE hw_w7 (Ef.stN (cs := [t1, t2, t3, t4, t5, t6, t7, t8, t9, t10, t11, t12, t13, t14, t15, t16, t17, t18]) rfl rfl (by kernel_rfl) (List.forall_mem_cons.2 ⟨hv1, (List.forall_mem_cons.2 ⟨hv2, (List.forall_mem_cons.2 ⟨hv3, (List.forall_mem_cons.2 ⟨hv4, (List.forall_mem_cons.2 ⟨hv5, (List.forall_mem_cons.2 ⟨hv6, (List.forall_mem_cons.2 ⟨hv7, (List.forall_mem_cons.2 ⟨hv8, (List.forall_mem_cons.2 ⟨hv9, (List.forall_mem_cons.2 ⟨hv10, (List.forall_mem_cons.2 ⟨hv11, (List.forall_mem_cons.2 ⟨hv12, (List.forall_mem_cons.2 ⟨hv13, (List.forall_mem_cons.2 ⟨hv14, (List.forall_mem_cons.2 ⟨hv15, (List.forall_mem_cons.2 ⟨hv16, (List.forall_mem_cons.2 ⟨hv17, (List.forall_mem_cons.2 ⟨hv18, (List.forall_mem_nil _)⟩)⟩)⟩)⟩)⟩)⟩)⟩)⟩)⟩)⟩)⟩)⟩)⟩)⟩)⟩)⟩)⟩)⟩) ho3 hf3)) ?_
    refine LW.nil hL rfl ?_
    refine NW.then ?_
    refine CW.ret ?_
    obtain ⟨r19, r20, r21, r22, r23, r24, r25, r26, r27, r28, r29, r30, r31, r32, r33, r34, r35, r36, hr1, h⟩ := h
    exact resN (vs := [.agg #[r19, r20, r21, r22, r23, r24, r25, r26, r27, r28, r29, r30, r31, r32, r33, r34, r35, r36]]) (ResOK.c rfl (lvN (cs := [r19, r20, r21, r22, r23, r24, r25, r26, r27, r28, r29, r30, r31, r32, r33, r34, r35, r36]) (by kernel_rfl) (by kernel_rfl) (cellsAt_get hr1)) ResOK.nil) rfl ⟨r19, r20, r21, r22, r23, r24, r25, r26, r27, r28, r29, r30, r31, r32, r33, r34, r35, r36, rfl, h⟩

/- (*pomander/labels.Table).Keep -/
def V_labels_Table_Keep (t1 : Option Addr) (set1 : Int) (w : World) (R : Int → Int → World → Prop) : Prop :=
  Calls Try.prog 110 #[.pointer t1] w fun e w1 => ∃ (r3 : Bool), e = .returned (.bool r3) ∧ ((r3 = true → R 0 1 w1) ∧ (r3 = false → ((decide (set1 ≥ 65536)) = true → R 0 2 w1) ∧ ((decide (set1 ≥ 65536)) = false → ∃ a1 : Addr, t1 = some a1 ∧ (∃ (t2 : Option Nat), w1.cell? (a1.add 2) = some (.map t2) ∧ (∃ (v1 : Int) (ok1 : Bool), (Instr.lookup 198 (.map t2) (.int .u32 set1) true).run Try.prog w1 = .ok (.tuple #[.int .i64 v1, .bool ok1]) w1 ∧ ((ok1 = true → R v1 0 w1) ∧ (ok1 = false → ∀ w2 : World, w2 = World.drew w1 → ∃ a2 : Addr, t1 = some a2 ∧ (∃ (t3 : Option Addr) (t3n : Nat) (t3c : Nat), w2.cell? (a2.add 1) = some (.slice t3 t3n t3c) ∧ (∃ a3 : Addr, t1 = some a3 ∧ (∃ (t4 : Int), w2.cell? a3 = some (.int .i64 t4) ∧ (((decide ((t3n : Int) ≥ t4)) = true → R 0 120 w2) ∧ ((decide ((t3n : Int) ≥ t4)) = false → ∀ w3 : World, w3 = World.drew w2 → ∃ a4 : Addr, t1 = some a4 ∧ (∃ (t5 : Option Nat), w3.cell? (a4.add 2) = some (.map t5) ∧ (∃ a5 : Addr, t1 = some a5 ∧ (∃ (t6 : Option Addr) (t6n : Nat) (t6c : Nat), w3.cell? (a5.add 1) = some (.slice t6 t6n t6c) ∧ (∃ w4 : World, (Instr.mapUpdate 198 (.map t5) (.int .u32 set1) (.int .i64 (t6n : Int))).run Try.prog w3 = .ok () w4 ∧ (∃ a6 : Addr, t1 = some a6 ∧ (∃ (t7 : Option Addr) (t7n : Nat) (t7c : Nat), w4.cell? (a6.add 1) = some (.slice t7 t7n t7c) ∧ (∀ b1 : Nat, b1 = World.size w4 → ∀ w5 : World, w5 = World.alloc w4 (.cells #[.int .u32 set1] 22) → (∃ (l1 : Option Addr) (l1n : Nat) (l1c : Nat) (w6 : World), (Builtin.append_ #[31, 31] 31 #[.slice t7 t7n t7c, .slice (some (⟨b1, 0, none⟩ : Addr)) 1 1]).run Try.prog w5 = .ok (.slice l1 l1n l1c) w6 ∧ (∃ a7 : Addr, t1 = some a7 ∧ ((∃ o : Value, w6.cell? (a7.add 1) = some o) ∧ w6.frozen? (a7.add 1) = false ∧ ∀ w7 : World, w7 = World.setCell w6 (a7.add 1) (.slice l1 l1n l1c) → (∃ a8 : Addr, t1 = some a8 ∧ (∃ (t8 : Option Nat), w7.cell? (a8.add 2) = some (.map t8) ∧ (∃ (v2 : Int), (Instr.lookup 198 (.map t8) (.int .u32 set1) false).run Try.prog w7 = .ok (.int .i64 v2) w7 ∧ (R v2 0 w7))))))))))))))))))))))))))
set_option maxRecDepth 100000 in
theorem ok_labels_Table_Keep (t1 : Option Addr) (set1 : Int) (w : World) (R : Int → Int → World → Prop) (h : V_labels_Table_Keep t1 set1 w R) : Calls Try.prog 109 #[.pointer t1, .int .u32 set1] w (fun e w' => ∃ (r1 : Int) (r2 : Int), e = .returned (.tuple #[.int .i64 r1, .int .i64 r2]) ∧ R r1 r2 w') := by
  unfold V_labels_Table_Keep at h
  refine enter (N := 59) Try.func109 rfl rfl ?_
  refine CW.seq ?_
  refine CW.region fun L hL => ?_
  refine LW.rd hL rfl (Wants.free rfl) rfl (Rd.assign (v := .int .i64 0) rfl) ?_
  refine LW.rd hL rfl (Wants.free rfl) rfl (Rd.assign (v := .int .i64 0) rfl) ?_
  refine LW.nil hL rfl ?_
  refine NW.then ?_
  refine CW.seq ?_
  refine CW.seq ?_
  refine CW.region fun L hL => ?_
  refine LW.rd hL rfl (Wants.free rfl) rfl (Rd.move (v := .pointer t1) rfl) ?_
  refine LW.call hL rfl (Wants.free rfl) rfl (Cl.fn (f := 110) rfl Try.func110 (by kernel_rfl) rfl) h (fun e w1 h_ => ?_)
  clear h
  obtain ⟨r3, rfl, h⟩ := h_
  refine ⟨_, rfl, ?_⟩
  refine LW.nil hL rfl ?_
  refine NW.then ?_
  refine CW.cond rfl (fun hb1 => ?_) (fun hb1 => ?_)
  · replace h := h.1 hb1
    refine CW.seq ?_
    refine CW.region fun L hL => ?_
    refine LW.rd hL rfl (Wants.free rfl) rfl (Rd.assign (v := .int .i64 0) rfl) ?_
    refine LW.rd hL rfl (Wants.free rfl) rfl (Rd.assign (v := .int .i64 1) rfl) ?_
    refine LW.nil hL rfl ?_
    refine NW.then ?_
    refine CW.ret ?_
    refine RW.then ?_
    exact res2 rfl rfl rfl ⟨0, 1, rfl, h⟩
  · replace h := h.2 hb1
    refine CW.skip ?_
    refine NW.then ?_
    refine CW.seq ?_
    refine CW.seq ?_
    refine CW.region fun L hL => ?_
    refine LW.rd hL rfl (Wants.free rfl) rfl (Rd.move (v := .int .u32 set1) rfl) ?_
    refine LW.rd hL rfl (Wants.free rfl) rfl (Rd.bin (v := .bool (decide (set1 ≥ 65536))) rfl rfl (fun w => by kernel_rfl)) ?_
    refine LW.nil hL rfl ?_
    refine NW.then ?_
    refine CW.cond rfl (fun hb2 => ?_) (fun hb2 => ?_)
    · replace h := h.1 hb2
      refine CW.seq ?_
      refine CW.region fun L hL => ?_
      refine LW.rd hL rfl (Wants.free rfl) rfl (Rd.assign (v := .int .i64 0) rfl) ?_
      refine LW.rd hL rfl (Wants.free rfl) rfl (Rd.assign (v := .int .i64 2) rfl) ?_
      refine LW.nil hL rfl ?_
      refine NW.then ?_
      refine CW.ret ?_
      refine RW.then ?_
      exact res2 rfl rfl rfl ⟨0, 2, rfl, h⟩
    · replace h := h.2 hb2
      refine CW.skip ?_
      refine NW.then ?_
      refine CW.seq ?_
      refine CW.region fun L hL => ?_
      refine LW.rd hL rfl (Wants.free rfl) rfl (Rd.move (v := .pointer t1) rfl) ?_
      obtain ⟨a1, ha1, h⟩ := h
      refine LW.rd hL rfl (Wants.free rfl) rfl (Rd.nil (q := a1) (by rw [← ha1]; rfl)) ?_
      refine LW.rd hL rfl (Wants.free rfl) rfl (Rd.fa (v := .pointer (some (a1.add 2))) rfl (fun _ => by kernel_rfl)) ?_
      obtain ⟨t2, hc1, h⟩ := h
      refine LW.rd hL rfl (Wants.free rfl) rfl (Rd.ld (v := .map t2) rfl (by kernel_rfl) (eqs hc1)) ?_
      refine LW.rd hL rfl (Wants.free rfl) rfl (Rd.move (v := .int .u32 set1) rfl) ?_
      obtain ⟨v1, ok1, hl1, h⟩ := h
      refine LW.rd hL rfl (Wants.free rfl) rfl (Rd.lookup (v := .tuple #[.int .i64 v1, .bool ok1]) rfl rfl (fun _ e => e ▸ hl1)) ?_
      refine LW.rd hL rfl (Wants.free rfl) rfl (Rd.move (v := .tuple #[.int .i64 v1, .bool ok1]) rfl) ?_
      refine LW.rd hL rfl (Wants.free rfl) rfl (Rd.extract (v := .int .i64 v1) rfl rfl) ?_
      refine LW.rd hL rfl (Wants.free rfl) rfl (Rd.extract (v := .bool ok1) rfl rfl) ?_
      refine LW.rd hL rfl (Wants.free rfl) rfl (Rd.assign (v := .int .i64 v1) rfl) ?_
      refine LW.rd hL rfl (Wants.free rfl) rfl (Rd.assign (v := .bool ok1) rfl) ?_
      refine LW.nil hL rfl ?_
      refine NW.then ?_
      refine CW.seq ?_
      refine CW.seq ?_
      refine CW.region fun L hL => ?_
      refine LW.rd hL rfl (Wants.free rfl) rfl (Rd.move (v := .bool ok1) rfl) ?_
      refine LW.nil hL rfl ?_
      refine NW.then ?_
      refine CW.cond rfl (fun hb3 => ?_) (fun hb3 => ?_)
      · replace h := h.1 hb3
        refine CW.seq ?_
        refine CW.region fun L hL => ?_
        refine LW.rd hL rfl (Wants.free rfl) rfl (Rd.move (v := .int .i64 v1) rfl) ?_
        refine LW.rd hL rfl (Wants.free rfl) rfl (Rd.assign (v := .int .i64 v1) rfl) ?_
        refine LW.rd hL rfl (Wants.free rfl) rfl (Rd.assign (v := .int .i64 0) rfl) ?_
        refine LW.nil hL rfl ?_
        refine NW.then ?_
        refine CW.ret ?_
        refine RW.then ?_
        exact res2 rfl rfl rfl ⟨v1, 0, rfl, h⟩
      · replace h := h.2 hb3
        refine CW.skip ?_
        refine NW.then ?_
        refine CW.seq ?_
        refine CW.seq ?_
        replace h := h _ rfl
        refine CW.drawn (fun w => w = World.drew w1) 10 (by kernel_rfl) fun H hH => ?_
        generalize World.drew w1 = w2 at h hH ⊢
        refine HW.pure (i := 0) hH rfl (by kernel_rfl) (Wants.free rfl) rfl (fun _ => rfl) (Rd.move (v := .pointer t1) rfl) ?_
        obtain ⟨a2, ha2, h⟩ := h
        refine HW.pure (i := 1) hH rfl (by kernel_rfl) (Wants.free rfl) rfl (fun _ => rfl) (Rd.nil (q := a2) (by rw [← ha2]; rfl)) ?_
        refine HW.pure (i := 2) hH rfl (by kernel_rfl) (Wants.free rfl) rfl (fun _ => rfl) (Rd.fa (v := .pointer (some (a2.add 1))) rfl (fun _ => by kernel_rfl)) ?_
        obtain ⟨t3, t3n, t3c, hc2, h⟩ := h
        refine HW.take (i := 3) hH rfl (by kernel_rfl) (by kernel_rfl) (Wants.free rfl) rfl (fun _ => rfl) (Rd.ld (v := .slice t3 t3n t3c) rfl (by kernel_rfl) (eqs hc2)) ?_
        refine HW.pure (i := 4) hH rfl (by kernel_rfl) (Wants.free rfl) rfl (fun _ => rfl) (Rd.builtin (v := .int .i64 (t3n : Int)) rfl (fun _ _ => by kernel_rfl)) ?_
        refine HW.pure (i := 5) hH rfl (by kernel_rfl) (Wants.free rfl) rfl (fun _ => rfl) (Rd.move (v := .pointer t1) rfl) ?_
        obtain ⟨a3, ha3, h⟩ := h
        refine HW.pure (i := 6) hH rfl (by kernel_rfl) (Wants.free rfl) rfl (fun _ => rfl) (Rd.nil (q := a3) (by rw [← ha3]; rfl)) ?_
        refine HW.pure (i := 7) hH rfl (by kernel_rfl) (Wants.free rfl) rfl (fun _ => rfl) (Rd.fa (v := .pointer (some a3)) rfl (fun _ => by kernel_rfl)) ?_
        obtain ⟨t4, hc3, h⟩ := h
        refine HW.take (i := 8) hH rfl (by kernel_rfl) (by kernel_rfl) (Wants.free rfl) rfl (fun _ => rfl) (Rd.ld (v := .int .i64 t4) rfl (by kernel_rfl) (eqs hc3)) ?_
        refine HW.pure (i := 9) hH rfl (by kernel_rfl) (Wants.free rfl) rfl (fun _ => rfl) (Rd.bin (v := .bool (decide ((t3n : Int) ≥ t4))) rfl rfl (fun w => by kernel_rfl)) ?_
        refine HW.done hH (by kernel_rfl) ?_
        refine NW.then ?_
        refine CW.cond rfl (fun hb4 => ?_) (fun hb4 => ?_)
        · replace h := h.1 hb4
          refine CW.seq ?_
          refine CW.region fun L hL => ?_
          refine LW.rd hL rfl (Wants.free rfl) rfl (Rd.assign (v := .int .i64 0) rfl) ?_
          refine LW.rd hL rfl (Wants.free rfl) rfl (Rd.assign (v := .int .i64 120) rfl) ?_
          refine LW.nil hL rfl ?_
          refine NW.then ?_
          refine CW.ret ?_
          refine RW.then ?_
          exact res2 rfl rfl rfl ⟨0, 120, rfl, h⟩
        · replace h := h.2 hb4
          refine CW.skip ?_
          refine NW.then ?_
          refine CW.seq ?_
          replace h := h _ rfl
          refine CW.drawn (fun w => w = World.drew w2) 10 (by kernel_rfl) fun H hH => ?_
          generalize World.drew w2 = w3 at h hH ⊢
          refine HW.pure (i := 0) hH rfl (by kernel_rfl) (Wants.free rfl) rfl (fun _ => rfl) (Rd.move (v := .pointer t1) rfl) ?_
          obtain ⟨a4, ha4, h⟩ := h
          refine HW.pure (i := 1) hH rfl (by kernel_rfl) (Wants.free rfl) rfl (fun _ => rfl) (Rd.nil (q := a4) (by rw [← ha4]; rfl)) ?_
          refine HW.pure (i := 2) hH rfl (by kernel_rfl) (Wants.free rfl) rfl (fun _ => rfl) (Rd.fa (v := .pointer (some (a4.add 2))) rfl (fun _ => by kernel_rfl)) ?_
          obtain ⟨t5, hc4, h⟩ := h
          refine HW.take (i := 3) hH rfl (by kernel_rfl) (by kernel_rfl) (Wants.free rfl) rfl (fun _ => rfl) (Rd.ld (v := .map t5) rfl (by kernel_rfl) (eqs hc4)) ?_
          refine HW.pure (i := 4) hH rfl (by kernel_rfl) (Wants.free rfl) rfl (fun _ => rfl) (Rd.move (v := .int .u32 set1) rfl) ?_
          refine HW.pure (i := 5) hH rfl (by kernel_rfl) (Wants.free rfl) rfl (fun _ => rfl) (Rd.move (v := .pointer t1) rfl) ?_
          obtain ⟨a5, ha5, h⟩ := h
          refine HW.pure (i := 6) hH rfl (by kernel_rfl) (Wants.free rfl) rfl (fun _ => rfl) (Rd.nil (q := a5) (by rw [← ha5]; rfl)) ?_
          refine HW.pure (i := 7) hH rfl (by kernel_rfl) (Wants.free rfl) rfl (fun _ => rfl) (Rd.fa (v := .pointer (some (a5.add 1))) rfl (fun _ => by kernel_rfl)) ?_
          obtain ⟨t6, t6n, t6c, hc5, h⟩ := h
          refine HW.take (i := 8) hH rfl (by kernel_rfl) (by kernel_rfl) (Wants.free rfl) rfl (fun _ => rfl) (Rd.ld (v := .slice t6 t6n t6c) rfl (by kernel_rfl) (eqs hc5)) ?_
          refine HW.pure (i := 9) hH rfl (by kernel_rfl) (Wants.free rfl) rfl (fun _ => rfl) (Rd.builtin (v := .int .i64 (t6n : Int)) rfl (fun _ _ => by kernel_rfl)) ?_
          obtain ⟨w4, hm1, h⟩ := h
          refine HW.eff (i := 10) hH (by kernel_rfl) rfl (Wants.free rfl) rfl (Ef.mapUpdate rfl rfl rfl hm1) (fun hc => by cases hc) ?_
          refine HW.done hH (by kernel_rfl) ?_
          refine NW.then ?_
          refine CW.seq ?_
          refine CW.region fun L hL => ?_
          refine LW.rd hL rfl (Wants.free rfl) rfl (Rd.move (v := .pointer t1) rfl) ?_
          refine LW.rd hL rfl (Wants.free rfl) rfl (Rd.move (v := .pointer t1) rfl) ?_
          obtain ⟨a6, ha6, h⟩ := h
          refine LW.rd hL rfl (Wants.free rfl) rfl (Rd.nil (q := a6) (by rw [← ha6]; rfl)) ?_
          refine LW.rd hL rfl (Wants.free rfl) rfl (Rd.fa (v := .pointer (some (a6.add 1))) rfl (fun _ => by kernel_rfl)) ?_
          obtain ⟨t7, t7n, t7c, hc6, h⟩ := h
          refine LW.rd hL rfl (Wants.free rfl) rfl (Rd.ld (v := .slice t7 t7n t7c) rfl (by kernel_rfl) (eqs hc6)) ?_
          refine LW.rd hL rfl (Wants.free rfl) rfl (Rd.move (v := .int .u32 set1) rfl) ?_
          obtain ⟨b1, hb_b1⟩ : ∃ b1, b1 = World.size w4 := ⟨_, rfl⟩
          obtain ⟨w5, hw_w5⟩ : ∃ w5, w5 = World.alloc w4 (.cells #[.int .u32 set1] 22) := ⟨_, rfl⟩
          replace h := h b1 hb_b1 w5 hw_w5
          refine LW.val hL rfl (Wants.free rfl) rfl (sliceE (n := 1) hb_b1 hw_w5 (fun w => Vl.buildSlice (vs := [(0, .int .u32 set1)]) rfl (by kernel_rfl))) ?_
          obtain ⟨l1, l1n, l1c, w6, ha7, h⟩ := h
          refine LW.val hL rfl (Wants.free rfl) rfl (Vl.builtin (v := .slice l1 l1n l1c) rfl (valB ha7)) ?_
          obtain ⟨a7, ha8, h⟩ := h
          refine LW.rd hL rfl (Wants.free rfl) rfl (Rd.nil (q := a7) (by rw [← ha8]; rfl)) ?_
          refine LW.rd hL rfl (Wants.free rfl) rfl (Rd.fa (v := .pointer (some (a7.add 1))) rfl (fun _ => by kernel_rfl)) ?_
          obtain ⟨⟨o_w7, ho1⟩, hf1, h⟩ := h
          obtain ⟨w7, hw_w7⟩ : ∃ w7, w7 = World.setCell w6 (a7.add 1) (.slice l1 l1n l1c) := ⟨_, rfl⟩
          replace h := h w7 hw_w7
          refine LW.eff hL rfl (Wants.free rfl) rfl (stE hw_w7 (Ef.st rfl rfl rfl (by kernel_rfl) ho1 hf1)) ?_
          refine LW.nil hL rfl ?_
          refine NW.then ?_
          refine CW.seq ?_
          refine CW.region fun L hL => ?_
          refine LW.rd hL rfl (Wants.free rfl) rfl (Rd.move (v := .pointer t1) rfl) ?_
          obtain ⟨a8, ha9, h⟩ := h
          refine LW.rd hL rfl (Wants.free rfl) rfl (Rd.nil (q := a8) (by rw [← ha9]; rfl)) ?_
          refine LW.rd hL rfl (Wants.free rfl) rfl (Rd.fa (v := .pointer (some (a8.add 2))) rfl (fun _ => by kernel_rfl)) ?_
          obtain ⟨t8, hc7, h⟩ := h
          refine LW.rd hL rfl (Wants.free rfl) rfl (Rd.ld (v := .map t8) rfl (by kernel_rfl) (eqs hc7)) ?_
          refine LW.rd hL rfl (Wants.free rfl) rfl (Rd.move (v := .int .u32 set1) rfl) ?_
          obtain ⟨v2, hl2, h⟩ := h
          refine LW.rd hL rfl (Wants.free rfl) rfl (Rd.lookup (v := .int .i64 v2) rfl rfl (fun _ e => e ▸ hl2)) ?_
          refine LW.rd hL rfl (Wants.free rfl) rfl (Rd.assign (v := .int .i64 v2) rfl) ?_
          refine LW.rd hL rfl (Wants.free rfl) rfl (Rd.assign (v := .int .i64 0) rfl) ?_
          refine LW.nil hL rfl ?_
          refine NW.then ?_
          refine CW.ret ?_
          exact res2 rfl rfl rfl ⟨v2, 0, rfl, h⟩

/- (*pomander/labels.Table).none -/
def V_labels_Table_none (t1 : Option Addr) (w : World) (R : Bool → World → Prop) : Prop :=
  ∃ J1 : Bool → World → Prop, (∀ (b1 : Bool) (w1 : World), J1 b1 w1 → R b1 w1) ∧ (((Option.isNone t1) = false → ∃ a1 : Addr, t1 = some a1 ∧ (∃ (t2 : Option Addr) (t2n : Nat) (t2c : Nat), w.cell? (a1.add 1) = some (.slice t2 t2n t2c) ∧ (J1 ((t2n : Int) == 0) w))) ∧ ((Option.isNone t1) = true → J1 true w))
set_option maxRecDepth 100000 in
theorem ok_labels_Table_none (t1 : Option Addr) (w : World) (R : Bool → World → Prop) (h : V_labels_Table_none t1 w R) : Calls Try.prog 110 #[.pointer t1] w (fun e w' => ∃ (r1 : Bool), e = .returned (.bool r1) ∧ R r1 w') := by
  unfold V_labels_Table_none at h
  refine enter (N := 13) Try.func110 rfl rfl ?_
  refine CW.seq ?_
  refine CW.region fun L hL => ?_
  refine LW.rd hL rfl (Wants.free rfl) rfl (Rd.assign (v := .bool false) rfl) ?_
  refine LW.nil hL rfl ?_
  refine NW.then ?_
  refine CW.seq ?_
  refine CW.region fun L hL => ?_
  refine LW.rd hL rfl (Wants.free rfl) rfl (Rd.move (v := .pointer t1) rfl) ?_
  refine LW.rd hL rfl (Wants.free rfl) rfl (Rd.bin (v := .bool (Option.isNone t1)) rfl rfl (fun w => ptr_nil_eq (by kernel_rfl) t1 w)) ?_
  refine LW.rd hL rfl (Wants.free rfl) rfl (Rd.move (v := .bool (Option.isNone t1)) rfl) ?_
  obtain ⟨J1, hJ1, h1_J1, h0_J1⟩ := h
  suffices K1 : ∀ (b1 : Bool) (w1 : World), J1 b1 w1 → L 10 [(2, .bool false), (12, .bool b1)] w1 by
    rcases Bool.eq_false_or_eq_true (Option.isNone t1) with hb1 | hb1
    · have h := h0_J1 hb1
      refine LW.skip hL rfl (Skips.on rfl rfl rfl rfl rfl hb1) rfl ?_
      refine LW.skip hL rfl (Skips.on rfl rfl rfl rfl rfl hb1) rfl ?_
      refine LW.skip hL rfl (Skips.on rfl rfl rfl rfl rfl hb1) rfl ?_
      refine LW.skip hL rfl (Skips.on rfl rfl rfl rfl rfl hb1) rfl ?_
      refine LW.skip hL rfl (Skips.on rfl rfl rfl rfl rfl hb1) rfl ?_
      refine LW.skip hL rfl (Skips.on rfl rfl rfl rfl rfl hb1) rfl ?_
      refine LW.rd hL rfl (Wants.free rfl) rfl (Rd.pickT rfl hb1 rfl) ?_
      exact LW.sub hL (by exact ⟨rfl, rfl, trivial⟩) (K1 true w h)
    · have h := h1_J1 hb1
      refine LW.rd hL rfl (Wants.on rfl rfl rfl rfl rfl hb1) rfl (Rd.move (v := .pointer t1) rfl) ?_
      obtain ⟨a1, ha1, h⟩ := h
      refine LW.rd hL rfl (Wants.on rfl rfl rfl rfl rfl hb1) rfl (Rd.nil (q := a1) (by rw [← ha1]; rfl)) ?_
      refine LW.rd hL rfl (Wants.on rfl rfl rfl rfl rfl hb1) rfl (Rd.fa (v := .pointer (some (a1.add 1))) rfl (fun _ => by kernel_rfl)) ?_
      obtain ⟨t2, t2n, t2c, hc1, h⟩ := h
      refine LW.rd hL rfl (Wants.on rfl rfl rfl rfl rfl hb1) rfl (Rd.ld (v := .slice t2 t2n t2c) rfl (by kernel_rfl) (eqs hc1)) ?_
      refine LW.rd hL rfl (Wants.on rfl rfl rfl rfl rfl hb1) rfl (Rd.builtin (v := .int .i64 (t2n : Int)) rfl (fun _ _ => by kernel_rfl)) ?_
      refine LW.rd hL rfl (Wants.on rfl rfl rfl rfl rfl hb1) rfl (Rd.bin (v := .bool ((t2n : Int) == 0)) rfl rfl (fun w => by kernel_rfl)) ?_
      refine LW.rd hL rfl (Wants.free rfl) rfl (Rd.pickF rfl hb1 rfl) ?_
      exact LW.sub hL (by exact ⟨rfl, rfl, trivial⟩) (K1 ((t2n : Int) == 0) w h)
  intro b1 w1 h_
  have h := hJ1 b1 w1 h_; clear h_
  refine LW.rd hL rfl (Wants.free rfl) rfl (Rd.assign (v := .bool b1) rfl) ?_
  refine LW.nil hL rfl ?_
  refine NW.then ?_
  refine CW.ret ?_
  exact res1 rfl rfl ⟨b1, rfl, h⟩

/- (pomander/pomanderref02.Table).Has -/
def V_pomanderref02_Table_Has (t1 : Int) (t2 : Option Addr) (t2n : Nat) (t2c : Nat) (set1 : Int) (w : World) (R : Int → World → Prop) : Prop :=
  ∀ b1 : Nat, b1 = World.size w → ∀ w1 : World, w1 = World.alloc w (.cells #[.int .i64 t1, .slice t2 t2n t2c] 33) → (∃ (I1 : Int × Int → World → Prop) (m1 : Int × Int → World → Nat), I1 (0, 0) w1 ∧ ∀ (s1 : Int × Int) (w2 : World), I1 s1 w2 → ∃ (t3 : Option Addr) (t3n : Nat) (t3c : Nat), w2.cell? (⟨b1, 1, none⟩ : Addr) = some (.slice t3 t3n t3c) ∧ (((decide (s1.2 < (t3n : Int))) = true → ∃ (t4 : Option Addr) (t4n : Nat) (t4c : Nat), w2.cell? (⟨b1, 1, none⟩ : Addr) = some (.slice t4 t4n t4c) ∧ (∃ a1 : Addr, t4 = some a1 ∧ (0 : Int) ≤ s1.2 ∧ s1.2 < (t4n : Int) ∧ (∃ (t5 : Int), w2.cell? (a1.add (Int.toNat s1.2 * 1)) = some (.int .u32 t5) ∧ (((t5 == set1) = true → R s1.2 w2) ∧ ((t5 == set1) = false → (I1 (s1.1, IntKind.wrap .i64 (s1.2 + 1)) w2 ∧ m1 (s1.1, IntKind.wrap .i64 (s1.2 + 1)) w2 < m1 s1 w2)))))) ∧ ((decide (s1.2 < (t3n : Int))) = false → R (-1) w2)))
set_option maxRecDepth 100000 in
theorem ok_pomanderref02_Table_Has (t1 : Int) (t2 : Option Addr) (t2n : Nat) (t2c : Nat) (set1 : Int) (w : World) (R : Int → World → Prop) (h : V_pomanderref02_Table_Has t1 t2 t2n t2c set1 w R) : Calls Try.prog 124 #[.agg #[.int .i64 t1, .slice t2 t2n t2c], .int .u32 set1] w (fun e w' => ∃ (r1 : Int), e = .returned (.int .i64 r1) ∧ R r1 w') := by
  unfold V_pomanderref02_Table_Has at h
  refine enter (N := 21) Try.func124 rfl rfl ?_
  refine CW.seq ?_
  refine CW.region fun L hL => ?_
  obtain ⟨b1, hb_b1⟩ : ∃ b1, b1 = World.size w := ⟨_, rfl⟩
  obtain ⟨w1, hw_w1⟩ : ∃ w1, w1 = World.alloc w (.cells #[.int .i64 t1, .slice t2 t2n t2c] 33) := ⟨_, rfl⟩
  replace h := h b1 hb_b1 w1 hw_w1
  refine LW.val hL rfl (Wants.free rfl) rfl (boxE hb_b1 hw_w1 (Vl.box (v := .agg #[.int .i64 t1, .slice t2 t2n t2c]) rfl)) ?_
  refine LW.rd hL rfl (Wants.free rfl) rfl (Rd.assign (v := .int .i64 0) rfl) ?_
  refine LW.nil hL rfl ?_
  refine NW.then ?_
  refine CW.seq ?_
  refine CW.seq ?_
  refine CW.region fun L hL => ?_
  refine LW.rd hL rfl (Wants.free rfl) rfl (Rd.assign (v := .int .i64 0) rfl) ?_
  refine LW.nil hL rfl ?_
  refine NW.then ?_
  refine CW.block ?_
  obtain ⟨I1, m1, hI1, h⟩ := h
  refine CW.loop (S := Int × Int) (fun s1 => [(1, .int .u32 set1), (2, .pointer (some (⟨b1, 0, none⟩ : Addr))), (4, .int .i64 s1.1), (5, .int .i64 s1.2)]) I1 m1 (0, 0) (by exact ⟨rfl, rfl, rfl, rfl, trivial⟩) hI1 (fun s1 w2 hI1 => ?_)
  replace h := h s1 w2 hI1
  refine CW.seq ?_
  refine CW.seq ?_
  refine CW.region fun L hL => ?_
  refine LW.rd hL rfl (Wants.free rfl) rfl (Rd.move (v := .int .i64 s1.2) rfl) ?_
  refine LW.rd hL rfl (Wants.free rfl) rfl (Rd.fa (v := .pointer (some (⟨b1, 1, none⟩ : Addr))) rfl (fun _ => by kernel_rfl)) ?_
  obtain ⟨t3, t3n, t3c, hc1, h⟩ := h
  refine LW.rd hL rfl (Wants.free rfl) rfl (Rd.ld (v := .slice t3 t3n t3c) rfl (by kernel_rfl) (eqs hc1)) ?_
  refine LW.rd hL rfl (Wants.free rfl) rfl (Rd.builtin (v := .int .i64 (t3n : Int)) rfl (fun _ _ => by kernel_rfl)) ?_
  refine LW.rd hL rfl (Wants.free rfl) rfl (Rd.bin (v := .bool (decide (s1.2 < (t3n : Int)))) rfl rfl (fun w => by kernel_rfl)) ?_
  refine LW.nil hL rfl ?_
  refine NW.then ?_
  refine CW.cond rfl (fun hb1 => ?_) (fun hb1 => ?_)
  · replace h := h.1 hb1
    refine CW.skip ?_
    refine NW.then ?_
    refine CW.seq ?_
    refine CW.block ?_
    refine CW.seq ?_
    refine CW.region fun L hL => ?_
    refine LW.rd hL rfl (Wants.free rfl) rfl (Rd.fa (v := .pointer (some (⟨b1, 1, none⟩ : Addr))) rfl (fun _ => by kernel_rfl)) ?_
    obtain ⟨t4, t4n, t4c, hc2, h⟩ := h
    refine LW.rd hL rfl (Wants.free rfl) rfl (Rd.ld (v := .slice t4 t4n t4c) rfl (by kernel_rfl) (eqs hc2)) ?_
    refine LW.rd hL rfl (Wants.free rfl) rfl (Rd.move (v := .int .i64 s1.2) rfl) ?_
    obtain ⟨a1, he1, hi1, hi2, h⟩ := h
    refine LW.rd hL rfl (Wants.free rfl) rfl (Rd.iaS (q := a1) (sz := 1) (by rw [← he1]; rfl) rfl Try.underlying31 (by kernel_rfl) hi1 hi2) ?_
    obtain ⟨t5, hc3, h⟩ := h
    refine LW.rd hL rfl (Wants.free rfl) rfl (Rd.ld (v := .int .u32 t5) rfl (by kernel_rfl) (eqs hc3)) ?_
    refine LW.rd hL rfl (Wants.free rfl) rfl (Rd.move (v := .int .u32 set1) rfl) ?_
    refine LW.rd hL rfl (Wants.free rfl) rfl (Rd.bin (v := .bool (t5 == set1)) rfl rfl (fun w => by kernel_rfl)) ?_
    refine LW.nil hL rfl ?_
    refine NW.then ?_
    refine CW.cond rfl (fun hb2 => ?_) (fun hb2 => ?_)
    · replace h := h.1 hb2
      refine CW.seq ?_
      refine CW.region fun L hL => ?_
      refine LW.rd hL rfl (Wants.free rfl) rfl (Rd.move (v := .int .i64 s1.2) rfl) ?_
      refine LW.rd hL rfl (Wants.free rfl) rfl (Rd.assign (v := .int .i64 s1.2) rfl) ?_
      refine LW.nil hL rfl ?_
      refine NW.then ?_
      refine CW.ret ?_
      refine RW.block ?_
      refine RW.then ?_
      refine RW.then ?_
      refine RW.block ?_
      refine RW.then ?_
      exact res1 rfl rfl ⟨s1.2, rfl, h⟩
    · replace h := h.2 hb2
      refine CW.skip ?_
      refine NW.block ?_
      refine NW.then ?_
      refine CW.region fun L hL => ?_
      refine LW.rd hL rfl (Wants.free rfl) rfl (Rd.move (v := .int .i64 s1.2) rfl) ?_
      refine LW.rd hL rfl (Wants.free rfl) rfl (Rd.bin (v := .int .i64 (IntKind.wrap .i64 (s1.2 + 1))) rfl rfl (fun w => by kernel_rfl)) ?_
      refine LW.rd hL rfl (Wants.free rfl) rfl (Rd.assign (v := .int .i64 (IntKind.wrap .i64 (s1.2 + 1))) rfl) ?_
      refine LW.nil hL rfl ?_
      exact NW.loop (S := Int × Int) (Ek := fun s1 => [(1, .int .u32 set1), (2, .pointer (some (⟨b1, 0, none⟩ : Addr))), (4, .int .i64 s1.1), (5, .int .i64 s1.2)]) (s1.1, IntKind.wrap .i64 (s1.2 + 1)) (by exact ⟨rfl, rfl, rfl, rfl, trivial⟩) h
  · replace h := h.2 hb1
    refine CW.exit ?_
    refine XW.then ?_
    refine XW.then ?_
    refine XW.hit ?_
    refine NW.then ?_
    refine CW.seq ?_
    refine CW.region fun L hL => ?_
    refine LW.rd hL rfl (Wants.free rfl) rfl (Rd.assign (v := .int .i64 (-1)) rfl) ?_
    refine LW.nil hL rfl ?_
    refine NW.then ?_
    refine CW.ret ?_
    exact res1 rfl rfl ⟨(-1), rfl, h⟩

/- pomander/pomanderref12.ahead -/
def V_pomanderref12_ahead (a1 : Int) (a2 : Int) (b1 : Int) (b2 : Int) (w : World) (R : Bool → World → Prop) : Prop :=
  ∀ b3 : Nat, b3 = World.size w → ∀ w1 : World, w1 = World.alloc w (.cells #[.int .i64 a1, .int .i64 a2] 56) → (∀ b4 : Nat, b4 = World.size w1 → ∀ w2 : World, w2 = World.alloc w1 (.cells #[.int .i64 b1, .int .i64 b2] 56) → (∃ (t1 : Int), w2.cell? (⟨b3, 0, none⟩ : Addr) = some (.int .i64 t1) ∧ (∃ (t2 : Int), w2.cell? (⟨b4, 0, none⟩ : Addr) = some (.int .i64 t2) ∧ (∃ J1 : Bool → World → Prop, (∀ (b5 : Bool) (w3 : World), J1 b5 w3 → R b5 w3) ∧ (((decide (t1 < t2)) = false → ∃ (t3 : Int), w2.cell? (⟨b3, 0, none⟩ : Addr) = some (.int .i64 t3) ∧ (∃ (t4 : Int), w2.cell? (⟨b4, 0, none⟩ : Addr) = some (.int .i64 t4) ∧ (∃ J2 : Bool → World → Prop, (∀ (b6 : Bool) (w4 : World), J2 b6 w4 → J1 b6 w4) ∧ (((t3 == t4) = true → ∃ (t5 : Int), w2.cell? (⟨b3, 1, none⟩ : Addr) = some (.int .i64 t5) ∧ (∃ (t6 : Int), w2.cell? (⟨b4, 1, none⟩ : Addr) = some (.int .i64 t6) ∧ (J2 (decide (t5 < t6)) w2))) ∧ ((t3 == t4) = false → J2 false w2))))) ∧ ((decide (t1 < t2)) = true → J1 true w2))))))
set_option maxRecDepth 100000 in
theorem ok_pomanderref12_ahead (a1 : Int) (a2 : Int) (b1 : Int) (b2 : Int) (w : World) (R : Bool → World → Prop) (h : V_pomanderref12_ahead a1 a2 b1 b2 w R) : Calls Try.prog 125 #[.agg #[.int .i64 a1, .int .i64 a2], .agg #[.int .i64 b1, .int .i64 b2]] w (fun e w' => ∃ (r1 : Bool), e = .returned (.bool r1) ∧ R r1 w') := by
  unfold V_pomanderref12_ahead at h
  refine enter (N := 24) Try.func125 rfl rfl ?_
  refine CW.seq ?_
  refine CW.region fun L hL => ?_
  obtain ⟨b3, hb_b3⟩ : ∃ b3, b3 = World.size w := ⟨_, rfl⟩
  obtain ⟨w1, hw_w1⟩ : ∃ w1, w1 = World.alloc w (.cells #[.int .i64 a1, .int .i64 a2] 56) := ⟨_, rfl⟩
  replace h := h b3 hb_b3 w1 hw_w1
  refine LW.val hL rfl (Wants.free rfl) rfl (boxE hb_b3 hw_w1 (Vl.box (v := .agg #[.int .i64 a1, .int .i64 a2]) rfl)) ?_
  obtain ⟨b4, hb_b4⟩ : ∃ b4, b4 = World.size w1 := ⟨_, rfl⟩
  obtain ⟨w2, hw_w2⟩ : ∃ w2, w2 = World.alloc w1 (.cells #[.int .i64 b1, .int .i64 b2] 56) := ⟨_, rfl⟩
  replace h := h b4 hb_b4 w2 hw_w2
  refine LW.val hL rfl (Wants.free rfl) rfl (boxE hb_b4 hw_w2 (Vl.box (v := .agg #[.int .i64 b1, .int .i64 b2]) rfl)) ?_
  refine LW.rd hL rfl (Wants.free rfl) rfl (Rd.assign (v := .bool false) rfl) ?_
  refine LW.nil hL rfl ?_
  refine NW.then ?_
  refine CW.seq ?_
  refine CW.region fun L hL => ?_
  refine LW.rd hL rfl (Wants.free rfl) rfl (Rd.fa (v := .pointer (some (⟨b3, 0, none⟩ : Addr))) rfl (fun _ => by kernel_rfl)) ?_
  obtain ⟨t1, hc1, h⟩ := h
  refine LW.rd hL rfl (Wants.free rfl) rfl (Rd.ld (v := .int .i64 t1) rfl (by kernel_rfl) (eqs hc1)) ?_
  refine LW.rd hL rfl (Wants.free rfl) rfl (Rd.fa (v := .pointer (some (⟨b4, 0, none⟩ : Addr))) rfl (fun _ => by kernel_rfl)) ?_
  obtain ⟨t2, hc2, h⟩ := h
  refine LW.rd hL rfl (Wants.free rfl) rfl (Rd.ld (v := .int .i64 t2) rfl (by kernel_rfl) (eqs hc2)) ?_
  refine LW.rd hL rfl (Wants.free rfl) rfl (Rd.bin (v := .bool (decide (t1 < t2))) rfl rfl (fun w => by kernel_rfl)) ?_
  refine LW.rd hL rfl (Wants.free rfl) rfl (Rd.move (v := .bool (decide (t1 < t2))) rfl) ?_
  obtain ⟨J1, hJ1, h1_J1, h0_J1⟩ := h
  suffices K1 : ∀ (b5 : Bool) (w3 : World), J1 b5 w3 → L 19 [(4, .bool false), (23, .bool b5)] w3 by
    rcases Bool.eq_false_or_eq_true (decide (t1 < t2)) with hb1 | hb1
    · have h := h0_J1 hb1
      refine LW.skip hL rfl (Skips.on rfl rfl rfl rfl rfl hb1) rfl ?_
      refine LW.skip hL rfl (Skips.on rfl rfl rfl rfl rfl hb1) rfl ?_
      refine LW.skip hL rfl (Skips.on rfl rfl rfl rfl rfl hb1) rfl ?_
      refine LW.skip hL rfl (Skips.on rfl rfl rfl rfl rfl hb1) rfl ?_
      refine LW.skip hL rfl (Skips.on rfl rfl rfl rfl rfl hb1) rfl ?_
      refine LW.skip hL rfl (Skips.on rfl rfl rfl rfl rfl hb1) rfl ?_
      refine LW.skip hL rfl (Skips.un rfl rfl rfl rfl rfl) rfl ?_
      refine LW.skip hL rfl (Skips.un rfl rfl rfl rfl rfl) rfl ?_
      refine LW.skip hL rfl (Skips.un rfl rfl rfl rfl rfl) rfl ?_
      refine LW.skip hL rfl (Skips.un rfl rfl rfl rfl rfl) rfl ?_
      refine LW.skip hL rfl (Skips.un rfl rfl rfl rfl rfl) rfl ?_
      refine LW.skip hL rfl (Skips.on rfl rfl rfl rfl rfl hb1) rfl ?_
      refine LW.rd hL rfl (Wants.free rfl) rfl (Rd.pickT rfl hb1 rfl) ?_
      exact LW.sub hL (by exact ⟨rfl, rfl, trivial⟩) (K1 true w2 h)
    · have h := h1_J1 hb1
      refine LW.rd hL rfl (Wants.on rfl rfl rfl rfl rfl hb1) rfl (Rd.fa (v := .pointer (some (⟨b3, 0, none⟩ : Addr))) rfl (fun _ => by kernel_rfl)) ?_
      obtain ⟨t3, hc3, h⟩ := h
      refine LW.rd hL rfl (Wants.on rfl rfl rfl rfl rfl hb1) rfl (Rd.ld (v := .int .i64 t3) rfl (by kernel_rfl) (eqs hc3)) ?_
      refine LW.rd hL rfl (Wants.on rfl rfl rfl rfl rfl hb1) rfl (Rd.fa (v := .pointer (some (⟨b4, 0, none⟩ : Addr))) rfl (fun _ => by kernel_rfl)) ?_
      obtain ⟨t4, hc4, h⟩ := h
      refine LW.rd hL rfl (Wants.on rfl rfl rfl rfl rfl hb1) rfl (Rd.ld (v := .int .i64 t4) rfl (by kernel_rfl) (eqs hc4)) ?_
      refine LW.rd hL rfl (Wants.on rfl rfl rfl rfl rfl hb1) rfl (Rd.bin (v := .bool (t3 == t4)) rfl rfl (fun w => by kernel_rfl)) ?_
      refine LW.rd hL rfl (Wants.on rfl rfl rfl rfl rfl hb1) rfl (Rd.move (v := .bool (t3 == t4)) rfl) ?_
      obtain ⟨J2, hJ2, h1_J2, h0_J2⟩ := h
      suffices K2 : ∀ (b6 : Bool) (w4 : World), J2 b6 w4 → L 18 [(4, .bool false), (10, .bool (decide (t1 < t2))), (22, .bool b6)] w4 by
        rcases Bool.eq_false_or_eq_true (t3 == t4) with hb2 | hb2
        · have h := h1_J2 hb2
          refine LW.rd hL rfl (Wants.on rfl rfl rfl rfl rfl hb2) rfl (Rd.fa (v := .pointer (some (⟨b3, 1, none⟩ : Addr))) rfl (fun _ => by kernel_rfl)) ?_
          obtain ⟨t5, hc5, h⟩ := h
          refine LW.rd hL rfl (Wants.on rfl rfl rfl rfl rfl hb2) rfl (Rd.ld (v := .int .i64 t5) rfl (by kernel_rfl) (eqs hc5)) ?_
          refine LW.rd hL rfl (Wants.on rfl rfl rfl rfl rfl hb2) rfl (Rd.fa (v := .pointer (some (⟨b4, 1, none⟩ : Addr))) rfl (fun _ => by kernel_rfl)) ?_
          obtain ⟨t6, hc6, h⟩ := h
          refine LW.rd hL rfl (Wants.on rfl rfl rfl rfl rfl hb2) rfl (Rd.ld (v := .int .i64 t6) rfl (by kernel_rfl) (eqs hc6)) ?_
          refine LW.rd hL rfl (Wants.on rfl rfl rfl rfl rfl hb2) rfl (Rd.bin (v := .bool (decide (t5 < t6))) rfl rfl (fun w => by kernel_rfl)) ?_
          refine LW.rd hL rfl (Wants.on rfl rfl rfl rfl rfl hb1) rfl (Rd.pickT rfl hb2 rfl) ?_
          exact LW.sub hL (by exact ⟨rfl, rfl, rfl, trivial⟩) (K2 (decide (t5 < t6)) w2 h)
        · have h := h0_J2 hb2
          refine LW.skip hL rfl (Skips.on rfl rfl rfl rfl rfl hb2) rfl ?_
          refine LW.skip hL rfl (Skips.on rfl rfl rfl rfl rfl hb2) rfl ?_
          refine LW.skip hL rfl (Skips.on rfl rfl rfl rfl rfl hb2) rfl ?_
          refine LW.skip hL rfl (Skips.on rfl rfl rfl rfl rfl hb2) rfl ?_
          refine LW.skip hL rfl (Skips.on rfl rfl rfl rfl rfl hb2) rfl ?_
          refine LW.rd hL rfl (Wants.on rfl rfl rfl rfl rfl hb1) rfl (Rd.pickF rfl hb2 rfl) ?_
          exact LW.sub hL (by exact ⟨rfl, rfl, rfl, trivial⟩) (K2 false w2 h)
      intro b6 w4 h_
      have h := hJ2 b6 w4 h_; clear h_
      refine LW.rd hL rfl (Wants.free rfl) rfl (Rd.pickF rfl hb1 rfl) ?_
      exact LW.sub hL (by exact ⟨rfl, rfl, trivial⟩) (K1 b6 w4 h)
  intro b5 w3 h_
  have h := hJ1 b5 w3 h_; clear h_
  refine LW.rd hL rfl (Wants.free rfl) rfl (Rd.assign (v := .bool b5) rfl) ?_
  refine LW.nil hL rfl ?_
  refine NW.then ?_
  refine CW.ret ?_
  exact res1 rfl rfl ⟨b5, rfl, h⟩

/- (*pomander/flow.Flow).bounds$1 -/
def V_flow_Flow_bounds_1  (w : World) (R : Int → World → Prop) : Prop :=
  R 1 w
set_option maxRecDepth 100000 in
theorem ok_flow_Flow_bounds_1  (w : World) (R : Int → World → Prop) (h : V_flow_Flow_bounds_1  w R) : Calls Try.prog 127 #[] w (fun e w' => ∃ (r1 : Int), e = .returned (.int .i64 r1) ∧ R r1 w') := by
  unfold V_flow_Flow_bounds_1 at h
  refine enter (N := 1) Try.func127 rfl rfl ?_
  refine CW.seq ?_
  refine CW.region fun L hL => ?_
  refine LW.rd hL rfl (Wants.free rfl) rfl (Rd.assign (v := .int .i64 0) rfl) ?_
  refine LW.nil hL rfl ?_
  refine NW.then ?_
  refine CW.seq ?_
  refine CW.region fun L hL => ?_
  refine LW.rd hL rfl (Wants.free rfl) rfl (Rd.assign (v := .int .i64 1) rfl) ?_
  refine LW.nil hL rfl ?_
  refine NW.then ?_
  refine CW.ret ?_
  exact res1 rfl rfl ⟨1, rfl, h⟩

/- (*pomander/flow.Flow).bounds$2 -/
def V_flow_Flow_bounds_2  (w : World) (R : Int → World → Prop) : Prop :=
  R 2147483648 w
set_option maxRecDepth 100000 in
theorem ok_flow_Flow_bounds_2  (w : World) (R : Int → World → Prop) (h : V_flow_Flow_bounds_2  w R) : Calls Try.prog 128 #[] w (fun e w' => ∃ (r1 : Int), e = .returned (.int .i64 r1) ∧ R r1 w') := by
  unfold V_flow_Flow_bounds_2 at h
  refine enter (N := 1) Try.func128 rfl rfl ?_
  refine CW.seq ?_
  refine CW.region fun L hL => ?_
  refine LW.rd hL rfl (Wants.free rfl) rfl (Rd.assign (v := .int .i64 0) rfl) ?_
  refine LW.nil hL rfl ?_
  refine NW.then ?_
  refine CW.seq ?_
  refine CW.region fun L hL => ?_
  refine LW.rd hL rfl (Wants.free rfl) rfl (Rd.assign (v := .int .i64 2147483648) rfl) ?_
  refine LW.nil hL rfl ?_
  refine NW.then ?_
  refine CW.ret ?_
  exact res1 rfl rfl ⟨2147483648, rfl, h⟩

/- (*pomander/flow.Flow).bounds$3 -/
def V_flow_Flow_bounds_3  (w : World) (R : Int → World → Prop) : Prop :=
  R 8 w
set_option maxRecDepth 100000 in
theorem ok_flow_Flow_bounds_3  (w : World) (R : Int → World → Prop) (h : V_flow_Flow_bounds_3  w R) : Calls Try.prog 129 #[] w (fun e w' => ∃ (r1 : Int), e = .returned (.int .i64 r1) ∧ R r1 w') := by
  unfold V_flow_Flow_bounds_3 at h
  refine enter (N := 1) Try.func129 rfl rfl ?_
  refine CW.seq ?_
  refine CW.region fun L hL => ?_
  refine LW.rd hL rfl (Wants.free rfl) rfl (Rd.assign (v := .int .i64 0) rfl) ?_
  refine LW.nil hL rfl ?_
  refine NW.then ?_
  refine CW.seq ?_
  refine CW.region fun L hL => ?_
  refine LW.rd hL rfl (Wants.free rfl) rfl (Rd.assign (v := .int .i64 8) rfl) ?_
  refine LW.nil hL rfl ?_
  refine NW.then ?_
  refine CW.ret ?_
  exact res1 rfl rfl ⟨8, rfl, h⟩

/- (*pomander/flow.Flow).bounds$4 -/
def V_flow_Flow_bounds_4  (w : World) (R : Int → World → Prop) : Prop :=
  R 4 w
set_option maxRecDepth 100000 in
theorem ok_flow_Flow_bounds_4  (w : World) (R : Int → World → Prop) (h : V_flow_Flow_bounds_4  w R) : Calls Try.prog 130 #[] w (fun e w' => ∃ (r1 : Int), e = .returned (.int .i64 r1) ∧ R r1 w') := by
  unfold V_flow_Flow_bounds_4 at h
  refine enter (N := 1) Try.func130 rfl rfl ?_
  refine CW.seq ?_
  refine CW.region fun L hL => ?_
  refine LW.rd hL rfl (Wants.free rfl) rfl (Rd.assign (v := .int .i64 0) rfl) ?_
  refine LW.nil hL rfl ?_
  refine NW.then ?_
  refine CW.seq ?_
  refine CW.region fun L hL => ?_
  refine LW.rd hL rfl (Wants.free rfl) rfl (Rd.assign (v := .int .i64 4) rfl) ?_
  refine LW.nil hL rfl ?_
  refine NW.then ?_
  refine CW.ret ?_
  exact res1 rfl rfl ⟨4, rfl, h⟩

/- (*pomander/flow.Flow).bounds$5 -/
def V_flow_Flow_bounds_5  (w : World) (R : Int → World → Prop) : Prop :=
  R 2 w
set_option maxRecDepth 100000 in
theorem ok_flow_Flow_bounds_5  (w : World) (R : Int → World → Prop) (h : V_flow_Flow_bounds_5  w R) : Calls Try.prog 131 #[] w (fun e w' => ∃ (r1 : Int), e = .returned (.int .i64 r1) ∧ R r1 w') := by
  unfold V_flow_Flow_bounds_5 at h
  refine enter (N := 1) Try.func131 rfl rfl ?_
  refine CW.seq ?_
  refine CW.region fun L hL => ?_
  refine LW.rd hL rfl (Wants.free rfl) rfl (Rd.assign (v := .int .i64 0) rfl) ?_
  refine LW.nil hL rfl ?_
  refine NW.then ?_
  refine CW.seq ?_
  refine CW.region fun L hL => ?_
  refine LW.rd hL rfl (Wants.free rfl) rfl (Rd.assign (v := .int .i64 2) rfl) ?_
  refine LW.nil hL rfl ?_
  refine NW.then ?_
  refine CW.ret ?_
  exact res1 rfl rfl ⟨2, rfl, h⟩

/- (*pomander/flow.Flow).bounds$6 -/
def V_flow_Flow_bounds_6 (cap1 : Addr) (w : World) (R : Int → World → Prop) : Prop :=
  ∃ (t1 : Option Addr), w.cell? cap1 = some (.pointer t1) ∧ (∃ a1 : Addr, t1 = some a1 ∧ (∃ (t2 : Int), w.cell? a1 = some (.int .i64 t2) ∧ (R (IntKind.wrap .i64 (t2 * 64)) w)))
set_option maxRecDepth 100000 in
theorem ok_flow_Flow_bounds_6 (cap1 : Addr) (w : World) (R : Int → World → Prop) (h : V_flow_Flow_bounds_6 cap1 w R) : Calls Try.prog 132 #[.pointer (some cap1)] w (fun e w' => ∃ (r1 : Int), e = .returned (.int .i64 r1) ∧ R r1 w') := by
  unfold V_flow_Flow_bounds_6 at h
  refine enter (N := 8) Try.func132 rfl rfl ?_
  refine CW.seq ?_
  refine CW.region fun L hL => ?_
  refine LW.rd hL rfl (Wants.free rfl) rfl (Rd.assign (v := .int .i64 0) rfl) ?_
  refine LW.nil hL rfl ?_
  refine NW.then ?_
  refine CW.seq ?_
  refine CW.region fun L hL => ?_
  obtain ⟨t1, hc1, h⟩ := h
  refine LW.rd hL rfl (Wants.free rfl) rfl (Rd.ld (v := .pointer t1) rfl (by kernel_rfl) (eqs hc1)) ?_
  obtain ⟨a1, ha1, h⟩ := h
  refine LW.rd hL rfl (Wants.free rfl) rfl (Rd.nil (q := a1) (by rw [← ha1]; rfl)) ?_
  refine LW.rd hL rfl (Wants.free rfl) rfl (Rd.fa (v := .pointer (some a1)) rfl (fun _ => by kernel_rfl)) ?_
  refine LW.rd hL rfl (Wants.free rfl) rfl (Rd.fa (v := .pointer (some a1)) rfl (fun _ => by kernel_rfl)) ?_
  obtain ⟨t2, hc2, h⟩ := h
  refine LW.rd hL rfl (Wants.free rfl) rfl (Rd.ld (v := .int .i64 t2) rfl (by kernel_rfl) (eqs hc2)) ?_
  refine LW.rd hL rfl (Wants.free rfl) rfl (Rd.bin (v := .int .i64 (IntKind.wrap .i64 (t2 * 64))) rfl rfl (fun w => by kernel_rfl)) ?_
  refine LW.rd hL rfl (Wants.free rfl) rfl (Rd.assign (v := .int .i64 (IntKind.wrap .i64 (t2 * 64))) rfl) ?_
  refine LW.nil hL rfl ?_
  refine NW.then ?_
  refine CW.ret ?_
  exact res1 rfl rfl ⟨IntKind.wrap .i64 (t2 * 64), rfl, h⟩

/- (*pomander/flow.Flow).bounds$7 -/
def V_flow_Flow_bounds_7 (cap1 : Addr) (w : World) (R : Int → World → Prop) : Prop :=
  ∃ (t1 : Option Addr), w.cell? cap1 = some (.pointer t1) ∧ (∃ a1 : Addr, t1 = some a1 ∧ (∃ (t2 : Int), w.cell? (a1.add 1) = some (.int .i64 t2) ∧ (R (IntKind.wrap .i64 (t2 * 64)) w)))
set_option maxRecDepth 100000 in
theorem ok_flow_Flow_bounds_7 (cap1 : Addr) (w : World) (R : Int → World → Prop) (h : V_flow_Flow_bounds_7 cap1 w R) : Calls Try.prog 133 #[.pointer (some cap1)] w (fun e w' => ∃ (r1 : Int), e = .returned (.int .i64 r1) ∧ R r1 w') := by
  unfold V_flow_Flow_bounds_7 at h
  refine enter (N := 8) Try.func133 rfl rfl ?_
  refine CW.seq ?_
  refine CW.region fun L hL => ?_
  refine LW.rd hL rfl (Wants.free rfl) rfl (Rd.assign (v := .int .i64 0) rfl) ?_
  refine LW.nil hL rfl ?_
  refine NW.then ?_
  refine CW.seq ?_
  refine CW.region fun L hL => ?_
  obtain ⟨t1, hc1, h⟩ := h
  refine LW.rd hL rfl (Wants.free rfl) rfl (Rd.ld (v := .pointer t1) rfl (by kernel_rfl) (eqs hc1)) ?_
  obtain ⟨a1, ha1, h⟩ := h
  refine LW.rd hL rfl (Wants.free rfl) rfl (Rd.nil (q := a1) (by rw [← ha1]; rfl)) ?_
  refine LW.rd hL rfl (Wants.free rfl) rfl (Rd.fa (v := .pointer (some a1)) rfl (fun _ => by kernel_rfl)) ?_
  refine LW.rd hL rfl (Wants.free rfl) rfl (Rd.fa (v := .pointer (some (a1.add 1))) rfl (fun _ => by kernel_rfl)) ?_
  obtain ⟨t2, hc2, h⟩ := h
  refine LW.rd hL rfl (Wants.free rfl) rfl (Rd.ld (v := .int .i64 t2) rfl (by kernel_rfl) (eqs hc2)) ?_
  refine LW.rd hL rfl (Wants.free rfl) rfl (Rd.bin (v := .int .i64 (IntKind.wrap .i64 (t2 * 64))) rfl rfl (fun w => by kernel_rfl)) ?_
  refine LW.rd hL rfl (Wants.free rfl) rfl (Rd.assign (v := .int .i64 (IntKind.wrap .i64 (t2 * 64))) rfl) ?_
  refine LW.nil hL rfl ?_
  refine NW.then ?_
  refine CW.ret ?_
  exact res1 rfl rfl ⟨IntKind.wrap .i64 (t2 * 64), rfl, h⟩

end Go.Proofs.Ytkfncibmfcdokaa
