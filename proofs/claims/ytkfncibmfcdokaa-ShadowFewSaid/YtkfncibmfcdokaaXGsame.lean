import Derived.Test.YtkfncibmfcdokaaXIter
import Derived.Test.YtkfncibmfcdokaaProg
import Derived.Test.YtkfncibmfcdokaaXEq
import Derived.Test.YtkfncibmfcdokaaXLoc
import Derived.Test.YtkfncibmfcdokaaXRange
set_option linter.unusedVariables false
set_option linter.unusedSimpArgs false
namespace Go.Proofs.Ytkfncibmfcdokaa
open Go Go.X

/- pomander/shadow.Same -/
def W_shadow_Same (a1 : Option Addr) (b1 : Option Addr) (w : World) (R : Bool → World → Prop) : Prop :=
  Calls Try.prog 90 #[.pointer a1] w fun e w1 => ∃ (r2 : Bool), e = .returned (.bool r2) ∧ (∃ J1 : Bool → World → Prop, (∀ (b2 : Bool) (w2 : World), J1 b2 w2 → (b2 = true → Calls Try.prog 90 #[.pointer a1] w2 fun e w4 => ∃ (r4 : Bool), e = .returned (.bool r4) ∧ (∃ J2 : Bool → World → Prop, (∀ (b3 : Bool) (w5 : World), J2 b3 w5 → R b3 w5) ∧ ((r4 = true → Calls Try.prog 90 #[.pointer b1] w4 fun e w6 => ∃ (r5 : Bool), e = .returned (.bool r5) ∧ (J2 r5 w6)) ∧ (r4 = false → J2 false w4)))) ∧ (b2 = false → ∃ a2 : Addr, a1 = some a2 ∧ (∀ (w7 : World), Chg [] w2 w7 → (∃ (t1 : Int), w7.cell? a2 = some (.int .i64 t1) ∧ (∃ a3 : Addr, b1 = some a3 ∧ (∃ (t2 : Int), w7.cell? a3 = some (.int .i64 t2) ∧ (∃ J3 : Bool → World → Prop, (∀ (b4 : Bool) (w8 : World), J3 b4 w8 → R b4 w8) ∧ (((t1 == t2) = true → ∃ (t3 : Option Nat), w7.cell? (a2.add 1) = some (.map t3) ∧ (∃ (t4 : Option Nat), w7.cell? (a3.add 1) = some (.map t4) ∧ (Calls Try.prog 96 #[.map t3, .map t4, .func (.func 97) #[] #[]] w7 fun e w9 => ∃ (r6 : Bool), e = .returned (.bool r6) ∧ (J3 r6 w9)))) ∧ ((t1 == t2) = false → J3 false w7))))))))) ∧ ((r2 = false → Calls Try.prog 90 #[.pointer b1] w1 fun e w3 => ∃ (r3 : Bool), e = .returned (.bool r3) ∧ (J1 r3 w3)) ∧ (r2 = true → J1 true w1)))
set_option maxRecDepth 100000 in
theorem go_shadow_Same (a1 : Option Addr) (b1 : Option Addr) (w : World) (R : Bool → World → Prop) (h : W_shadow_Same a1 b1 w R) : Calls Try.prog 53 #[.pointer a1, .pointer b1] w (fun e w' => ∃ (r1 : Bool), e = .returned (.bool r1) ∧ R r1 w') := by
  unfold W_shadow_Same at h
  refine enter (N := 37) Try.func53 rfl rfl ?_
  refine CW.seq ?_
  refine CW.region fun L hL => ?_
  refine LW.rd hL rfl (Wants.free rfl) rfl (Rd.assign (v := .bool false) rfl) ?_
  refine LW.nil hL rfl ?_
  refine NW.then ?_
  refine CW.seq ?_
  refine CW.seq ?_
  refine CW.region fun L hL => ?_
  refine LW.rd hL rfl (Wants.free rfl) rfl (Rd.move (v := .pointer a1) rfl) ?_
  refine LW.call hL rfl (Wants.free rfl) rfl (Cl.fn (f := 90) rfl Try.func90 (by kernel_rfl) rfl) h (fun e w1 h_ => ?_)
  clear h
  obtain ⟨r2, rfl, h⟩ := h_
  refine ⟨_, rfl, ?_⟩
  refine LW.rd hL rfl (Wants.free rfl) rfl (Rd.move (v := .bool r2) rfl) ?_
  obtain ⟨J1, hJ1, h1_J1, h0_J1⟩ := h
  suffices K1 : ∀ (b2 : Bool) (w2 : World), J1 b2 w2 → L 6 [(0, .pointer a1), (1, .pointer b1), (4, .bool false), (10, .bool b2)] w2 by
    rcases Bool.eq_false_or_eq_true r2 with hb1 | hb1
    · have h := h0_J1 hb1
      refine LW.skip hL rfl (Skips.on rfl rfl rfl rfl rfl hb1) rfl ?_
      refine LW.skip hL rfl (Skips.on rfl rfl rfl rfl rfl hb1) rfl ?_
      refine LW.rd hL rfl (Wants.free rfl) rfl (Rd.pickT rfl hb1 rfl) ?_
      exact LW.sub hL (by exact ⟨rfl, rfl, rfl, rfl, trivial⟩) (K1 true w1 h)
    · have h := h1_J1 hb1
      refine LW.rd hL rfl (Wants.on rfl rfl rfl rfl rfl hb1) rfl (Rd.move (v := .pointer b1) rfl) ?_
      refine LW.call hL rfl (Wants.on rfl rfl rfl rfl rfl hb1) rfl (Cl.fn (f := 90) rfl Try.func90 (by kernel_rfl) rfl) h (fun e w3 h_ => ?_)
      clear h
      obtain ⟨r3, rfl, h⟩ := h_
      refine ⟨_, rfl, ?_⟩
      refine LW.rd hL rfl (Wants.free rfl) rfl (Rd.pickF rfl hb1 rfl) ?_
      exact LW.sub hL (by exact ⟨rfl, rfl, rfl, rfl, trivial⟩) (K1 r3 w3 h)
  intro b2 w2 h_
  have h := hJ1 b2 w2 h_; clear h_
  refine LW.nil hL rfl ?_
  refine NW.then ?_
  refine CW.cond rfl (fun hb2 => ?_) (fun hb2 => ?_)
  · replace h := h.1 hb2
    refine CW.seq ?_
    refine CW.region fun L hL => ?_
    refine LW.rd hL rfl (Wants.free rfl) rfl (Rd.move (v := .pointer a1) rfl) ?_
    refine LW.call hL rfl (Wants.free rfl) rfl (Cl.fn (f := 90) rfl Try.func90 (by kernel_rfl) rfl) h (fun e w4 h_ => ?_)
    clear h
    obtain ⟨r4, rfl, h⟩ := h_
    refine ⟨_, rfl, ?_⟩
    refine LW.rd hL rfl (Wants.free rfl) rfl (Rd.move (v := .bool r4) rfl) ?_
    obtain ⟨J2, hJ2, h1_J2, h0_J2⟩ := h
    suffices K2 : ∀ (b3 : Bool) (w5 : World), J2 b3 w5 → L 6 [(0, .pointer a1), (1, .pointer b1), (4, .bool false), (16, .bool b3)] w5 by
      rcases Bool.eq_false_or_eq_true r4 with hb3 | hb3
      · have h := h1_J2 hb3
        refine LW.rd hL rfl (Wants.on rfl rfl rfl rfl rfl hb3) rfl (Rd.move (v := .pointer b1) rfl) ?_
        refine LW.call hL rfl (Wants.on rfl rfl rfl rfl rfl hb3) rfl (Cl.fn (f := 90) rfl Try.func90 (by kernel_rfl) rfl) h (fun e w6 h_ => ?_)
        clear h
        obtain ⟨r5, rfl, h⟩ := h_
        refine ⟨_, rfl, ?_⟩
        refine LW.rd hL rfl (Wants.free rfl) rfl (Rd.pickT rfl hb3 rfl) ?_
        exact LW.sub hL (by exact ⟨rfl, rfl, rfl, rfl, trivial⟩) (K2 r5 w6 h)
      · have h := h0_J2 hb3
        refine LW.skip hL rfl (Skips.on rfl rfl rfl rfl rfl hb3) rfl ?_
        refine LW.skip hL rfl (Skips.on rfl rfl rfl rfl rfl hb3) rfl ?_
        refine LW.rd hL rfl (Wants.free rfl) rfl (Rd.pickF rfl hb3 rfl) ?_
        exact LW.sub hL (by exact ⟨rfl, rfl, rfl, rfl, trivial⟩) (K2 false w4 h)
    intro b3 w5 h_
    have h := hJ2 b3 w5 h_; clear h_
    refine LW.rd hL rfl (Wants.free rfl) rfl (Rd.assign (v := .bool b3) rfl) ?_
    refine LW.nil hL rfl ?_
    refine NW.then ?_
    refine CW.ret ?_
    refine RW.then ?_
    exact res1 rfl rfl ⟨b3, rfl, h⟩
  · replace h := h.2 hb2
    refine CW.skip ?_
    refine NW.then ?_
    refine CW.seq ?_
    obtain ⟨w7, hw_w7⟩ : ∃ x, x = World.drew w2 := ⟨_, rfl⟩
    have hc_w7 := sil_drew (Chg.refl [] w2) hw_w7
    refine CW.drawn (fun w => w = w7) 18 (by kernel_rfl) fun H hH => ?_
    rw [← hw_w7]
    refine HW.pure (i := 0) hH rfl (by kernel_rfl) (Wants.free rfl) rfl (fun _ => rfl) (Rd.move (v := .pointer a1) rfl) ?_
    obtain ⟨a2, ha1, h⟩ := h
    refine HW.pure (i := 1) hH rfl (by kernel_rfl) (Wants.free rfl) rfl (fun _ => rfl) (Rd.nil (q := a2) (by rw [← ha1]; rfl)) ?_
    refine HW.pure (i := 2) hH rfl (by kernel_rfl) (Wants.free rfl) rfl (fun _ => rfl) (Rd.fa (v := .pointer (some a2)) rfl (fun _ => by kernel_rfl)) ?_
    replace h := h  w7  hc_w7
    obtain ⟨t1, hc1, h⟩ := h
    refine HW.take (i := 3) hH rfl (by kernel_rfl) (by kernel_rfl) (Wants.free rfl) rfl (fun _ => rfl) (Rd.ld (v := .int .i64 t1) rfl (by kernel_rfl) (eqs hc1)) ?_
    refine HW.pure (i := 4) hH rfl (by kernel_rfl) (Wants.free rfl) rfl (fun _ => rfl) (Rd.move (v := .pointer b1) rfl) ?_
    obtain ⟨a3, ha2, h⟩ := h
    refine HW.pure (i := 5) hH rfl (by kernel_rfl) (Wants.free rfl) rfl (fun _ => rfl) (Rd.nil (q := a3) (by rw [← ha2]; rfl)) ?_
    refine HW.pure (i := 6) hH rfl (by kernel_rfl) (Wants.free rfl) rfl (fun _ => rfl) (Rd.fa (v := .pointer (some a3)) rfl (fun _ => by kernel_rfl)) ?_
    obtain ⟨t2, hc2, h⟩ := h
    refine HW.take (i := 7) hH rfl (by kernel_rfl) (by kernel_rfl) (Wants.free rfl) rfl (fun _ => rfl) (Rd.ld (v := .int .i64 t2) rfl (by kernel_rfl) (eqs hc2)) ?_
    refine HW.pure (i := 8) hH rfl (by kernel_rfl) (Wants.free rfl) rfl (fun _ => rfl) (Rd.bin (v := .bool (t1 == t2)) rfl rfl (fun w => by kernel_rfl)) ?_
    refine HW.pure (i := 9) hH rfl (by kernel_rfl) (Wants.free rfl) rfl (fun _ => rfl) (Rd.move (v := .bool (t1 == t2)) rfl) ?_
    obtain ⟨J3, hJ3, h1_J3, h0_J3⟩ := h
    suffices K3 : ∀ (b4 : Bool) (w8 : World), J3 b4 w8 → H 1 #[true, true, true, true, true, true, true, true, true, true, true, true, true, true, true, true, true, true, true, true, false] [(4, .bool false), (36, .bool b4)] w8 by
      rcases Bool.eq_false_or_eq_true (t1 == t2) with hb4 | hb4
      · have h := h1_J3 hb4
        refine HW.pure (i := 10) hH rfl (by kernel_rfl) (Wants.on rfl rfl rfl rfl rfl hb4) rfl (fun _ => rfl) (Rd.move (v := .pointer a1) rfl) ?_
        refine HW.pure (i := 11) hH rfl (by kernel_rfl) (Wants.on rfl rfl rfl rfl rfl hb4) rfl (fun _ => rfl) (Rd.nil (q := a2) (by rw [← ha1]; rfl)) ?_
        refine HW.pure (i := 12) hH rfl (by kernel_rfl) (Wants.on rfl rfl rfl rfl rfl hb4) rfl (fun _ => rfl) (Rd.fa (v := .pointer (some (a2.add 1))) rfl (fun _ => by kernel_rfl)) ?_
        obtain ⟨t3, hc3, h⟩ := h
        refine HW.take (i := 13) hH rfl (by kernel_rfl) (by kernel_rfl) (Wants.on rfl rfl rfl rfl rfl hb4) rfl (fun _ => rfl) (Rd.ld (v := .map t3) rfl (by kernel_rfl) (eqs hc3)) ?_
        refine HW.pure (i := 14) hH rfl (by kernel_rfl) (Wants.on rfl rfl rfl rfl rfl hb4) rfl (fun _ => rfl) (Rd.move (v := .pointer b1) rfl) ?_
        refine HW.pure (i := 15) hH rfl (by kernel_rfl) (Wants.on rfl rfl rfl rfl rfl hb4) rfl (fun _ => rfl) (Rd.nil (q := a3) (by rw [← ha2]; rfl)) ?_
        refine HW.pure (i := 16) hH rfl (by kernel_rfl) (Wants.on rfl rfl rfl rfl rfl hb4) rfl (fun _ => rfl) (Rd.fa (v := .pointer (some (a3.add 1))) rfl (fun _ => by kernel_rfl)) ?_
        obtain ⟨t4, hc4, h⟩ := h
        refine HW.take (i := 17) hH rfl (by kernel_rfl) (by kernel_rfl) (Wants.on rfl rfl rfl rfl rfl hb4) rfl (fun _ => rfl) (Rd.ld (v := .map t4) rfl (by kernel_rfl) (eqs hc4)) ?_
        refine HW.call (i := 18) hH (by kernel_rfl) rfl (Wants.on rfl rfl rfl rfl rfl hb4) rfl (Cl.fn (f := 96) rfl Try.func96 (by kernel_rfl) rfl) h (fun e w9 h_ => ?_)
        clear h
        obtain ⟨r6, rfl, h⟩ := h_
        refine ⟨_, rfl, (fun hc => by cases hc), ?_⟩
        refine HW.pure (i := 19) hH rfl (by kernel_rfl) (Wants.free rfl) rfl (fun hc => by cases hc) (Rd.pickT rfl hb4 rfl) ?_
        exact HW.sub hH (by exact ⟨rfl, rfl, trivial⟩) (K3 r6 w9 h)
      · have h := h0_J3 hb4
        refine HW.skip (i := 10) hH rfl (by kernel_rfl) (Skips.on rfl rfl rfl rfl rfl hb4) rfl (fun _ => rfl) ?_
        refine HW.skip (i := 11) hH rfl (by kernel_rfl) (Skips.on rfl rfl rfl rfl rfl hb4) rfl (fun _ => rfl) ?_
        refine HW.skip (i := 12) hH rfl (by kernel_rfl) (Skips.on rfl rfl rfl rfl rfl hb4) rfl (fun _ => rfl) ?_
        refine HW.skip (i := 13) hH rfl (by kernel_rfl) (Skips.on rfl rfl rfl rfl rfl hb4) rfl (fun _ => rfl) ?_
        refine HW.skip (i := 14) hH rfl (by kernel_rfl) (Skips.on rfl rfl rfl rfl rfl hb4) rfl (fun _ => rfl) ?_
        refine HW.skip (i := 15) hH rfl (by kernel_rfl) (Skips.on rfl rfl rfl rfl rfl hb4) rfl (fun _ => rfl) ?_
        refine HW.skip (i := 16) hH rfl (by kernel_rfl) (Skips.on rfl rfl rfl rfl rfl hb4) rfl (fun _ => rfl) ?_
        refine HW.skip (i := 17) hH rfl (by kernel_rfl) (Skips.on rfl rfl rfl rfl rfl hb4) rfl (fun _ => rfl) ?_
        refine HW.skip1 (i := 18) hH (by kernel_rfl) rfl (Skips.on rfl rfl rfl rfl rfl hb4) rfl (fun hc => by cases hc) ?_
        refine HW.pure (i := 19) hH rfl (by kernel_rfl) (Wants.free rfl) rfl (fun hc => by cases hc) (Rd.pickF rfl hb4 rfl) ?_
        exact HW.sub hH (by exact ⟨rfl, rfl, trivial⟩) (K3 false w7 h)
    intro b4 w8 h_
    have h := hJ3 b4 w8 h_; clear h_
    refine HW.pure (i := 20) hH rfl (by kernel_rfl) (Wants.free rfl) rfl (fun hc => by cases hc) (Rd.assign (v := .bool b4) rfl) ?_
    refine HW.done hH (by kernel_rfl) ?_
    refine NW.then ?_
    refine CW.ret ?_
    exact res1 rfl rfl ⟨b4, rfl, h⟩

/- maps.EqualFunc[map[int]*pomander/shadow.page,map[int]*pomander/shadow.page,int,*pomander/shadow.page,*pomander/shadow.page] -/
def W_maps_EqualFunc_324 (m11 : Option Nat) (m21 : Option Nat) (eq1 : Value) (w : World) (R : Bool → World → Prop) : Prop :=
  ∃ n1 : Int, (Builtin.len_ #[173] 3 #[.map m11]).run Try.prog w = .ok (.int .i64 n1) w ∧ (∃ n2 : Int, (Builtin.len_ #[173] 3 #[.map m21]).run Try.prog w = .ok (.int .i64 n2) w ∧ (((!(n1 == n2)) = true → R false w) ∧ ((!(n1 == n2)) = false → ∃ (it1 : Option Addr) (w1 : World), (Instr.range 173 (.map m11)).run Try.prog w = .ok (.pointer it1) w1 ∧ (∃ (I1 : Bool → World → Prop) (m1 : Bool → World → Nat), I1 false w1 ∧ ∀ (x1 : Bool) (w2 : World), I1 x1 w2 → ∃ (nx1 : Array Value) (ok1 : Bool) (w3 : World), (Instr.next (.pointer it1) false 0).run Try.prog w2 = .ok (.tuple nx1) w3 ∧ nx1[0]? = some (.bool ok1) ∧ ((ok1 = true → ∃ (k1 : Int) (v1 : Option Addr), (Instr.entry (.pointer it1)).run Try.prog w3 = .ok (.tuple #[.int .i64 k1, .pointer v1]) w3 ∧ (∃ (v2 : Option Addr) (ok2 : Bool), (Instr.lookup 173 (.map m21) (.int .i64 k1) true).run Try.prog w3 = .ok (.tuple #[.pointer v2, .bool ok2]) w3 ∧ (∃ J1 : Bool → World → Prop, (∀ (b1 : Bool) (w4 : World), J1 b1 w4 → (b1 = true → R false w4) ∧ (b1 = false → (I1 x1 w4 ∧ m1 x1 w4 < m1 x1 w2))) ∧ (((!ok2) = false → XR.CallsY Try.prog eq1 #[.pointer v1, .pointer v2] w3 fun e w5 => ∃ (r2 : Bool), e = .returned (.bool r2) ∧ (J1 (!r2) w5)) ∧ ((!ok2) = true → J1 true w3))))) ∧ (ok1 = false → R true w3))))))
set_option maxRecDepth 100000 in
theorem go_maps_EqualFunc_324 (m11 : Option Nat) (m21 : Option Nat) (eq1 : Value) (w : World) (R : Bool → World → Prop) (h : W_maps_EqualFunc_324 m11 m21 eq1 w R) : Calls Try.prog 96 #[.map m11, .map m21, eq1] w (fun e w' => ∃ (r1 : Bool), e = .returned (.bool r1) ∧ R r1 w') := by
  unfold W_maps_EqualFunc_324 at h
  refine enter (N := 38) Try.func96 rfl rfl ?_
  refine CW.seq ?_
  refine CW.region fun L hL => ?_
  refine LW.rd hL rfl (Wants.free rfl) rfl (Rd.assign (v := .bool false) rfl) ?_
  refine LW.nil hL rfl ?_
  refine NW.then ?_
  refine CW.seq ?_
  refine CW.seq ?_
  refine CW.region fun L hL => ?_
  refine LW.rd hL rfl (Wants.free rfl) rfl (Rd.move (v := .map m11) rfl) ?_
  obtain ⟨n1, hl1, h⟩ := h
  refine LW.rd hL rfl (Wants.free rfl) rfl (Rd.builtin (v := .int .i64 n1) rfl (fun _ e => e ▸ lenB hl1)) ?_
  refine LW.rd hL rfl (Wants.free rfl) rfl (Rd.move (v := .map m21) rfl) ?_
  obtain ⟨n2, hl2, h⟩ := h
  refine LW.rd hL rfl (Wants.free rfl) rfl (Rd.builtin (v := .int .i64 n2) rfl (fun _ e => e ▸ lenB hl2)) ?_
  refine LW.rd hL rfl (Wants.free rfl) rfl (Rd.bin (v := .bool (!(n1 == n2))) rfl rfl (fun w => by kernel_rfl)) ?_
  refine LW.nil hL rfl ?_
  refine NW.then ?_
  refine CW.cond rfl (fun hb1 => ?_) (fun hb1 => ?_)
  · replace h := h.1 hb1
    refine CW.seq ?_
    refine CW.region fun L hL => ?_
    refine LW.rd hL rfl (Wants.free rfl) rfl (Rd.assign (v := .bool false) rfl) ?_
    refine LW.nil hL rfl ?_
    refine NW.then ?_
    refine CW.ret ?_
    refine RW.then ?_
    exact res1 rfl rfl ⟨false, rfl, h⟩
  · replace h := h.2 hb1
    refine CW.skip ?_
    refine NW.then ?_
    refine CW.seq ?_
    refine CW.seq ?_
    refine CW.region fun L hL => ?_
    refine LW.rd hL rfl (Wants.free rfl) rfl (Rd.move (v := .map m11) rfl) ?_
    obtain ⟨it1, w1, hm1, h⟩ := h
    refine LW.val hL rfl (Wants.free rfl) rfl (Vl.range (v := .pointer it1) rfl hm1) ?_
    refine LW.nil hL rfl ?_
    refine NW.then ?_
    refine CW.block ?_
    obtain ⟨I1, m1, hI1, h⟩ := h
    refine CW.loop (S := Bool) (fun x1 => [(1, .map m21), (2, eq1), (17, .pointer it1), (6, .bool x1)]) (fun x1 w2 => I1 x1 w2) (fun x1 w2 => m1 x1 w2) false (by exact ⟨rfl, rfl, rfl, rfl, trivial⟩) hI1 (fun x1 w2 hI1 => ?_)
    replace h := h x1 w2 hI1
    refine CW.seq ?_
    refine CW.region fun L hL => ?_
    obtain ⟨nx1, ok1, w3, hm2, hk1, h⟩ := h
    refine LW.val hL rfl (Wants.free rfl) rfl (Vl.next (v := .tuple nx1) rfl hm2) ?_
    refine LW.rd hL rfl (Wants.free rfl) rfl (Rd.extract (v := .bool ok1) rfl hk1) ?_
    refine LW.nil hL rfl ?_
    refine NW.then ?_
    refine CW.seq ?_
    refine CW.cond rfl (fun hb2 => ?_) (fun hb2 => ?_)
    · replace h := h.1 hb2
      refine CW.skip ?_
      refine NW.then ?_
      refine CW.block ?_
      refine CW.seq ?_
      refine CW.region fun L hL => ?_
      obtain ⟨k1, v1, hl3, h⟩ := h
      refine LW.rd hL rfl (Wants.free rfl) rfl (Rd.entry (v := .tuple #[.int .i64 k1, .pointer v1]) rfl (fun _ e => e ▸ hl3)) ?_
      refine LW.rd hL rfl (Wants.free rfl) rfl (Rd.extract (v := .int .i64 k1) rfl rfl) ?_
      refine LW.rd hL rfl (Wants.free rfl) rfl (Rd.extract (v := .pointer v1) rfl rfl) ?_
      refine LW.rd hL rfl (Wants.free rfl) rfl (Rd.assign (v := .int .i64 k1) rfl) ?_
      refine LW.rd hL rfl (Wants.free rfl) rfl (Rd.assign (v := .pointer v1) rfl) ?_
      refine LW.nil hL rfl ?_
      refine NW.then ?_
      refine CW.seq ?_
      refine CW.region fun L hL => ?_
      refine LW.rd hL rfl (Wants.free rfl) rfl (Rd.move (v := .map m21) rfl) ?_
      refine LW.rd hL rfl (Wants.free rfl) rfl (Rd.move (v := .int .i64 k1) rfl) ?_
      obtain ⟨v2, ok2, hl4, h⟩ := h
      refine LW.rd hL rfl (Wants.free rfl) rfl (Rd.lookup (v := .tuple #[.pointer v2, .bool ok2]) rfl rfl (fun _ e => e ▸ hl4)) ?_
      refine LW.rd hL rfl (Wants.free rfl) rfl (Rd.move (v := .tuple #[.pointer v2, .bool ok2]) rfl) ?_
      refine LW.rd hL rfl (Wants.free rfl) rfl (Rd.extract (v := .pointer v2) rfl rfl) ?_
      refine LW.rd hL rfl (Wants.free rfl) rfl (Rd.extract (v := .bool ok2) rfl rfl) ?_
      refine LW.rd hL rfl (Wants.free rfl) rfl (Rd.assign (v := .pointer v2) rfl) ?_
      refine LW.rd hL rfl (Wants.free rfl) rfl (Rd.assign (v := .bool ok2) rfl) ?_
      refine LW.nil hL rfl ?_
      refine NW.then ?_
      refine CW.seq ?_
      refine XR.CW.un ?_
      refine XR.CW.region fun L hL => ?_
      refine XR.LW.rd hL rfl (Wants.free rfl) rfl (Rd.move (v := .bool ok2) rfl) ?_
      refine XR.LW.rd hL rfl (Wants.free rfl) rfl (Rd.un (v := .bool (!ok2)) rfl (fun _ => by kernel_rfl)) ?_
      refine XR.LW.rd hL rfl (Wants.free rfl) rfl (Rd.move (v := .bool (!ok2)) rfl) ?_
      obtain ⟨J1, hJ1, h1_J1, h0_J1⟩ := h
      suffices K1 : ∀ (b1 : Bool) (w4 : World), J1 b1 w4 → L 9 [(1, .map m21), (2, eq1), (6, .bool x1), (17, .pointer it1), (37, .bool b1)] w4 by
        rcases Bool.eq_false_or_eq_true (!ok2) with hb3 | hb3
        · have h := h0_J1 hb3
          refine XR.LW.skip hL rfl (Skips.on rfl rfl rfl rfl rfl hb3) rfl ?_
          refine XR.LW.skip hL rfl (Skips.on rfl rfl rfl rfl rfl hb3) rfl ?_
          refine XR.LW.skip hL rfl (Skips.on rfl rfl rfl rfl rfl hb3) rfl ?_
          refine XR.LW.skip hL rfl (Skips.on rfl rfl rfl rfl rfl hb3) rfl ?_
          refine XR.LW.skip hL rfl (Skips.on rfl rfl rfl rfl rfl hb3) rfl ?_
          refine XR.LW.rd hL rfl (Wants.free rfl) rfl (Rd.pickT rfl hb3 rfl) ?_
          exact XR.LW.sub hL (by exact ⟨rfl, rfl, rfl, rfl, rfl, trivial⟩) (K1 true w3 h)
        · have h := h1_J1 hb3
          refine XR.LW.rd hL rfl (Wants.on rfl rfl rfl rfl rfl hb3) rfl (Rd.move (v := eq1) rfl) ?_
          refine XR.LW.rd hL rfl (Wants.on rfl rfl rfl rfl rfl hb3) rfl (Rd.move (v := .pointer v1) rfl) ?_
          refine XR.LW.rd hL rfl (Wants.on rfl rfl rfl rfl rfl hb3) rfl (Rd.move (v := .pointer v2) rfl) ?_
          refine XR.LW.callY hL rfl (Wants.on rfl rfl rfl rfl rfl hb3) rfl rfl rfl h (fun e w5 h_ => ?_)
          clear h
          obtain ⟨r2, rfl, h⟩ := h_
          refine ⟨_, rfl, ?_⟩
          refine XR.LW.rd hL rfl (Wants.on rfl rfl rfl rfl rfl hb3) rfl (Rd.un (v := .bool (!r2)) rfl (fun _ => by kernel_rfl)) ?_
          refine XR.LW.rd hL rfl (Wants.free rfl) rfl (Rd.pickF rfl hb3 rfl) ?_
          exact XR.LW.sub hL (by exact ⟨rfl, rfl, rfl, rfl, rfl, trivial⟩) (K1 (!r2) w5 h)
      intro b1 w4 h_
      have h := hJ1 b1 w4 h_; clear h_
      refine XR.LW.nil hL rfl ?_
      refine NW.then ?_
      refine CW.cond rfl (fun hb4 => ?_) (fun hb4 => ?_)
      · replace h := h.1 hb4
        refine CW.seq ?_
        refine CW.region fun L hL => ?_
        refine LW.rd hL rfl (Wants.free rfl) rfl (Rd.assign (v := .bool false) rfl) ?_
        refine LW.nil hL rfl ?_
        refine NW.then ?_
        refine CW.ret ?_
        refine RW.block ?_
        refine RW.then ?_
        refine RW.block ?_
        refine RW.then ?_
        exact res1 rfl rfl ⟨false, rfl, h⟩
      · replace h := h.2 hb4
        refine CW.skip ?_
        refine NW.block ?_
        exact NW.loop (S := Bool) (Ek := fun x1 => [(1, .map m21), (2, eq1), (17, .pointer it1), (6, .bool x1)]) x1 (by exact ⟨rfl, rfl, rfl, rfl, trivial⟩) h
    · replace h := h.2 hb2
      refine CW.exit ?_
      refine XW.then ?_
      refine XW.then ?_
      refine XW.hit ?_
      refine NW.then ?_
      refine CW.seq ?_
      refine CW.region fun L hL => ?_
      refine LW.rd hL rfl (Wants.free rfl) rfl (Rd.assign (v := .bool true) rfl) ?_
      refine LW.nil hL rfl ?_
      refine NW.then ?_
      refine CW.ret ?_
      exact res1 rfl rfl ⟨true, rfl, h⟩

/- pomander/shadow.alike[pomander/shadow.page] -/
def W_shadow_alike_878 (a1 : Option Addr) (b1 : Option Addr) (w : World) (R : Bool → World → Prop) : Prop :=
  ∃ a2 : Addr, a1 = some a2 ∧ (∀ (w1 : World), Chg [] w w1 → (∃ (t1 : List Value), t1.length = 65 ∧ CellsAt w1 a2 0 t1 ∧ (∃ a3 : Addr, b1 = some a3 ∧ (∃ (t2 : List Value), t2.length = 65 ∧ CellsAt w1 a3 0 t2 ∧ (∃ (t3 : Bool), (∀ w : World, ((do eqGuard .eql 181 (.tmp 7) (.tmp 10) (.agg (t1).toArray) (.agg (t2).toArray); binOp .eql 181 (.agg (t1).toArray) (.agg (t2).toArray) : Sem Value)).run Try.prog w = .ok (.bool t3) w) ∧ (R t3 w1))))))
set_option maxRecDepth 100000 in
theorem go_shadow_alike_878 (a1 : Option Addr) (b1 : Option Addr) (w : World) (R : Bool → World → Prop) (h : W_shadow_alike_878 a1 b1 w R) : Calls Try.prog 97 #[.pointer a1, .pointer b1] w (fun e w' => ∃ (r1 : Bool), e = .returned (.bool r1) ∧ R r1 w') := by
  unfold W_shadow_alike_878 at h
  refine enter (N := 12) Try.func97 rfl rfl ?_
  refine CW.seq ?_
  refine CW.region fun L hL => ?_
  refine LW.rd hL rfl (Wants.free rfl) rfl (Rd.assign (v := .bool false) rfl) ?_
  refine LW.nil hL rfl ?_
  refine NW.then ?_
  refine CW.seq ?_
  obtain ⟨w1, hw_w1⟩ : ∃ x, x = World.drew w := ⟨_, rfl⟩
  have hc_w1 := sil_drew (Chg.refl [] w) hw_w1
  refine CW.drawn (fun w => w = w1) 8 (by kernel_rfl) fun H hH => ?_
  rw [← hw_w1]
  refine HW.pure (i := 0) hH rfl (by kernel_rfl) (Wants.free rfl) rfl (fun _ => rfl) (Rd.move (v := .pointer a1) rfl) ?_
  obtain ⟨a2, ha1, h⟩ := h
  refine HW.pure (i := 1) hH rfl (by kernel_rfl) (Wants.free rfl) rfl (fun _ => rfl) (Rd.nil (q := a2) (by rw [← ha1]; rfl)) ?_
  replace h := h  w1  hc_w1
  obtain ⟨t1, hl1, hc1, h⟩ := h
  refine HW.take (i := 2) hH rfl (by kernel_rfl) (by kernel_rfl) (Wants.free rfl) rfl (fun _ => rfl) (Rd.ldN (cs := t1) rfl (by kernel_rfl) (by rw [hl1]; kernel_rfl) (cellsS hc1)) ?_
  refine HW.pure (i := 3) hH rfl (by kernel_rfl) (Wants.free rfl) rfl (fun _ => rfl) (Rd.move (v := .pointer b1) rfl) ?_
  obtain ⟨a3, ha2, h⟩ := h
  refine HW.pure (i := 4) hH rfl (by kernel_rfl) (Wants.free rfl) rfl (fun _ => rfl) (Rd.nil (q := a3) (by rw [← ha2]; rfl)) ?_
  obtain ⟨t2, hl2, hc2, h⟩ := h
  refine HW.take (i := 5) hH rfl (by kernel_rfl) (by kernel_rfl) (Wants.free rfl) rfl (fun _ => rfl) (Rd.ldN (cs := t2) rfl (by kernel_rfl) (by rw [hl2]; kernel_rfl) (cellsS hc2)) ?_
  obtain ⟨t3, hx1, h⟩ := h
  refine HW.pure (i := 6) hH rfl (by kernel_rfl) (Wants.free rfl) rfl (fun _ => rfl) (Rd.bin (v := .bool t3) rfl rfl hx1) ?_
  refine HW.pure (i := 7) hH rfl (by kernel_rfl) (Wants.free rfl) rfl (fun _ => rfl) (Rd.assign (v := .bool t3) rfl) ?_
  refine HW.done hH (by kernel_rfl) ?_
  refine NW.then ?_
  refine CW.ret ?_
  exact res1 rfl rfl ⟨t3, rfl, h⟩

end Go.Proofs.Ytkfncibmfcdokaa
