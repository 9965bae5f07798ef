import Derived.Test.YtkfncibmfcdokaaProg
import Derived.Test.YtkfncibmfcdokaaXEq
import Derived.Test.YtkfncibmfcdokaaXLoc
import Derived.Test.YtkfncibmfcdokaaXRange
set_option linter.unusedVariables false
set_option linter.unusedSimpArgs false
namespace Go.Proofs.Ytkfncibmfcdokaa
open Go Go.X

/- maps.Clone[map[pomander/api.Place]uint32,pomander/api.Place,uint32] -/
def W_maps_Clone_134 (m1 : Option Nat) (w : World) (R : (Option Nat) → World → Prop) : Prop :=
  ((Option.isNone m1) = true → R none w) ∧ ((Option.isNone m1) = false → ∃ (r2 : Value) (w1 : World), (callFunc 114 #[(.iface 143 (.map m1))]).run Try.prog w = .ok (.value (r2)) w1 ∧ (∃ (x1 : Option Nat), (∀ w : World, (Instr.typeAssert (r2) 20 143 false).run Try.prog w = .ok (.map x1) w) ∧ (R x1 w1)))
set_option maxRecDepth 100000 in
theorem go_maps_Clone_134 (m1 : Option Nat) (w : World) (R : (Option Nat) → World → Prop) (h : W_maps_Clone_134 m1 w R) : Calls Try.prog 80 #[.map m1] w (fun e w' => ∃ (r1 : Option Nat), e = .returned (.map r1) ∧ R r1 w') := by
  unfold W_maps_Clone_134 at h
  refine enter (N := 9) Try.func80 rfl rfl ?_
  refine CW.seq ?_
  refine CW.region fun L hL => ?_
  refine LW.rd hL rfl (Wants.free rfl) rfl (Rd.assign (v := .map none) rfl) ?_
  refine LW.nil hL rfl ?_
  refine NW.then ?_
  refine CW.seq ?_
  refine CW.seq ?_
  refine CW.region fun L hL => ?_
  refine LW.rd hL rfl (Wants.free rfl) rfl (Rd.move (v := .map m1) rfl) ?_
  refine LW.rd hL rfl (Wants.free rfl) rfl (Rd.bin (v := .bool (Option.isNone m1)) rfl rfl (fun w => map_nil_eq (by kernel_rfl) m1 w)) ?_
  refine LW.nil hL rfl ?_
  refine NW.then ?_
  refine CW.cond rfl (fun hb1 => ?_) (fun hb1 => ?_)
  · replace h := h.1 hb1
    refine CW.seq ?_
    refine CW.region fun L hL => ?_
    refine LW.rd hL rfl (Wants.free rfl) rfl (Rd.assign (v := .map none) rfl) ?_
    refine LW.nil hL rfl ?_
    refine NW.then ?_
    refine CW.ret ?_
    refine RW.then ?_
    exact res1 rfl rfl ⟨none, rfl, h⟩
  · replace h := h.2 hb1
    refine CW.skip ?_
    refine NW.then ?_
    refine CW.seq ?_
    refine CW.region fun L hL => ?_
    refine LW.rd hL rfl (Wants.free rfl) rfl (Rd.move (v := .map m1) rfl) ?_
    refine LW.rd hL rfl (Wants.free rfl) rfl (Rd.makeInterface (v := .iface 143 (.map m1)) rfl (fun _ => by kernel_rfl)) ?_
    obtain ⟨r2, w1, hx1, h⟩ := h
    refine LW.val hL rfl (Wants.free rfl) rfl (Vl.extern (v := r2) rfl hx1) ?_
    obtain ⟨x1, hx2, h⟩ := h
    refine LW.rd hL rfl (Wants.free rfl) rfl (Rd.typeAssert (v := .map x1) rfl hx2) ?_
    refine LW.rd hL rfl (Wants.free rfl) rfl (Rd.assign (v := .map x1) rfl) ?_
    refine LW.nil hL rfl ?_
    refine NW.then ?_
    refine CW.ret ?_
    exact res1 rfl rfl ⟨x1, rfl, h⟩

/- maps.Clone[map[uint32]int,uint32,int] -/
def W_maps_Clone_416 (m1 : Option Nat) (w : World) (R : (Option Nat) → World → Prop) : Prop :=
  ((Option.isNone m1) = true → R none w) ∧ ((Option.isNone m1) = false → ∃ (r2 : Value) (w1 : World), (callFunc 114 #[(.iface 198 (.map m1))]).run Try.prog w = .ok (.value (r2)) w1 ∧ (∃ (x1 : Option Nat), (∀ w : World, (Instr.typeAssert (r2) 20 198 false).run Try.prog w = .ok (.map x1) w) ∧ (R x1 w1)))
set_option maxRecDepth 100000 in
theorem go_maps_Clone_416 (m1 : Option Nat) (w : World) (R : (Option Nat) → World → Prop) (h : W_maps_Clone_416 m1 w R) : Calls Try.prog 112 #[.map m1] w (fun e w' => ∃ (r1 : Option Nat), e = .returned (.map r1) ∧ R r1 w') := by
  unfold W_maps_Clone_416 at h
  refine enter (N := 9) Try.func112 rfl rfl ?_
  refine CW.seq ?_
  refine CW.region fun L hL => ?_
  refine LW.rd hL rfl (Wants.free rfl) rfl (Rd.assign (v := .map none) rfl) ?_
  refine LW.nil hL rfl ?_
  refine NW.then ?_
  refine CW.seq ?_
  refine CW.seq ?_
  refine CW.region fun L hL => ?_
  refine LW.rd hL rfl (Wants.free rfl) rfl (Rd.move (v := .map m1) rfl) ?_
  refine LW.rd hL rfl (Wants.free rfl) rfl (Rd.bin (v := .bool (Option.isNone m1)) rfl rfl (fun w => map_nil_eq (by kernel_rfl) m1 w)) ?_
  refine LW.nil hL rfl ?_
  refine NW.then ?_
  refine CW.cond rfl (fun hb1 => ?_) (fun hb1 => ?_)
  · replace h := h.1 hb1
    refine CW.seq ?_
    refine CW.region fun L hL => ?_
    refine LW.rd hL rfl (Wants.free rfl) rfl (Rd.assign (v := .map none) rfl) ?_
    refine LW.nil hL rfl ?_
    refine NW.then ?_
    refine CW.ret ?_
    refine RW.then ?_
    exact res1 rfl rfl ⟨none, rfl, h⟩
  · replace h := h.2 hb1
    refine CW.skip ?_
    refine NW.then ?_
    refine CW.seq ?_
    refine CW.region fun L hL => ?_
    refine LW.rd hL rfl (Wants.free rfl) rfl (Rd.move (v := .map m1) rfl) ?_
    refine LW.rd hL rfl (Wants.free rfl) rfl (Rd.makeInterface (v := .iface 198 (.map m1)) rfl (fun _ => by kernel_rfl)) ?_
    obtain ⟨r2, w1, hx1, h⟩ := h
    refine LW.val hL rfl (Wants.free rfl) rfl (Vl.extern (v := r2) rfl hx1) ?_
    obtain ⟨x1, hx2, h⟩ := h
    refine LW.rd hL rfl (Wants.free rfl) rfl (Rd.typeAssert (v := .map x1) rfl hx2) ?_
    refine LW.rd hL rfl (Wants.free rfl) rfl (Rd.assign (v := .map x1) rfl) ?_
    refine LW.nil hL rfl ?_
    refine NW.then ?_
    refine CW.ret ?_
    exact res1 rfl rfl ⟨x1, rfl, h⟩

/- maps.Clone[map[pomander/labels.pair]int,pomander/labels.pair,int] -/
def W_maps_Clone_413 (m1 : Option Nat) (w : World) (R : (Option Nat) → World → Prop) : Prop :=
  ((Option.isNone m1) = true → R none w) ∧ ((Option.isNone m1) = false → ∃ (r2 : Value) (w1 : World), (callFunc 114 #[(.iface 199 (.map m1))]).run Try.prog w = .ok (.value (r2)) w1 ∧ (∃ (x1 : Option Nat), (∀ w : World, (Instr.typeAssert (r2) 20 199 false).run Try.prog w = .ok (.map x1) w) ∧ (R x1 w1)))
set_option maxRecDepth 100000 in
theorem go_maps_Clone_413 (m1 : Option Nat) (w : World) (R : (Option Nat) → World → Prop) (h : W_maps_Clone_413 m1 w R) : Calls Try.prog 113 #[.map m1] w (fun e w' => ∃ (r1 : Option Nat), e = .returned (.map r1) ∧ R r1 w') := by
  unfold W_maps_Clone_413 at h
  refine enter (N := 9) Try.func113 rfl rfl ?_
  refine CW.seq ?_
  refine CW.region fun L hL => ?_
  refine LW.rd hL rfl (Wants.free rfl) rfl (Rd.assign (v := .map none) rfl) ?_
  refine LW.nil hL rfl ?_
  refine NW.then ?_
  refine CW.seq ?_
  refine CW.seq ?_
  refine CW.region fun L hL => ?_
  refine LW.rd hL rfl (Wants.free rfl) rfl (Rd.move (v := .map m1) rfl) ?_
  refine LW.rd hL rfl (Wants.free rfl) rfl (Rd.bin (v := .bool (Option.isNone m1)) rfl rfl (fun w => map_nil_eq (by kernel_rfl) m1 w)) ?_
  refine LW.nil hL rfl ?_
  refine NW.then ?_
  refine CW.cond rfl (fun hb1 => ?_) (fun hb1 => ?_)
  · replace h := h.1 hb1
    refine CW.seq ?_
    refine CW.region fun L hL => ?_
    refine LW.rd hL rfl (Wants.free rfl) rfl (Rd.assign (v := .map none) rfl) ?_
    refine LW.nil hL rfl ?_
    refine NW.then ?_
    refine CW.ret ?_
    refine RW.then ?_
    exact res1 rfl rfl ⟨none, rfl, h⟩
  · replace h := h.2 hb1
    refine CW.skip ?_
    refine NW.then ?_
    refine CW.seq ?_
    refine CW.region fun L hL => ?_
    refine LW.rd hL rfl (Wants.free rfl) rfl (Rd.move (v := .map m1) rfl) ?_
    refine LW.rd hL rfl (Wants.free rfl) rfl (Rd.makeInterface (v := .iface 199 (.map m1)) rfl (fun _ => by kernel_rfl)) ?_
    obtain ⟨r2, w1, hx1, h⟩ := h
    refine LW.val hL rfl (Wants.free rfl) rfl (Vl.extern (v := r2) rfl hx1) ?_
    obtain ⟨x1, hx2, h⟩ := h
    refine LW.rd hL rfl (Wants.free rfl) rfl (Rd.typeAssert (v := .map x1) rfl hx2) ?_
    refine LW.rd hL rfl (Wants.free rfl) rfl (Rd.assign (v := .map x1) rfl) ?_
    refine LW.nil hL rfl ?_
    refine NW.then ?_
    refine CW.ret ?_
    exact res1 rfl rfl ⟨x1, rfl, h⟩

/- slices.Clone[[]uint32,uint32] -/
def W_slices_Clone_334 (s1 : Option Addr) (s1n : Nat) (s1c : Nat) (w : World) (R : (Option Addr) → Nat → Nat → World → Prop) : Prop :=
  ∃ (t1 : Bool), (∀ w : World, ((do eqGuard .eql 31 (.tmp 3) (.const (.slice none 0 0)) (.slice s1 s1n s1c) (.slice none 0 0); binOp .eql 31 (.slice s1 s1n s1c) (.slice none 0 0) : Sem Value)).run Try.prog w = .ok (.bool t1) w) ∧ ((t1 = true → R none 0 0 w) ∧ (t1 = false → ∀ b1 : Nat, b1 = World.size w → ∀ w1 : World, w1 = World.alloc w (.cells #[] 22) → (∃ (l1 : Option Addr) (l1n : Nat) (l1c : Nat) (w2 : World), (Builtin.append_ #[31, 31] 31 #[.slice (some (⟨b1, 0, none⟩ : Addr)) 0 0, .slice s1 s1n s1c]).run Try.prog w1 = .ok (.slice l1 l1n l1c) w2 ∧ (R l1 l1n l1c w2))))
set_option maxRecDepth 100000 in
theorem go_slices_Clone_334 (s1 : Option Addr) (s1n : Nat) (s1c : Nat) (w : World) (R : (Option Addr) → Nat → Nat → World → Prop) (h : W_slices_Clone_334 s1 s1n s1c w R) : Calls Try.prog 111 #[.slice s1 s1n s1c] w (fun e w' => ∃ (r1 : Option Addr) (r1n : Nat) (r1c : Nat), e = .returned (.slice r1 r1n r1c) ∧ R r1 r1n r1c w') := by
  unfold W_slices_Clone_334 at h
  refine enter (N := 8) Try.func111 rfl rfl ?_
  refine CW.seq ?_
  refine CW.region fun L hL => ?_
  refine LW.rd hL rfl (Wants.free rfl) rfl (Rd.assign (v := .slice none 0 0) rfl) ?_
  refine LW.nil hL rfl ?_
  refine NW.then ?_
  refine CW.seq ?_
  refine CW.seq ?_
  refine CW.region fun L hL => ?_
  refine LW.rd hL rfl (Wants.free rfl) rfl (Rd.move (v := .slice s1 s1n s1c) rfl) ?_
  obtain ⟨t1, hx1, h⟩ := h
  refine LW.rd hL rfl (Wants.free rfl) rfl (Rd.bin (v := .bool t1) rfl rfl hx1) ?_
  refine LW.nil hL rfl ?_
  refine NW.then ?_
  refine CW.cond rfl (fun hb1 => ?_) (fun hb1 => ?_)
  · replace h := h.1 hb1
    refine CW.seq ?_
    refine CW.region fun L hL => ?_
    refine LW.rd hL rfl (Wants.free rfl) rfl (Rd.assign (v := .slice none 0 0) rfl) ?_
    refine LW.nil hL rfl ?_
    refine NW.then ?_
    refine CW.ret ?_
    refine RW.then ?_
    exact res1 rfl rfl ⟨none, 0, 0, rfl, h⟩
  · replace h := h.2 hb1
    refine CW.skip ?_
    refine NW.then ?_
    refine CW.seq ?_
    refine CW.region fun L hL => ?_
    obtain ⟨b1, hb_b1⟩ : ∃ b1, b1 = World.size w := ⟨_, rfl⟩
    obtain ⟨w1, hw_w1⟩ : ∃ w1, w1 = World.alloc w (.cells #[] 22) := ⟨_, rfl⟩
    replace h := h b1 hb_b1 w1 hw_w1
    refine LW.val hL rfl (Wants.free rfl) rfl (sliceE (n := 0) hb_b1 hw_w1 (fun w => Vl.buildSlice (vs := []) rfl (by kernel_rfl))) ?_
    refine LW.rd hL rfl (Wants.free rfl) rfl (Rd.move (v := .slice s1 s1n s1c) rfl) ?_
    obtain ⟨l1, l1n, l1c, w2, ha1, h⟩ := h
    refine LW.val hL rfl (Wants.free rfl) rfl (Vl.builtin (v := .slice l1 l1n l1c) rfl (valB ha1)) ?_
    refine LW.rd hL rfl (Wants.free rfl) rfl (Rd.assign (v := .slice l1 l1n l1c) rfl) ?_
    refine LW.nil hL rfl ?_
    refine NW.then ?_
    refine CW.ret ?_
    exact res1 rfl rfl ⟨l1, l1n, l1c, rfl, h⟩

end Go.Proofs.Ytkfncibmfcdokaa
