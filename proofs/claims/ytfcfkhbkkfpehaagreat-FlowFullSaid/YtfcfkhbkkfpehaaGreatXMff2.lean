/- Texts of the claim, merged: XFshadow XShadow XShadow2 XFlow1 XFt1 XFlow2 XFlow3 XRef1 XRef2 XRef3 XRef4 XRel XOpen XOpen2 XPol1 XIter XLoc. -/
import Derived.Test.YtfcfkhbkkfpehaaGreatXMff1
import Derived.Test.YtfcfkhbkkfpehaaGreatProg
import Derived.Laws.BitsAllLaws
import Derived.WalkKit
import Derived.ProofKit
import Derived.OpenShut
import Derived.ChangeOld
import Derived.Carry
import Derived.Maps.RangeRun
set_option linter.unusedSectionVars false
set_option linter.unusedSimpArgs false
set_option linter.unusedVariables false
section
namespace Go.Proofs.YtfcfkhbkkfpehaaGreat
open Go.X
def z167 : List Value := List.replicate 1 (Value.int .i64 0) ++ List.replicate 64 (Value.int .u32 0)
/- (*pomander/shadow.Shadow).none -/
def V_shadow_Shadow_none (s1 : Option Addr) (w : World) (R : Bool → World → Prop) : Prop :=
 ∃ J1 : Bool → World → Prop, (∀ (b1 : Bool) (w1 : World), J1 b1 w1 → R b1 w1) ∧ (((Option.isNone s1) = false → ∃ a1 : Addr, s1 = some a1 ∧ (∃ (t1 : Int), w.cell? a1 = some (.int .i64 t1) ∧ (J1 (t1 == 0) w))) ∧ ((Option.isNone s1) = true → J1 true w))
set_option maxRecDepth 100000 in
theorem ok_shadow_Shadow_none (s1 : Option Addr) (w : World) (R : Bool → World → Prop) (h : V_shadow_Shadow_none s1 w R) : Calls Tryz.prog 81 #[.pointer s1] w (fun e w' => ∃ (r1 : Bool), e = .returned (.bool r1) ∧ R r1 w') := by
 unfold V_shadow_Shadow_none at h
 refine enter (N := 12) Tryz.func81 rfl rfl ?_
 refine CW.seq ?_
 refine CW.region fun L hL => ?_
 refine LW.rd hL rfl (Wants.free rfl) rfl (Rd.assign (v := .bool false) rfl) ?_
 refine LW.nil hL rfl ?_
 refine NW.then ?_
 refine CW.seq ?_
 refine CW.region fun L hL => ?_
 refine LW.rd hL rfl (Wants.free rfl) rfl (Rd.move (v := .pointer s1) rfl) ?_
 refine LW.rd hL rfl (Wants.free rfl) rfl (Rd.bin (v := .bool (Option.isNone s1)) rfl rfl (fun w => ptr_nil_eq (by kernel_rfl) s1 w)) ?_
 refine LW.rd hL rfl (Wants.free rfl) rfl (Rd.move (v := .bool (Option.isNone s1)) rfl) ?_
 obtain ⟨J1, hJ1, h1_J1, h0_J1⟩ := h
 suffices K1 : ∀ (b1 : Bool) (w1 : World), J1 b1 w1 → L 9 [(2, .bool false), (11, .bool b1)] w1 by
  rcases Bool.eq_false_or_eq_true (Option.isNone s1) with hb1 | hb1
  ·have h := h0_J1 hb1
   refine LW.skip hL rfl (Skips.on rfl rfl rfl rfl rfl hb1) rfl ?_
   refine LW.skip hL rfl (Skips.on rfl rfl rfl rfl rfl hb1) rfl ?_
   refine LW.skip hL rfl (Skips.on rfl rfl rfl rfl rfl hb1) rfl ?_
   refine LW.skip hL rfl (Skips.on rfl rfl rfl rfl rfl hb1) rfl ?_
   refine LW.skip hL rfl (Skips.on rfl rfl rfl rfl rfl hb1) rfl ?_
   refine LW.rd hL rfl (Wants.free rfl) rfl (Rd.pickT rfl hb1 rfl) ?_
   exact LW.sub hL (by exact ⟨rfl, rfl, trivial⟩) (K1 true w h)
  ·have h := h1_J1 hb1
   refine LW.rd hL rfl (Wants.on rfl rfl rfl rfl rfl hb1) rfl (Rd.move (v := .pointer s1) rfl) ?_
   obtain ⟨a1, ha1, h⟩ := h
   refine LW.rd hL rfl (Wants.on rfl rfl rfl rfl rfl hb1) rfl (Rd.nil (q := a1) (by rw [← ha1]; rfl)) ?_
   refine LW.rd hL rfl (Wants.on rfl rfl rfl rfl rfl hb1) rfl (Rd.fa (v := .pointer (some a1)) rfl (fun _ => by kernel_rfl)) ?_
   obtain ⟨t1, hc1, h⟩ := h
   refine LW.rd hL rfl (Wants.on rfl rfl rfl rfl rfl hb1) rfl (Rd.ld (v := .int .i64 t1) rfl (by kernel_rfl) (eqs hc1)) ?_
   refine LW.rd hL rfl (Wants.on rfl rfl rfl rfl rfl hb1) rfl (Rd.bin (v := .bool (t1 == 0)) rfl rfl (fun w => by kernel_rfl)) ?_
   refine LW.rd hL rfl (Wants.free rfl) rfl (Rd.pickF rfl hb1 rfl) ?_
   exact LW.sub hL (by exact ⟨rfl, rfl, trivial⟩) (K1 (t1 == 0) w h)
 intro b1 w1 h_
 have h := hJ1 b1 w1 h_; clear h_
 refine LW.rd hL rfl (Wants.free rfl) rfl (Rd.assign (v := .bool b1) rfl) ?_
 refine LW.nil hL rfl ?_
 refine NW.then ?_
 refine CW.ret ?_
 exact res1 rfl rfl ⟨b1, rfl, h⟩
/- (*pomander/shadow.Shadow).Size -/
def V_shadow_Shadow_Size (s1 : Option Addr) (w : World) (R : Int → World → Prop) : Prop :=
 Calls Tryz.prog 81 #[.pointer s1] w fun e w1 => ∃ (r2 : Bool), e = .returned (.bool r2) ∧ ((r2 = true → R 0 w1) ∧ (r2 = false → ∃ a1 : Addr, s1 = some a1 ∧ (∃ (t1 : Int), w1.cell? a1 = some (.int .i64 t1) ∧ (R (IntKind.wrap .i64 (t1 * 64)) w1))))
set_option maxRecDepth 100000 in
theorem ok_shadow_Shadow_Size (s1 : Option Addr) (w : World) (R : Int → World → Prop) (h : V_shadow_Shadow_Size s1 w R) : Calls Tryz.prog 138 #[.pointer s1] w (fun e w' => ∃ (r1 : Int), e = .returned (.int .i64 r1) ∧ R r1 w') := by
 unfold V_shadow_Shadow_Size at h
 refine enter (N := 10) Tryz.func138 rfl rfl ?_
 refine CW.seq ?_
 refine CW.region fun L hL => ?_
 refine LW.rd hL rfl (Wants.free rfl) rfl (Rd.assign (v := .int .i64 0) rfl) ?_
 refine LW.nil hL rfl ?_
 refine NW.then ?_
 refine CW.seq ?_
 refine CW.seq ?_
 refine CW.region fun L hL => ?_
 refine LW.rd hL rfl (Wants.free rfl) rfl (Rd.move (v := .pointer s1) rfl) ?_
 refine LW.call hL rfl (Wants.free rfl) rfl (Cl.fn (f := 81) rfl Tryz.func81 (by kernel_rfl) rfl) h (fun e w1 h_ => ?_)
 clear h
 obtain ⟨r2, rfl, h⟩ := h_
 refine ⟨_, rfl, ?_⟩
 refine LW.nil hL rfl ?_
 refine NW.then ?_
 refine CW.cond rfl (fun hb1 => ?_) (fun hb1 => ?_)
 ·replace h := h.1 hb1
  refine CW.seq ?_
  refine CW.region fun L hL => ?_
  refine LW.rd hL rfl (Wants.free rfl) rfl (Rd.assign (v := .int .i64 0) rfl) ?_
  refine LW.nil hL rfl ?_
  refine NW.then ?_
  refine CW.ret ?_
  refine RW.then ?_
  exact res1 rfl rfl ⟨0, rfl, h⟩
 ·replace h := h.2 hb1
  refine CW.skip ?_
  refine NW.then ?_
  refine CW.seq ?_
  refine CW.region fun L hL => ?_
  refine LW.rd hL rfl (Wants.free rfl) rfl (Rd.move (v := .pointer s1) rfl) ?_
  obtain ⟨a1, ha1, h⟩ := h
  refine LW.rd hL rfl (Wants.free rfl) rfl (Rd.nil (q := a1) (by rw [← ha1]; rfl)) ?_
  refine LW.rd hL rfl (Wants.free rfl) rfl (Rd.fa (v := .pointer (some a1)) rfl (fun _ => by kernel_rfl)) ?_
  obtain ⟨t1, hc1, h⟩ := h
  refine LW.rd hL rfl (Wants.free rfl) rfl (Rd.ld (v := .int .i64 t1) rfl (by kernel_rfl) (eqs hc1)) ?_
  refine LW.rd hL rfl (Wants.free rfl) rfl (Rd.bin (v := .int .i64 (IntKind.wrap .i64 (t1 * 64))) rfl rfl (fun w => by kernel_rfl)) ?_
  refine LW.rd hL rfl (Wants.free rfl) rfl (Rd.assign (v := .int .i64 (IntKind.wrap .i64 (t1 * 64))) rfl) ?_
  refine LW.nil hL rfl ?_
  refine NW.then ?_
  refine CW.ret ?_
  exact res1 rfl rfl ⟨IntKind.wrap .i64 (t1 * 64), rfl, h⟩
/- (*pomander/shadow.Shadow).get -/
def V_shadow_Shadow_get (s1 : Option Addr) (at1 : Int) (w : World) (R : Int → World → Prop) : Prop :=
 ∃ a1 : Addr, s1 = some a1 ∧ (∃ (t1 : Option Nat), w.cell? (a1.add 1) = some (.map t1) ∧ (∃ (v1 : Option Addr) (ok1 : Bool), (Instr.lookup 156 (.map t1) (.int .i64 (IntKind.wrap .i64 (Int.tdiv at1 64))) true).run Tryz.prog w = .ok (.tuple #[.pointer v1, .bool ok1]) w ∧ (((!ok1) = true → R 0 w) ∧ ((!ok1) = false → ∃ a2 : Addr, v1 = some a2 ∧ ((0 : Int) ≤ Int.tmod at1 64 ∧ (Int.tmod at1 64 : Int) < 64 ∧ (∃ (t2 : Int), w.cell? ((a2.add 1).add (Int.toNat (Int.tmod at1 64) * 1)) = some (.int .u32 t2) ∧ (R t2 w)))))))
set_option maxRecDepth 100000 in
theorem ok_shadow_Shadow_get (s1 : Option Addr) (at1 : Int) (w : World) (R : Int → World → Prop) (h : V_shadow_Shadow_get s1 at1 w R) : Calls Tryz.prog 135 #[.pointer s1, .int .i64 at1] w (fun e w' => ∃ (r1 : Int), e = .returned (.int .u32 r1) ∧ R r1 w') := by
 unfold V_shadow_Shadow_get at h
 refine enter (N := 26) Tryz.func135 rfl rfl ?_
 refine CW.seq ?_
 refine CW.region fun L hL => ?_
 refine LW.rd hL rfl (Wants.free rfl) rfl (Rd.assign (v := .int .u32 0) rfl) ?_
 refine LW.nil hL rfl ?_
 refine NW.then ?_
 refine CW.seq ?_
 refine CW.region fun L hL => ?_
 refine LW.rd hL rfl (Wants.free rfl) rfl (Rd.move (v := .pointer s1) rfl) ?_
 obtain ⟨a1, ha1, h⟩ := h
 refine LW.rd hL rfl (Wants.free rfl) rfl (Rd.nil (q := a1) (by rw [← ha1]; rfl)) ?_
 refine LW.rd hL rfl (Wants.free rfl) rfl (Rd.fa (v := .pointer (some (a1.add 1))) rfl (fun _ => by kernel_rfl)) ?_
 obtain ⟨t1, hc1, h⟩ := h
 refine LW.rd hL rfl (Wants.free rfl) rfl (Rd.ld (v := .map t1) rfl (by kernel_rfl) (eqs hc1)) ?_
 refine LW.rd hL rfl (Wants.free rfl) rfl (Rd.move (v := .int .i64 at1) rfl) ?_
 refine LW.rd hL rfl (Wants.free rfl) rfl (Rd.bin (v := .int .i64 (IntKind.wrap .i64 (Int.tdiv at1 64))) rfl rfl (fun w => by kernel_rfl)) ?_
 obtain ⟨v1, ok1, hl1, h⟩ := h
 refine LW.rd hL rfl (Wants.free rfl) rfl (Rd.lookup (v := .tuple #[.pointer v1, .bool ok1]) rfl rfl (fun _ e => e ▸ hl1)) ?_
 refine LW.rd hL rfl (Wants.free rfl) rfl (Rd.move (v := .tuple #[.pointer v1, .bool ok1]) rfl) ?_
 refine LW.rd hL rfl (Wants.free rfl) rfl (Rd.extract (v := .pointer v1) rfl rfl) ?_
 refine LW.rd hL rfl (Wants.free rfl) rfl (Rd.extract (v := .bool ok1) rfl rfl) ?_
 refine LW.rd hL rfl (Wants.free rfl) rfl (Rd.assign (v := .pointer v1) rfl) ?_
 refine LW.rd hL rfl (Wants.free rfl) rfl (Rd.assign (v := .bool ok1) rfl) ?_
 refine LW.nil hL rfl ?_
 refine NW.then ?_
 refine CW.seq ?_
 refine CW.seq ?_
 refine CW.region fun L hL => ?_
 refine LW.rd hL rfl (Wants.free rfl) rfl (Rd.move (v := .bool ok1) rfl) ?_
 refine LW.rd hL rfl (Wants.free rfl) rfl (Rd.un (v := .bool (!ok1)) rfl (fun _ => by kernel_rfl)) ?_
 refine LW.nil hL rfl ?_
 refine NW.then ?_
 refine CW.cond rfl (fun hb1 => ?_) (fun hb1 => ?_)
 ·replace h := h.1 hb1
  refine CW.seq ?_
  refine CW.region fun L hL => ?_
  refine LW.rd hL rfl (Wants.free rfl) rfl (Rd.assign (v := .int .u32 0) rfl) ?_
  refine LW.nil hL rfl ?_
  refine NW.then ?_
  refine CW.ret ?_
  refine RW.then ?_
  exact res1 rfl rfl ⟨0, rfl, h⟩
 ·replace h := h.2 hb1
  refine CW.skip ?_
  refine NW.then ?_
  refine CW.seq ?_
  refine CW.region fun L hL => ?_
  refine LW.rd hL rfl (Wants.free rfl) rfl (Rd.move (v := .pointer v1) rfl) ?_
  refine LW.rd hL rfl (Wants.free rfl) rfl (Rd.move (v := .int .i64 at1) rfl) ?_
  refine LW.rd hL rfl (Wants.free rfl) rfl (Rd.bin (v := .int .i64 (Int.tmod at1 64)) rfl rfl (fun w => by kernel_rfl)) ?_
  obtain ⟨a2, ha2, h⟩ := h
  refine LW.rd hL rfl (Wants.free rfl) rfl (Rd.nil (q := a2) (by rw [← ha2]; rfl)) ?_
  refine LW.rd hL rfl (Wants.free rfl) rfl (Rd.fa (v := .pointer (some (a2.add 1))) rfl (fun _ => by kernel_rfl)) ?_
  obtain ⟨hi1, hi2, h⟩ := h
  refine LW.rd hL rfl (Wants.free rfl) rfl (Rd.iaA (sz := 1) rfl rfl Tryz.underlying165 (by kernel_rfl) hi1 hi2) ?_
  obtain ⟨t2, hc2, h⟩ := h
  refine LW.rd hL rfl (Wants.free rfl) rfl (Rd.ld (v := .int .u32 t2) rfl (by kernel_rfl) (eqs hc2)) ?_
  refine LW.rd hL rfl (Wants.free rfl) rfl (Rd.assign (v := .int .u32 t2) rfl) ?_
  refine LW.nil hL rfl ?_
  refine NW.then ?_
  refine CW.ret ?_
  exact res1 rfl rfl ⟨t2, rfl, h⟩
/- (*pomander/shadow.Shadow).put -/
def V_shadow_Shadow_put (s1 : Option Addr) (at1 : Int) (set1 : Int) (w : World) (R : World → Prop) : Prop :=
 ∃ a1 : Addr, s1 = some a1 ∧ (∃ (t1 : Option Nat), w.cell? (a1.add 1) = some (.map t1) ∧ (∃ (v1 : Option Addr) (ok1 : Bool), (Instr.lookup 156 (.map t1) (.int .i64 (IntKind.wrap .i64 (Int.tdiv at1 64))) true).run Tryz.prog w = .ok (.tuple #[.pointer v1, .bool ok1]) w ∧ (∃ J1 : (Option Addr) → World → Prop, (∀ (s2 : (Option Addr)) (w1 : World), J1 s2 w1 → ∃ J2 : Unit → World → Prop, (∀ (s3 : Unit) (w2 : World), J2 s3 w2 → ∃ J3 : Unit → World → Prop, (∀ (s4 : Unit) (w3 : World), J3 s4 w3 → ∃ a2 : Addr, s2 = some a2 ∧ ((0 : Int) ≤ Int.tmod at1 64 ∧ (Int.tmod at1 64 : Int) < 64 ∧ ((∃ o : Value, w3.cell? ((a2.add 1).add (Int.toNat (Int.tmod at1 64) * 1)) = some o) ∧ w3.frozen? ((a2.add 1).add (Int.toNat (Int.tmod at1 64) * 1)) = false ∧ ∀ w4 : World, w4 = World.setCell w3 ((a2.add 1).add (Int.toNat (Int.tmod at1 64) * 1)) (.int .u32 set1) → (∃ a3 : Addr, s2 = some a3 ∧ (∃ (t2 : Int), w4.cell? a3 = some (.int .i64 t2) ∧ (((t2 == 0) = true → ∃ a4 : Addr, s1 = some a4 ∧ (∃ (t3 : Option Nat), w4.cell? (a4.add 1) = some (.map t3) ∧ (∃ w5 : World, (Builtin.delete_ #[156, 3] 0 #[.map t3, .int .i64 (IntKind.wrap .i64 (Int.tdiv at1 64))]).run Tryz.prog w4 = .ok (.tuple #[]) w5 ∧ (R w5)))) ∧ ((t2 == 0) = false → R w4))))))) ∧ (((!(set1 == 0)) = true → ∃ a5 : Addr, s2 = some a5 ∧ (∃ (t4 : Int), w2.cell? a5 = some (.int .i64 t4) ∧ (∃ a6 : Addr, s2 = some a6 ∧ ((∃ o : Value, w2.cell? a6 = some o) ∧ w2.frozen? a6 = false ∧ ∀ w6 : World, w6 = World.setCell w2 a6 (.int .i64 (IntKind.wrap .i64 (t4 + 1))) → (J3 () w6))))) ∧ ((!(set1 == 0)) = false → J3 () w2))) ∧ (∃ a7 : Addr, s2 = some a7 ∧ ((0 : Int) ≤ Int.tmod at1 64 ∧ (Int.tmod at1 64 : Int) < 64 ∧ (∃ (t5 : Int), w1.cell? ((a7.add 1).add (Int.toNat (Int.tmod at1 64) * 1)) = some (.int .u32 t5) ∧ (((!(t5 == 0)) = true → ∃ a8 : Addr, s2 = some a8 ∧ (∃ (t6 : Int), w1.cell? a8 = some (.int .i64 t6) ∧ (∃ a9 : Addr, s2 = some a9 ∧ ((∃ o : Value, w1.cell? a9 = some o) ∧ w1.frozen? a9 = false ∧ ∀ w7 : World, w7 = World.setCell w1 a9 (.int .i64 (IntKind.wrap .i64 (t6 - 1))) → (J2 () w7))))) ∧ ((!(t5 == 0)) = false → J2 () w1)))))) ∧ (((!ok1) = true → ((set1 == 0) = true → R w) ∧ ((set1 == 0) = false → ∀ b1 : Nat, b1 = World.size w → ∀ w8 : World, w8 = World.alloc w (.cells z167.toArray 167) → (∃ a10 : Addr, s1 = some a10 ∧ (∃ (t7 : Option Nat), w8.cell? (a10.add 1) = some (.map t7) ∧ (∃ w9 : World, (Instr.mapUpdate 156 (.map t7) (.int .i64 (IntKind.wrap .i64 (Int.tdiv at1 64))) (.pointer (some (⟨b1, 0, none⟩ : Addr)))).run Tryz.prog w8 = .ok () w9 ∧ (J1 (some (⟨b1, 0, none⟩ : Addr)) w9)))))) ∧ ((!ok1) = false → J1 v1 w)))))
set_option maxRecDepth 100000 in
theorem ok_shadow_Shadow_put (s1 : Option Addr) (at1 : Int) (set1 : Int) (w : World) (R : World → Prop) (h : V_shadow_Shadow_put s1 at1 set1 w R) : Calls Tryz.prog 123 #[.pointer s1, .int .i64 at1, .int .u32 set1] w (fun e w' => e = .returned (.tuple #[]) ∧ R w') := by
 unfold V_shadow_Shadow_put at h
 refine enter (N := 79) Tryz.func123 rfl rfl ?_
 refine CW.seq ?_
 refine CW.region fun L hL => ?_
 refine LW.rd hL rfl (Wants.free rfl) rfl (Rd.move (v := .int .i64 at1) rfl) ?_
 refine LW.rd hL rfl (Wants.free rfl) rfl (Rd.bin (v := .int .i64 (IntKind.wrap .i64 (Int.tdiv at1 64))) rfl rfl (fun w => by kernel_rfl)) ?_
 refine LW.rd hL rfl (Wants.free rfl) rfl (Rd.move (v := .int .i64 at1) rfl) ?_
 refine LW.rd hL rfl (Wants.free rfl) rfl (Rd.bin (v := .int .i64 (Int.tmod at1 64)) rfl rfl (fun w => by kernel_rfl)) ?_
 refine LW.rd hL rfl (Wants.free rfl) rfl (Rd.assign (v := .int .i64 (IntKind.wrap .i64 (Int.tdiv at1 64))) rfl) ?_
 refine LW.rd hL rfl (Wants.free rfl) rfl (Rd.assign (v := .int .i64 (Int.tmod at1 64)) rfl) ?_
 refine LW.nil hL rfl ?_
 refine NW.then ?_
 refine CW.seq ?_
 refine CW.region fun L hL => ?_
 refine LW.rd hL rfl (Wants.free rfl) rfl (Rd.move (v := .pointer s1) rfl) ?_
 obtain ⟨a1, ha1, h⟩ := h
 refine LW.rd hL rfl (Wants.free rfl) rfl (Rd.nil (q := a1) (by rw [← ha1]; rfl)) ?_
 refine LW.rd hL rfl (Wants.free rfl) rfl (Rd.fa (v := .pointer (some (a1.add 1))) rfl (fun _ => by kernel_rfl)) ?_
 obtain ⟨t1, hc1, h⟩ := h
 refine LW.rd hL rfl (Wants.free rfl) rfl (Rd.ld (v := .map t1) rfl (by kernel_rfl) (eqs hc1)) ?_
 refine LW.rd hL rfl (Wants.free rfl) rfl (Rd.move (v := .int .i64 (IntKind.wrap .i64 (Int.tdiv at1 64))) rfl) ?_
 obtain ⟨v1, ok1, hl1, h⟩ := h
 refine LW.rd hL rfl (Wants.free rfl) rfl (Rd.lookup (v := .tuple #[.pointer v1, .bool ok1]) rfl rfl (fun _ e => e ▸ hl1)) ?_
 refine LW.rd hL rfl (Wants.free rfl) rfl (Rd.move (v := .tuple #[.pointer v1, .bool ok1]) rfl) ?_
 refine LW.rd hL rfl (Wants.free rfl) rfl (Rd.extract (v := .pointer v1) rfl rfl) ?_
 refine LW.rd hL rfl (Wants.free rfl) rfl (Rd.extract (v := .bool ok1) rfl rfl) ?_
 refine LW.rd hL rfl (Wants.free rfl) rfl (Rd.assign (v := .pointer v1) rfl) ?_
 refine LW.rd hL rfl (Wants.free rfl) rfl (Rd.assign (v := .bool ok1) rfl) ?_
 refine LW.nil hL rfl ?_
 refine NW.then ?_
 obtain ⟨J1, hJ1, h⟩ := h
 refine CW.cut (S := (Option Addr)) (fun s2 => [(0, .pointer s1), (2, .int .u32 set1), (6, .int .i64 (IntKind.wrap .i64 (Int.tdiv at1 64))), (7, .int .i64 (Int.tmod at1 64)), (8, .pointer s2)]) J1 (fun s2 w1 h_ => ?_) ?_
 ·replace h := hJ1 s2 w1 h_; clear h_
  obtain ⟨J2, hJ2, h⟩ := h
  refine CW.cut (S := Unit) (fun s3 => [(0, .pointer s1), (2, .int .u32 set1), (6, .int .i64 (IntKind.wrap .i64 (Int.tdiv at1 64))), (7, .int .i64 (Int.tmod at1 64)), (8, .pointer s2)]) J2 (fun s3 w2 h_ => ?_) ?_
  ·replace h := hJ2 s3 w2 h_; clear h_
   obtain ⟨J3, hJ3, h⟩ := h
   refine CW.cut (S := Unit) (fun s4 => [(0, .pointer s1), (2, .int .u32 set1), (6, .int .i64 (IntKind.wrap .i64 (Int.tdiv at1 64))), (7, .int .i64 (Int.tmod at1 64)), (8, .pointer s2)]) J3 (fun s4 w3 h_ => ?_) ?_
   ·replace h := hJ3 s4 w3 h_; clear h_
    refine CW.seq ?_
    refine CW.region fun L hL => ?_
    refine LW.rd hL rfl (Wants.free rfl) rfl (Rd.move (v := .pointer s2) rfl) ?_
    refine LW.rd hL rfl (Wants.free rfl) rfl (Rd.move (v := .int .i64 (Int.tmod at1 64)) rfl) ?_
    refine LW.rd hL rfl (Wants.free rfl) rfl (Rd.move (v := .int .u32 set1) rfl) ?_
    obtain ⟨a2, ha2, h⟩ := h
    refine LW.rd hL rfl (Wants.free rfl) rfl (Rd.nil (q := a2) (by rw [← ha2]; rfl)) ?_
    refine LW.rd hL rfl (Wants.free rfl) rfl (Rd.fa (v := .pointer (some (a2.add 1))) rfl (fun _ => by kernel_rfl)) ?_
    obtain ⟨hi1, hi2, h⟩ := h
    refine LW.rd hL rfl (Wants.free rfl) rfl (Rd.iaA (sz := 1) rfl rfl Tryz.underlying165 (by kernel_rfl) hi1 hi2) ?_
    obtain ⟨⟨o_w4, ho1⟩, hf1, h⟩ := h
    obtain ⟨w4, hw_w4⟩ : ∃ w4, w4 = World.setCell w3 ((a2.add 1).add (Int.toNat (Int.tmod at1 64) * 1)) (.int .u32 set1) := ⟨_, rfl⟩
    replace h := h w4 hw_w4
    refine LW.eff hL rfl (Wants.free rfl) rfl (stE hw_w4 (Ef.st rfl rfl rfl (by kernel_rfl) ho1 hf1)) ?_
    refine LW.nil hL rfl ?_
    refine NW.then ?_
    refine CW.seq ?_
    refine CW.region fun L hL => ?_
    refine LW.rd hL rfl (Wants.free rfl) rfl (Rd.move (v := .pointer s2) rfl) ?_
    obtain ⟨a3, ha3, h⟩ := h
    refine LW.rd hL rfl (Wants.free rfl) rfl (Rd.nil (q := a3) (by rw [← ha3]; rfl)) ?_
    refine LW.rd hL rfl (Wants.free rfl) rfl (Rd.fa (v := .pointer (some a3)) rfl (fun _ => by kernel_rfl)) ?_
    refine LW.rd hL rfl (Wants.free rfl) rfl (Rd.fa (v := .pointer (some a3)) rfl (fun _ => by kernel_rfl)) ?_
    obtain ⟨t2, hc2, h⟩ := h
    refine LW.rd hL rfl (Wants.free rfl) rfl (Rd.ld (v := .int .i64 t2) rfl (by kernel_rfl) (eqs hc2)) ?_
    refine LW.rd hL rfl (Wants.free rfl) rfl (Rd.bin (v := .bool (t2 == 0)) rfl rfl (fun w => by kernel_rfl)) ?_
    refine LW.nil hL rfl ?_
    refine NW.then ?_
    refine CW.cond rfl (fun hb1 => ?_) (fun hb1 => ?_)
    ·replace h := h.1 hb1
     refine CW.region fun L hL => ?_
     refine LW.rd hL rfl (Wants.free rfl) rfl (Rd.move (v := .pointer s1) rfl) ?_
     obtain ⟨a4, ha4, h⟩ := h
     refine LW.rd hL rfl (Wants.free rfl) rfl (Rd.nil (q := a4) (by rw [← ha4]; rfl)) ?_
     refine LW.rd hL rfl (Wants.free rfl) rfl (Rd.fa (v := .pointer (some (a4.add 1))) rfl (fun _ => by kernel_rfl)) ?_
     obtain ⟨t3, hc3, h⟩ := h
     refine LW.rd hL rfl (Wants.free rfl) rfl (Rd.ld (v := .map t3) rfl (by kernel_rfl) (eqs hc3)) ?_
     refine LW.rd hL rfl (Wants.free rfl) rfl (Rd.move (v := .int .i64 (IntKind.wrap .i64 (Int.tdiv at1 64))) rfl) ?_
     obtain ⟨w5, hd1, h⟩ := h
     refine LW.val hL rfl (Wants.free rfl) rfl (Vl.builtin (v := .tuple #[]) rfl (valB hd1)) ?_
     refine LW.nil hL rfl ?_
     exact res0n rfl (by exact ⟨rfl, h⟩)
    ·replace h := h.2 hb1
     refine CW.skip ?_
     exact res0n rfl (by exact ⟨rfl, h⟩)
   ·skip
    refine CW.seq ?_
    refine CW.region fun L hL => ?_
    refine LW.rd hL rfl (Wants.free rfl) rfl (Rd.move (v := .int .u32 set1) rfl) ?_
    refine LW.rd hL rfl (Wants.free rfl) rfl (Rd.bin (v := .bool (!(set1 == 0))) rfl rfl (fun w => by kernel_rfl)) ?_
    refine LW.nil hL rfl ?_
    refine NW.then ?_
    refine CW.cond rfl (fun hb2 => ?_) (fun hb2 => ?_)
    ·replace h := h.1 hb2
     refine CW.region fun L hL => ?_
     refine LW.rd hL rfl (Wants.free rfl) rfl (Rd.move (v := .pointer s2) rfl) ?_
     obtain ⟨a5, ha5, h⟩ := h
     refine LW.rd hL rfl (Wants.free rfl) rfl (Rd.nil (q := a5) (by rw [← ha5]; rfl)) ?_
     refine LW.rd hL rfl (Wants.free rfl) rfl (Rd.fa (v := .pointer (some a5)) rfl (fun _ => by kernel_rfl)) ?_
     refine LW.rd hL rfl (Wants.free rfl) rfl (Rd.fa (v := .pointer (some a5)) rfl (fun _ => by kernel_rfl)) ?_
     obtain ⟨t4, hc4, h⟩ := h
     refine LW.rd hL rfl (Wants.free rfl) rfl (Rd.ld (v := .int .i64 t4) rfl (by kernel_rfl) (eqs hc4)) ?_
     refine LW.rd hL rfl (Wants.free rfl) rfl (Rd.bin (v := .int .i64 (IntKind.wrap .i64 (t4 + 1))) rfl rfl (fun w => by kernel_rfl)) ?_
     obtain ⟨a6, ha6, h⟩ := h
     refine LW.rd hL rfl (Wants.free rfl) rfl (Rd.nil (q := a6) (by rw [← ha6]; rfl)) ?_
     refine LW.rd hL rfl (Wants.free rfl) rfl (Rd.fa (v := .pointer (some a6)) rfl (fun _ => by kernel_rfl)) ?_
     refine LW.rd hL rfl (Wants.free rfl) rfl (Rd.fa (v := .pointer (some a6)) rfl (fun _ => by kernel_rfl)) ?_
     obtain ⟨⟨o_w6, ho2⟩, hf2, h⟩ := h
     obtain ⟨w6, hw_w6⟩ : ∃ w6, w6 = World.setCell w2 a6 (.int .i64 (IntKind.wrap .i64 (t4 + 1))) := ⟨_, rfl⟩
     replace h := h w6 hw_w6
     refine LW.eff hL rfl (Wants.free rfl) rfl (stE hw_w6 (Ef.st rfl rfl rfl (by kernel_rfl) ho2 hf2)) ?_
     refine LW.nil hL rfl ?_
     exact NW.cut (S := Unit) (Ek := fun s4 => [(0, .pointer s1), (2, .int .u32 set1), (6, .int .i64 (IntKind.wrap .i64 (Int.tdiv at1 64))), (7, .int .i64 (Int.tmod at1 64)), (8, .pointer s2)]) () (by exact ⟨rfl, rfl, rfl, rfl, rfl, trivial⟩) h
    ·replace h := h.2 hb2
     refine CW.skip ?_
     exact NW.cut (S := Unit) (Ek := fun s4 => [(0, .pointer s1), (2, .int .u32 set1), (6, .int .i64 (IntKind.wrap .i64 (Int.tdiv at1 64))), (7, .int .i64 (Int.tmod at1 64)), (8, .pointer s2)]) () (by exact ⟨rfl, rfl, rfl, rfl, rfl, trivial⟩) h
  ·skip
   refine CW.seq ?_
   refine CW.region fun L hL => ?_
   refine LW.rd hL rfl (Wants.free rfl) rfl (Rd.move (v := .pointer s2) rfl) ?_
   refine LW.rd hL rfl (Wants.free rfl) rfl (Rd.move (v := .int .i64 (Int.tmod at1 64)) rfl) ?_
   obtain ⟨a7, ha7, h⟩ := h
   refine LW.rd hL rfl (Wants.free rfl) rfl (Rd.nil (q := a7) (by rw [← ha7]; rfl)) ?_
   refine LW.rd hL rfl (Wants.free rfl) rfl (Rd.fa (v := .pointer (some (a7.add 1))) rfl (fun _ => by kernel_rfl)) ?_
   obtain ⟨hi3, hi4, h⟩ := h
   refine LW.rd hL rfl (Wants.free rfl) rfl (Rd.iaA (sz := 1) rfl rfl Tryz.underlying165 (by kernel_rfl) hi3 hi4) ?_
   obtain ⟨t5, hc5, h⟩ := h
   refine LW.rd hL rfl (Wants.free rfl) rfl (Rd.ld (v := .int .u32 t5) rfl (by kernel_rfl) (eqs hc5)) ?_
   refine LW.rd hL rfl (Wants.free rfl) rfl (Rd.bin (v := .bool (!(t5 == 0))) rfl rfl (fun w => by kernel_rfl)) ?_
   refine LW.nil hL rfl ?_
   refine NW.then ?_
   refine CW.cond rfl (fun hb3 => ?_) (fun hb3 => ?_)
   ·replace h := h.1 hb3
    refine CW.region fun L hL => ?_
    refine LW.rd hL rfl (Wants.free rfl) rfl (Rd.move (v := .pointer s2) rfl) ?_
    obtain ⟨a8, ha8, h⟩ := h
    refine LW.rd hL rfl (Wants.free rfl) rfl (Rd.nil (q := a8) (by rw [← ha8]; rfl)) ?_
    refine LW.rd hL rfl (Wants.free rfl) rfl (Rd.fa (v := .pointer (some a8)) rfl (fun _ => by kernel_rfl)) ?_
    refine LW.rd hL rfl (Wants.free rfl) rfl (Rd.fa (v := .pointer (some a8)) rfl (fun _ => by kernel_rfl)) ?_
    obtain ⟨t6, hc6, h⟩ := h
    refine LW.rd hL rfl (Wants.free rfl) rfl (Rd.ld (v := .int .i64 t6) rfl (by kernel_rfl) (eqs hc6)) ?_
    refine LW.rd hL rfl (Wants.free rfl) rfl (Rd.bin (v := .int .i64 (IntKind.wrap .i64 (t6 - 1))) rfl rfl (fun w => by kernel_rfl)) ?_
    obtain ⟨a9, ha9, h⟩ := h
    refine LW.rd hL rfl (Wants.free rfl) rfl (Rd.nil (q := a9) (by rw [← ha9]; rfl)) ?_
    refine LW.rd hL rfl (Wants.free rfl) rfl (Rd.fa (v := .pointer (some a9)) rfl (fun _ => by kernel_rfl)) ?_
    refine LW.rd hL rfl (Wants.free rfl) rfl (Rd.fa (v := .pointer (some a9)) rfl (fun _ => by kernel_rfl)) ?_
    obtain ⟨⟨o_w7, ho3⟩, hf3, h⟩ := h
    obtain ⟨w7, hw_w7⟩ : ∃ w7, w7 = World.setCell w1 a9 (.int .i64 (IntKind.wrap .i64 (t6 - 1))) := ⟨_, rfl⟩
    replace h := h w7 hw_w7
    refine LW.eff hL rfl (Wants.free rfl) rfl (stE hw_w7 (Ef.st rfl rfl rfl (by kernel_rfl) ho3 hf3)) ?_
    refine LW.nil hL rfl ?_
    exact NW.cut (S := Unit) (Ek := fun s3 => [(0, .pointer s1), (2, .int .u32 set1), (6, .int .i64 (IntKind.wrap .i64 (Int.tdiv at1 64))), (7, .int .i64 (Int.tmod at1 64)), (8, .pointer s2)]) () (by exact ⟨rfl, rfl, rfl, rfl, rfl, trivial⟩) h
   ·replace h := h.2 hb3
    refine CW.skip ?_
    exact NW.cut (S := Unit) (Ek := fun s3 => [(0, .pointer s1), (2, .int .u32 set1), (6, .int .i64 (IntKind.wrap .i64 (Int.tdiv at1 64))), (7, .int .i64 (Int.tmod at1 64)), (8, .pointer s2)]) () (by exact ⟨rfl, rfl, rfl, rfl, rfl, trivial⟩) h
 ·skip
  refine CW.seq ?_
  refine CW.region fun L hL => ?_
  refine LW.rd hL rfl (Wants.free rfl) rfl (Rd.move (v := .bool ok1) rfl) ?_
  refine LW.rd hL rfl (Wants.free rfl) rfl (Rd.un (v := .bool (!ok1)) rfl (fun _ => by kernel_rfl)) ?_
  refine LW.nil hL rfl ?_
  refine NW.then ?_
  refine CW.cond rfl (fun hb4 => ?_) (fun hb4 => ?_)
  ·replace h := h.1 hb4
   refine CW.seq ?_
   refine CW.seq ?_
   refine CW.region fun L hL => ?_
   refine LW.rd hL rfl (Wants.free rfl) rfl (Rd.move (v := .int .u32 set1) rfl) ?_
   refine LW.rd hL rfl (Wants.free rfl) rfl (Rd.bin (v := .bool (set1 == 0)) rfl rfl (fun w => by kernel_rfl)) ?_
   refine LW.nil hL rfl ?_
   refine NW.then ?_
   refine CW.cond rfl (fun hb5 => ?_) (fun hb5 => ?_)
   ·replace h := h.1 hb5
    refine CW.ret ?_
    refine RW.then ?_
    refine RW.then ?_
    exact res0 rfl ⟨rfl, h⟩
   ·replace h := h.2 hb5
    refine CW.skip ?_
    refine NW.then ?_
    refine CW.seq ?_
    refine CW.region fun L hL => ?_
    refine LW.rd hL rfl (Wants.free rfl) rfl (Rd.build (v := .agg (z167).toArray) rfl (fun _ => by kernel_rfl)) ?_
    obtain ⟨b1, hb_b1⟩ : ∃ b1, b1 = World.size w := ⟨_, rfl⟩
    obtain ⟨w8, hw_w8⟩ : ∃ w8, w8 = World.alloc w (.cells z167.toArray 167) := ⟨_, rfl⟩
    replace h := h b1 hb_b1 w8 hw_w8
    refine LW.val hL rfl (Wants.free rfl) rfl (boxE hb_b1 hw_w8 (Vl.box (v := .agg (z167).toArray) rfl)) ?_
    refine LW.rd hL rfl (Wants.free rfl) rfl (Rd.assign (v := .pointer (some (⟨b1, 0, none⟩ : Addr))) rfl) ?_
    refine LW.nil hL rfl ?_
    refine NW.then ?_
    refine CW.region fun L hL => ?_
    refine LW.rd hL rfl (Wants.free rfl) rfl (Rd.move (v := .pointer s1) rfl) ?_
    obtain ⟨a10, ha10, h⟩ := h
    refine LW.rd hL rfl (Wants.free rfl) rfl (Rd.nil (q := a10) (by rw [← ha10]; rfl)) ?_
    refine LW.rd hL rfl (Wants.free rfl) rfl (Rd.fa (v := .pointer (some (a10.add 1))) rfl (fun _ => by kernel_rfl)) ?_
    obtain ⟨t7, hc7, h⟩ := h
    refine LW.rd hL rfl (Wants.free rfl) rfl (Rd.ld (v := .map t7) rfl (by kernel_rfl) (eqs hc7)) ?_
    refine LW.rd hL rfl (Wants.free rfl) rfl (Rd.move (v := .int .i64 (IntKind.wrap .i64 (Int.tdiv at1 64))) rfl) ?_
    refine LW.rd hL rfl (Wants.free rfl) rfl (Rd.move (v := .pointer (some (⟨b1, 0, none⟩ : Addr))) rfl) ?_
    obtain ⟨w9, hm1, h⟩ := h
    refine LW.eff hL rfl (Wants.free rfl) rfl (Ef.mapUpdate rfl rfl rfl hm1) ?_
    refine LW.nil hL rfl ?_
    exact NW.cut (S := (Option Addr)) (Ek := fun s2 => [(0, .pointer s1), (2, .int .u32 set1), (6, .int .i64 (IntKind.wrap .i64 (Int.tdiv at1 64))), (7, .int .i64 (Int.tmod at1 64)), (8, .pointer s2)]) (some (⟨b1, 0, none⟩ : Addr)) (by exact ⟨rfl, rfl, rfl, rfl, rfl, trivial⟩) h
  ·replace h := h.2 hb4
   refine CW.skip ?_
   exact NW.cut (S := (Option Addr)) (Ek := fun s2 => [(0, .pointer s1), (2, .int .u32 set1), (6, .int .i64 (IntKind.wrap .i64 (Int.tdiv at1 64))), (7, .int .i64 (Int.tmod at1 64)), (8, .pointer s2)]) v1 (by exact ⟨rfl, rfl, rfl, rfl, rfl, trivial⟩) h
/- (*pomander/shadow.Shadow).through -/
def V_shadow_Shadow_through (s1 : Option Addr) (at1 : Int) (n1 : Int) (on1 : Value) (w : World) (R : Int → World → Prop) : Prop :=
 Calls Tryz.prog 81 #[.pointer s1] w fun e w1 => ∃ (r2 : Bool), e = .returned (.bool r2) ∧ ((r2 = true → R 1 w1) ∧ (r2 = false → ∃ J1 : Bool → World → Prop, (∀ (b1 : Bool) (w2 : World), J1 b1 w2 → ∃ J2 : Bool → World → Prop, (∀ (b2 : Bool) (w4 : World), J2 b2 w4 → (b2 = true → R 4 w4) ∧ (b2 = false → ∃ (I1 : Int → World → Prop) (m1 : Int → World → Nat), I1 0 w4 ∧ ∀ (s2 : Int) (w6 : World), I1 s2 w6 → ((decide (s2 < n1)) = true → CallsV Tryz.prog on1 #[.int .i64 (IntKind.wrap .i64 (at1 + s2))] w6 fun e w7 => e = .returned (.tuple #[]) ∧ ((I1 (IntKind.wrap .i64 (s2 + 1)) w7 ∧ m1 (IntKind.wrap .i64 (s2 + 1)) w7 < m1 s2 w6))) ∧ ((decide (s2 < n1)) = false → R 0 w6))) ∧ ((b1 = false → Calls Tryz.prog 138 #[.pointer s1] w2 fun e w5 => ∃ (r4 : Int), e = .returned (.int .i64 r4) ∧ (J2 (decide (n1 > (IntKind.wrap .i64 (r4 - at1)))) w5)) ∧ (b1 = true → J2 true w2))) ∧ (((decide (at1 < 0) || decide (n1 < 0)) = false → Calls Tryz.prog 138 #[.pointer s1] w1 fun e w3 => ∃ (r3 : Int), e = .returned (.int .i64 r3) ∧ (J1 (decide (at1 > r3)) w3)) ∧ ((decide (at1 < 0) || decide (n1 < 0)) = true → J1 true w1))))
set_option maxRecDepth 100000 in
theorem ok_shadow_Shadow_through (s1 : Option Addr) (at1 : Int) (n1 : Int) (on1 : Value) (w : World) (R : Int → World → Prop) (h : V_shadow_Shadow_through s1 at1 n1 on1 w R) : Calls Tryz.prog 121 #[.pointer s1, .int .i64 at1, .int .i64 n1, on1] w (fun e w' => ∃ (r1 : Int), e = .returned (.int .i64 r1) ∧ R r1 w') := by
 unfold V_shadow_Shadow_through at h
 refine enter (N := 44) Tryz.func121 rfl rfl ?_
 refine CW.seq ?_
 refine CW.region fun L hL => ?_
 refine LW.rd hL rfl (Wants.free rfl) rfl (Rd.assign (v := .int .i64 0) rfl) ?_
 refine LW.nil hL rfl ?_
 refine NW.then ?_
 refine CW.seq ?_
 refine CW.block ?_
 refine CW.seq ?_
 refine CW.region fun L hL => ?_
 refine LW.rd hL rfl (Wants.free rfl) rfl (Rd.move (v := .pointer s1) rfl) ?_
 refine LW.call hL rfl (Wants.free rfl) rfl (Cl.fn (f := 81) rfl Tryz.func81 (by kernel_rfl) rfl) h (fun e w1 h_ => ?_)
 clear h
 obtain ⟨r2, rfl, h⟩ := h_
 refine ⟨_, rfl, ?_⟩
 refine LW.rd hL rfl (Wants.free rfl) rfl (Rd.assign (v := .bool r2) rfl) ?_
 refine LW.nil hL rfl ?_
 refine NW.then ?_
 refine CW.cond rfl (fun hb1 => ?_) (fun hb1 => ?_)
 ·replace h := h.1 hb1
  refine CW.seq ?_
  refine CW.region fun L hL => ?_
  refine LW.rd hL rfl (Wants.free rfl) rfl (Rd.assign (v := .int .i64 1) rfl) ?_
  refine LW.nil hL rfl ?_
  refine NW.then ?_
  refine CW.ret ?_
  refine RW.block ?_
  refine RW.then ?_
  exact res1 rfl rfl ⟨1, rfl, h⟩
 ·replace h := h.2 hb1
  refine CW.seq ?_
  refine CW.region fun L hL => ?_
  refine LW.rd hL rfl (Wants.free rfl) rfl (Rd.move (v := .int .i64 at1) rfl) ?_
  refine LW.rd hL rfl (Wants.free rfl) rfl (Rd.bin (v := .bool (decide (at1 < 0))) rfl rfl (fun w => by kernel_rfl)) ?_
  refine LW.rd hL rfl (Wants.free rfl) rfl (Rd.move (v := .bool (decide (at1 < 0))) rfl) ?_
  suffices K1 : L 6 [(0, .pointer s1), (1, .int .i64 at1), (2, .int .i64 n1), (3, on1), (8, .int .i64 0), (19, .bool (decide (at1 < 0) || decide (n1 < 0)))] w1 by
   rcases Bool.eq_false_or_eq_true (decide (at1 < 0)) with hb3 | hb3
   ·skip
    refine LW.skip hL rfl (Skips.on rfl rfl rfl rfl rfl hb3) rfl ?_
    refine LW.skip hL rfl (Skips.on rfl rfl rfl rfl rfl hb3) rfl ?_
    refine LW.rd hL rfl (Wants.free rfl) rfl (Rd.pickT rfl hb3 rfl) ?_
    exact LW.sub hL (by exact ⟨rfl, rfl, rfl, rfl, rfl, (by rw [hb3]; rfl), trivial⟩) K1
   ·skip
    refine LW.rd hL rfl (Wants.on rfl rfl rfl rfl rfl hb3) rfl (Rd.move (v := .int .i64 n1) rfl) ?_
    refine LW.rd hL rfl (Wants.on rfl rfl rfl rfl rfl hb3) rfl (Rd.bin (v := .bool (decide (n1 < 0))) rfl rfl (fun w => by kernel_rfl)) ?_
    refine LW.rd hL rfl (Wants.free rfl) rfl (Rd.pickF rfl hb3 rfl) ?_
    exact LW.sub hL (by exact ⟨rfl, rfl, rfl, rfl, rfl, (by rw [hb3]; rfl), trivial⟩) K1
  refine LW.rd hL rfl (Wants.free rfl) rfl (Rd.move (v := .bool (decide (at1 < 0) || decide (n1 < 0))) rfl) ?_
  obtain ⟨J1, hJ1, h1_J1, h0_J1⟩ := h
  suffices K2 : ∀ (b1 : Bool) (w2 : World), J1 b1 w2 → L 12 [(0, .pointer s1), (1, .int .i64 at1), (2, .int .i64 n1), (3, on1), (8, .int .i64 0), (25, .bool b1)] w2 by
   rcases Bool.eq_false_or_eq_true (decide (at1 < 0) || decide (n1 < 0)) with hb4 | hb4
   ·have h := h0_J1 hb4
    refine LW.skip hL rfl (Skips.on rfl rfl rfl rfl rfl hb4) rfl ?_
    refine LW.skip hL rfl (Skips.on rfl rfl rfl rfl rfl hb4) rfl ?_
    refine LW.skip hL rfl (Skips.on rfl rfl rfl rfl rfl hb4) rfl ?_
    refine LW.skip hL rfl (Skips.on rfl rfl rfl rfl rfl hb4) rfl ?_
    refine LW.rd hL rfl (Wants.free rfl) rfl (Rd.pickT rfl hb4 rfl) ?_
    exact LW.sub hL (by exact ⟨rfl, rfl, rfl, rfl, rfl, rfl, trivial⟩) (K2 true w1 h)
   ·have h := h1_J1 hb4
    refine LW.rd hL rfl (Wants.on rfl rfl rfl rfl rfl hb4) rfl (Rd.move (v := .int .i64 at1) rfl) ?_
    refine LW.rd hL rfl (Wants.on rfl rfl rfl rfl rfl hb4) rfl (Rd.move (v := .pointer s1) rfl) ?_
    refine LW.call hL rfl (Wants.on rfl rfl rfl rfl rfl hb4) rfl (Cl.fn (f := 138) rfl Tryz.func138 (by kernel_rfl) rfl) h (fun e w3 h_ => ?_)
    clear h
    obtain ⟨r3, rfl, h⟩ := h_
    refine ⟨_, rfl, ?_⟩
    refine LW.rd hL rfl (Wants.on rfl rfl rfl rfl rfl hb4) rfl (Rd.bin (v := .bool (decide (at1 > r3))) rfl rfl (fun w => by kernel_rfl)) ?_
    refine LW.rd hL rfl (Wants.free rfl) rfl (Rd.pickF rfl hb4 rfl) ?_
    exact LW.sub hL (by exact ⟨rfl, rfl, rfl, rfl, rfl, rfl, trivial⟩) (K2 (decide (at1 > r3)) w3 h)
  intro b1 w2 h_
  have h := hJ1 b1 w2 h_; clear h_
  refine LW.rd hL rfl (Wants.free rfl) rfl (Rd.move (v := .bool b1) rfl) ?_
  obtain ⟨J2, hJ2, h1_J2, h0_J2⟩ := h
  suffices K3 : ∀ (b2 : Bool) (w4 : World), J2 b2 w4 → L 20 [(1, .int .i64 at1), (2, .int .i64 n1), (3, on1), (8, .int .i64 0), (33, .bool b2)] w4 by
   rcases Bool.eq_false_or_eq_true b1 with hb5 | hb5
   ·have h := h0_J2 hb5
    refine LW.skip hL rfl (Skips.on rfl rfl rfl rfl rfl hb5) rfl ?_
    refine LW.skip hL rfl (Skips.on rfl rfl rfl rfl rfl hb5) rfl ?_
    refine LW.skip hL rfl (Skips.on rfl rfl rfl rfl rfl hb5) rfl ?_
    refine LW.skip hL rfl (Skips.on rfl rfl rfl rfl rfl hb5) rfl ?_
    refine LW.skip hL rfl (Skips.on rfl rfl rfl rfl rfl hb5) rfl ?_
    refine LW.skip hL rfl (Skips.on rfl rfl rfl rfl rfl hb5) rfl ?_
    refine LW.rd hL rfl (Wants.free rfl) rfl (Rd.pickT rfl hb5 rfl) ?_
    exact LW.sub hL (by exact ⟨rfl, rfl, rfl, rfl, rfl, trivial⟩) (K3 true w2 h)
   ·have h := h1_J2 hb5
    refine LW.rd hL rfl (Wants.on rfl rfl rfl rfl rfl hb5) rfl (Rd.move (v := .int .i64 n1) rfl) ?_
    refine LW.rd hL rfl (Wants.on rfl rfl rfl rfl rfl hb5) rfl (Rd.move (v := .pointer s1) rfl) ?_
    refine LW.call hL rfl (Wants.on rfl rfl rfl rfl rfl hb5) rfl (Cl.fn (f := 138) rfl Tryz.func138 (by kernel_rfl) rfl) h (fun e w5 h_ => ?_)
    clear h
    obtain ⟨r4, rfl, h⟩ := h_
    refine ⟨_, rfl, ?_⟩
    refine LW.rd hL rfl (Wants.on rfl rfl rfl rfl rfl hb5) rfl (Rd.move (v := .int .i64 at1) rfl) ?_
    refine LW.rd hL rfl (Wants.on rfl rfl rfl rfl rfl hb5) rfl (Rd.bin (v := .int .i64 (IntKind.wrap .i64 (r4 - at1))) rfl rfl (fun w => by kernel_rfl)) ?_
    refine LW.rd hL rfl (Wants.on rfl rfl rfl rfl rfl hb5) rfl (Rd.bin (v := .bool (decide (n1 > (IntKind.wrap .i64 (r4 - at1))))) rfl rfl (fun w => by kernel_rfl)) ?_
    refine LW.rd hL rfl (Wants.free rfl) rfl (Rd.pickF rfl hb5 rfl) ?_
    exact LW.sub hL (by exact ⟨rfl, rfl, rfl, rfl, rfl, trivial⟩) (K3 (decide (n1 > (IntKind.wrap .i64 (r4 - at1)))) w5 h)
  intro b2 w4 h_
  have h := hJ2 b2 w4 h_; clear h_
  refine LW.rd hL rfl (Wants.free rfl) rfl (Rd.assign (v := .bool b2) rfl) ?_
  refine LW.nil hL rfl ?_
  refine NW.then ?_
  refine CW.cond rfl (fun hb6 => ?_) (fun hb6 => ?_)
  ·replace h := h.1 hb6
   refine CW.seq ?_
   refine CW.region fun L hL => ?_
   refine LW.rd hL rfl (Wants.free rfl) rfl (Rd.assign (v := .int .i64 4) rfl) ?_
   refine LW.nil hL rfl ?_
   refine NW.then ?_
   refine CW.ret ?_
   refine RW.block ?_
   refine RW.then ?_
   exact res1 rfl rfl ⟨4, rfl, h⟩
  ·replace h := h.2 hb6
   refine CW.skip ?_
   refine NW.block ?_
   refine NW.then ?_
   refine CW.seq ?_
   refine CW.seq ?_
   refine CW.region fun L hL => ?_
   refine LW.rd hL rfl (Wants.free rfl) rfl (Rd.move (v := .int .i64 n1) rfl) ?_
   refine LW.rd hL rfl (Wants.free rfl) rfl (Rd.move (v := .int .i64 0) rfl) ?_
   refine LW.nil hL rfl ?_
   refine NW.then ?_
   refine CW.block ?_
   obtain ⟨I1, m1, hI1, h⟩ := h
   refine CW.loop (S := Int) (fun s2 => [(1, .int .i64 at1), (3, on1), (8, .int .i64 0), (34, .int .i64 n1), (35, .int .i64 s2)]) I1 m1 0 (by exact ⟨rfl, rfl, rfl, rfl, rfl, trivial⟩) hI1 (fun s2 w6 hI1 => ?_)
   replace h := h s2 w6 hI1
   refine CW.seq ?_
   refine CW.region fun L hL => ?_
   refine LW.rd hL rfl (Wants.free rfl) rfl (Rd.bin (v := .bool (decide (s2 < n1))) rfl rfl (fun w => by kernel_rfl)) ?_
   refine LW.nil hL rfl ?_
   refine NW.then ?_
   refine CW.seq ?_
   refine CW.cond rfl (fun hb7 => ?_) (fun hb7 => ?_)
   ·replace h := h.1 hb7
    refine CW.skip ?_
    refine NW.then ?_
    refine CW.seq ?_
    refine CW.block ?_
    refine CW.seq ?_
    refine CW.region fun L hL => ?_
    refine LW.rd hL rfl (Wants.free rfl) rfl (Rd.move (v := .int .i64 s2) rfl) ?_
    refine LW.rd hL rfl (Wants.free rfl) rfl (Rd.assign (v := .int .i64 s2) rfl) ?_
    refine LW.nil hL rfl ?_
    refine NW.then ?_
    refine CW.region fun L hL => ?_
    refine LW.rd hL rfl (Wants.free rfl) rfl (Rd.move (v := on1) rfl) ?_
    refine LW.rd hL rfl (Wants.free rfl) rfl (Rd.move (v := .int .i64 at1) rfl) ?_
    refine LW.rd hL rfl (Wants.free rfl) rfl (Rd.move (v := .int .i64 s2) rfl) ?_
    refine LW.rd hL rfl (Wants.free rfl) rfl (Rd.bin (v := .int .i64 (IntKind.wrap .i64 (at1 + s2))) rfl rfl (fun w => by kernel_rfl)) ?_
    obtain ⟨f1, cap_f1, fn_f1, he_f1, hf_f1, hn_f1, hb_f1, h⟩ := h
    refine LW.call hL rfl (Wants.free rfl) rfl (Cl.fv (f := f1) (cap := cap_f1) (by rw [← he_f1]; rfl) rfl hf_f1 hn_f1 hb_f1) h (fun e w7 h_ => ?_)
    clear h
    obtain ⟨rfl, h⟩ := h_
    refine ⟨_, rfl, ?_⟩
    refine LW.nil hL rfl ?_
    refine NW.block ?_
    refine NW.then ?_
    refine CW.region fun L hL => ?_
    refine LW.rd hL rfl (Wants.free rfl) rfl (Rd.bin (v := .int .i64 (IntKind.wrap .i64 (s2 + 1))) rfl rfl (fun w => by kernel_rfl)) ?_
    refine LW.rd hL rfl (Wants.free rfl) rfl (Rd.move (v := .int .i64 (IntKind.wrap .i64 (s2 + 1))) rfl) ?_
    refine LW.nil hL rfl ?_
    exact NW.loop (S := Int) (Ek := fun s2 => [(1, .int .i64 at1), (3, on1), (8, .int .i64 0), (34, .int .i64 n1), (35, .int .i64 s2)]) (IntKind.wrap .i64 (s2 + 1)) (by exact ⟨rfl, rfl, rfl, rfl, rfl, trivial⟩) h
   ·replace h := h.2 hb7
    refine CW.exit ?_
    refine XW.then ?_
    refine XW.then ?_
    refine XW.hit ?_
    refine NW.then ?_
    refine CW.seq ?_
    refine CW.region fun L hL => ?_
    refine LW.rd hL rfl (Wants.free rfl) rfl (Rd.assign (v := .int .i64 0) rfl) ?_
    refine LW.nil hL rfl ?_
    refine NW.then ?_
    refine CW.ret ?_
    exact res1 rfl rfl ⟨0, rfl, h⟩
/- (*pomander/shadow.Shadow).Union$1 -/
def V_shadow_Shadow_Union_1 (at1 : Int) (cap1 : Addr) (cap2 : Addr) (w : World) (R : World → Prop) : Prop :=
 ∀ w1 : World, w1 = World.drew w → ∃ (t1 : Int), w1.cell? cap1 = some (.int .u32 t1) ∧ (∃ (t2 : Option Addr), w1.cell? cap2 = some (.pointer t2) ∧ (Calls Tryz.prog 135 #[.pointer t2, .int .i64 at1] w1 fun e w2 => ∃ (r1 : Int), e = .returned (.int .u32 r1) ∧ ((w2.cell? cap1 = some (.int .u32 t1) ∧ w2.cell? cap2 = some (.pointer t2) ∧ True) ∧ ((∃ o : Value, w2.cell? cap1 = some o) ∧ w2.frozen? cap1 = false ∧ ∀ w3 : World, w3 = World.setCell w2 cap1 (.int .u32 (bits .or .u32 t1 r1)) → (R w3)))))
set_option maxRecDepth 100000 in
theorem ok_shadow_Shadow_Union_1 (at1 : Int) (cap1 : Addr) (cap2 : Addr) (w : World) (R : World → Prop) (h : V_shadow_Shadow_Union_1 at1 cap1 cap2 w R) : Calls Tryz.prog 134 #[.int .i64 at1, .pointer (some cap1), .pointer (some cap2)] w (fun e w' => e = .returned (.tuple #[]) ∧ R w') := by
 unfold V_shadow_Shadow_Union_1 at h
 refine enter (N := 9) Tryz.func134 rfl rfl ?_
 replace h := h _ rfl
 obtain ⟨t1, hc1, h⟩ := h
 obtain ⟨t2, hc2, h⟩ := h
 refine CW.drawn (fun w => w.cell? cap1 = some (.int .u32 t1) ∧ w.cell? cap2 = some (.pointer t2) ∧ True) 5 (by kernel_rfl) fun H hH => ?_
 generalize World.drew _ = w1 at *
 have hS1 : w1.cell? cap1 = some (.int .u32 t1) ∧ w1.cell? cap2 = some (.pointer t2) ∧ True := ⟨hc1, hc2, trivial⟩
 refine HW.take (i := 0) hH rfl (by kernel_rfl) (by kernel_rfl) (Wants.free rfl) rfl (fun _ => hS1) (Rd.ld (v := .int .u32 t1) rfl (by kernel_rfl) (fun w h => h.1)) ?_
 refine HW.take (i := 1) hH rfl (by kernel_rfl) (by kernel_rfl) (Wants.free rfl) rfl (fun _ => hS1) (Rd.ld (v := .pointer t2) rfl (by kernel_rfl) (fun w h => h.2.1)) ?_
 refine HW.pure (i := 2) hH rfl (by kernel_rfl) (Wants.free rfl) rfl (fun _ => hS1) (Rd.move (v := .int .i64 at1) rfl) ?_
 refine HW.call (i := 3) hH (by kernel_rfl) rfl (Wants.free rfl) rfl (Cl.fn (f := 135) rfl Tryz.func135 (by kernel_rfl) rfl) h (fun e w2 h_ => ?_)
 clear h
 obtain ⟨r1, rfl, hS2, h⟩ := h_
 refine ⟨_, rfl, (fun _ => hS2), ?_⟩
 refine HW.pure (i := 4) hH rfl (by kernel_rfl) (Wants.free rfl) rfl (fun _ => hS2) (Rd.bin (v := .int .u32 (bits .or .u32 t1 r1)) rfl rfl (fun w => by kernel_rfl)) ?_
 obtain ⟨⟨o_w3, ho1⟩, hf1, h⟩ := h
 obtain ⟨w3, hw_w3⟩ : ∃ w3, w3 = World.setCell w2 cap1 (.int .u32 (bits .or .u32 t1 r1)) := ⟨_, rfl⟩
 replace h := h w3 hw_w3
 refine HW.eff (i := 5) hH (by kernel_rfl) rfl (Wants.free rfl) rfl (stE hw_w3 (Ef.st rfl rfl rfl (by kernel_rfl) ho1 hf1)) (fun hc => by cases hc) ?_
 refine HW.done hH (by kernel_rfl) ?_
 exact res0n rfl (by exact ⟨rfl, h⟩)
/- (*pomander/shadow.Shadow).Fill$1 -/
def V_shadow_Shadow_Fill_1 (at1 : Int) (cap1 : Addr) (cap2 : Addr) (w : World) (R : World → Prop) : Prop :=
 ∃ (t1 : Option Addr), w.cell? cap1 = some (.pointer t1) ∧ (∃ (t2 : Int), w.cell? cap2 = some (.int .u32 t2) ∧ (Calls Tryz.prog 123 #[.pointer t1, .int .i64 at1, .int .u32 t2] w fun e w1 => e = .returned (.tuple #[]) ∧ (R w1)))
set_option maxRecDepth 100000 in
theorem ok_shadow_Shadow_Fill_1 (at1 : Int) (cap1 : Addr) (cap2 : Addr) (w : World) (R : World → Prop) (h : V_shadow_Shadow_Fill_1 at1 cap1 cap2 w R) : Calls Tryz.prog 122 #[.int .i64 at1, .pointer (some cap1), .pointer (some cap2)] w (fun e w' => e = .returned (.tuple #[]) ∧ R w') := by
 unfold V_shadow_Shadow_Fill_1 at h
 refine enter (N := 8) Tryz.func122 rfl rfl ?_
 refine CW.region fun L hL => ?_
 obtain ⟨t1, hc1, h⟩ := h
 refine LW.rd hL rfl (Wants.free rfl) rfl (Rd.ld (v := .pointer t1) rfl (by kernel_rfl) (eqs hc1)) ?_
 refine LW.rd hL rfl (Wants.free rfl) rfl (Rd.move (v := .int .i64 at1) rfl) ?_
 obtain ⟨t2, hc2, h⟩ := h
 refine LW.rd hL rfl (Wants.free rfl) rfl (Rd.ld (v := .int .u32 t2) rfl (by kernel_rfl) (eqs hc2)) ?_
 refine LW.call hL rfl (Wants.free rfl) rfl (Cl.fn (f := 123) rfl Tryz.func123 (by kernel_rfl) rfl) h (fun e w1 h_ => ?_)
 clear h
 obtain ⟨rfl, h⟩ := h_
 refine ⟨_, rfl, ?_⟩
 refine LW.nil hL rfl ?_
 exact res0n rfl (by exact ⟨rfl, h⟩)
/- (*pomander/shadow.Shadow).Union -/
def V_shadow_Shadow_Union (s1 : Option Addr) (at1 : Int) (n1 : Int) (w : World) (R : Int → Int → World → Prop) : Prop :=
 ∀ b1 : Nat, b1 = World.size w → ∀ w1 : World, w1 = World.alloc w (.cells #[.pointer s1] 98) → (∀ b2 : Nat, b2 = World.size w1 → ∀ w2 : World, w2 = World.alloc w1 (.cells #[.int .u32 0] 22) → ((∃ o : Value, w2.cell? (⟨b2, 0, none⟩ : Addr) = some o) ∧ w2.frozen? (⟨b2, 0, none⟩ : Addr) = false ∧ ∀ w3 : World, w3 = World.setCell w2 (⟨b2, 0, none⟩ : Addr) (.int .u32 0) → (∃ (t1 : Option Addr), w3.cell? (⟨b1, 0, none⟩ : Addr) = some (.pointer t1) ∧ (Calls Tryz.prog 121 #[.pointer t1, .int .i64 at1, .int .i64 n1, .func (.func 134) #[] #[.pointer (some (⟨b2, 0, none⟩ : Addr)), .pointer (some (⟨b1, 0, none⟩ : Addr))]] w3 fun e w4 => ∃ (r3 : Int), e = .returned (.int .i64 r3) ∧ (∃ (t2 : Int), w4.cell? (⟨b2, 0, none⟩ : Addr) = some (.int .u32 t2) ∧ (R t2 r3 w4))))))
set_option maxRecDepth 100000 in
theorem ok_shadow_Shadow_Union (s1 : Option Addr) (at1 : Int) (n1 : Int) (w : World) (R : Int → Int → World → Prop) (h : V_shadow_Shadow_Union s1 at1 n1 w R) : Calls Tryz.prog 117 #[.pointer s1, .int .i64 at1, .int .i64 n1] w (fun e w' => ∃ (r1 : Int) (r2 : Int), e = .returned (.tuple #[.int .u32 r1, .int .i64 r2]) ∧ R r1 r2 w') := by
 unfold V_shadow_Shadow_Union at h
 refine enter (N := 17) Tryz.func117 rfl rfl ?_
 refine CW.seq ?_
 refine CW.region fun L hL => ?_
 obtain ⟨b1, hb_b1⟩ : ∃ b1, b1 = World.size w := ⟨_, rfl⟩
 obtain ⟨w1, hw_w1⟩ : ∃ w1, w1 = World.alloc w (.cells #[.pointer s1] 98) := ⟨_, rfl⟩
 replace h := h b1 hb_b1 w1 hw_w1
 refine LW.val hL rfl (Wants.free rfl) rfl (boxE hb_b1 hw_w1 (Vl.box (v := .pointer s1) rfl)) ?_
 refine LW.rd hL rfl (Wants.free rfl) rfl (Rd.assign (v := .int .u32 0) rfl) ?_
 refine LW.rd hL rfl (Wants.free rfl) rfl (Rd.assign (v := .int .i64 0) rfl) ?_
 refine LW.nil hL rfl ?_
 refine NW.then ?_
 refine CW.seq ?_
 refine CW.region fun L hL => ?_
 obtain ⟨b2, hb_b2⟩ : ∃ b2, b2 = World.size w1 := ⟨_, rfl⟩
 obtain ⟨w2, hw_w2⟩ : ∃ w2, w2 = World.alloc w1 (.cells #[.int .u32 0] 22) := ⟨_, rfl⟩
 replace h := h b2 hb_b2 w2 hw_w2
 refine LW.val hL rfl (Wants.free rfl) rfl (boxE hb_b2 hw_w2 (Vl.alloc (z := .int .u32 0) (by kernel_rfl))) ?_
 obtain ⟨⟨o_w3, ho1⟩, hf1, h⟩ := h
 obtain ⟨w3, hw_w3⟩ : ∃ w3, w3 = World.setCell w2 (⟨b2, 0, none⟩ : Addr) (.int .u32 0) := ⟨_, rfl⟩
 replace h := h w3 hw_w3
 refine LW.eff hL rfl (Wants.free rfl) rfl (stE hw_w3 (Ef.st rfl rfl rfl (by kernel_rfl) ho1 hf1)) ?_
 refine LW.nil hL rfl ?_
 refine NW.then ?_
 refine CW.seq ?_
 refine CW.region fun L hL => ?_
 obtain ⟨t1, hc1, h⟩ := h
 refine LW.rd hL rfl (Wants.free rfl) rfl (Rd.ld (v := .pointer t1) rfl (by kernel_rfl) (eqs hc1)) ?_
 refine LW.rd hL rfl (Wants.free rfl) rfl (Rd.move (v := .int .i64 at1) rfl) ?_
 refine LW.rd hL rfl (Wants.free rfl) rfl (Rd.move (v := .int .i64 n1) rfl) ?_
 refine LW.rd hL rfl (Wants.free rfl) rfl (Rd.makeFunc rfl) ?_
 refine LW.call hL rfl (Wants.free rfl) rfl (Cl.fn (f := 121) rfl Tryz.func121 (by kernel_rfl) rfl) h (fun e w4 h_ => ?_)
 clear h
 obtain ⟨r3, rfl, h⟩ := h_
 refine ⟨_, rfl, ?_⟩
 refine LW.rd hL rfl (Wants.free rfl) rfl (Rd.assign (v := .int .i64 r3) rfl) ?_
 refine LW.nil hL rfl ?_
 refine NW.then ?_
 refine CW.seq ?_
 refine CW.region fun L hL => ?_
 obtain ⟨t2, hc2, h⟩ := h
 refine LW.rd hL rfl (Wants.free rfl) rfl (Rd.ld (v := .int .u32 t2) rfl (by kernel_rfl) (eqs hc2)) ?_
 refine LW.rd hL rfl (Wants.free rfl) rfl (Rd.move (v := .int .i64 r3) rfl) ?_
 refine LW.rd hL rfl (Wants.free rfl) rfl (Rd.assign (v := .int .u32 t2) rfl) ?_
 refine LW.rd hL rfl (Wants.free rfl) rfl (Rd.assign (v := .int .i64 r3) rfl) ?_
 refine LW.nil hL rfl ?_
 refine NW.then ?_
 refine CW.ret ?_
 exact res2 rfl rfl rfl ⟨t2, r3, rfl, h⟩
/- (*pomander/shadow.Shadow).Fill -/
def V_shadow_Shadow_Fill (s1 : Option Addr) (at1 : Int) (n1 : Int) (set1 : Int) (w : World) (R : Int → World → Prop) : Prop :=
 ∀ b1 : Nat, b1 = World.size w → ∀ w1 : World, w1 = World.alloc w (.cells #[.pointer s1] 98) → (∀ b2 : Nat, b2 = World.size w1 → ∀ w2 : World, w2 = World.alloc w1 (.cells #[.int .u32 set1] 22) → (∃ (t1 : Option Addr), w2.cell? (⟨b1, 0, none⟩ : Addr) = some (.pointer t1) ∧ (Calls Tryz.prog 81 #[.pointer t1] w2 fun e w3 => ∃ (r2 : Bool), e = .returned (.bool r2) ∧ (∃ J1 : Bool → World → Prop, (∀ (b3 : Bool) (w4 : World), J1 b3 w4 → (b3 = true → R 2 w4) ∧ (b3 = false → ∃ (t3 : Option Addr), w4.cell? (⟨b1, 0, none⟩ : Addr) = some (.pointer t3) ∧ (Calls Tryz.prog 121 #[.pointer t3, .int .i64 at1, .int .i64 n1, .func (.func 122) #[] #[.pointer (some (⟨b1, 0, none⟩ : Addr)), .pointer (some (⟨b2, 0, none⟩ : Addr))]] w4 fun e w5 => ∃ (r3 : Int), e = .returned (.int .i64 r3) ∧ (R r3 w5)))) ∧ (((!r2) = true → ∃ (t2 : Int), w3.cell? (⟨b2, 0, none⟩ : Addr) = some (.int .u32 t2) ∧ (J1 (!((Int.fdiv t2 65536) == 0)) w3)) ∧ ((!r2) = false → J1 false w3))))))
set_option maxRecDepth 100000 in
theorem ok_shadow_Shadow_Fill (s1 : Option Addr) (at1 : Int) (n1 : Int) (set1 : Int) (w : World) (R : Int → World → Prop) (h : V_shadow_Shadow_Fill s1 at1 n1 set1 w R) : Calls Tryz.prog 111 #[.pointer s1, .int .i64 at1, .int .i64 n1, .int .u32 set1] w (fun e w' => ∃ (r1 : Int), e = .returned (.int .i64 r1) ∧ R r1 w') := by
 unfold V_shadow_Shadow_Fill at h
 refine enter (N := 22) Tryz.func111 rfl rfl ?_
 refine CW.seq ?_
 refine CW.region fun L hL => ?_
 obtain ⟨b1, hb_b1⟩ : ∃ b1, b1 = World.size w := ⟨_, rfl⟩
 obtain ⟨w1, hw_w1⟩ : ∃ w1, w1 = World.alloc w (.cells #[.pointer s1] 98) := ⟨_, rfl⟩
 replace h := h b1 hb_b1 w1 hw_w1
 refine LW.val hL rfl (Wants.free rfl) rfl (boxE hb_b1 hw_w1 (Vl.box (v := .pointer s1) rfl)) ?_
 obtain ⟨b2, hb_b2⟩ : ∃ b2, b2 = World.size w1 := ⟨_, rfl⟩
 obtain ⟨w2, hw_w2⟩ : ∃ w2, w2 = World.alloc w1 (.cells #[.int .u32 set1] 22) := ⟨_, rfl⟩
 replace h := h b2 hb_b2 w2 hw_w2
 refine LW.val hL rfl (Wants.free rfl) rfl (boxE hb_b2 hw_w2 (Vl.box (v := .int .u32 set1) rfl)) ?_
 refine LW.rd hL rfl (Wants.free rfl) rfl (Rd.assign (v := .int .i64 0) rfl) ?_
 refine LW.nil hL rfl ?_
 refine NW.then ?_
 refine CW.seq ?_
 refine CW.seq ?_
 refine CW.region fun L hL => ?_
 obtain ⟨t1, hc1, h⟩ := h
 refine LW.rd hL rfl (Wants.free rfl) rfl (Rd.ld (v := .pointer t1) rfl (by kernel_rfl) (eqs hc1)) ?_
 refine LW.call hL rfl (Wants.free rfl) rfl (Cl.fn (f := 81) rfl Tryz.func81 (by kernel_rfl) rfl) h (fun e w3 h_ => ?_)
 clear h
 obtain ⟨r2, rfl, h⟩ := h_
 refine ⟨_, rfl, ?_⟩
 refine LW.rd hL rfl (Wants.free rfl) rfl (Rd.un (v := .bool (!r2)) rfl (fun _ => by kernel_rfl)) ?_
 refine LW.rd hL rfl (Wants.free rfl) rfl (Rd.move (v := .bool (!r2)) rfl) ?_
 obtain ⟨J1, hJ1, h1_J1, h0_J1⟩ := h
 suffices K1 : ∀ (b3 : Bool) (w4 : World), J1 b3 w4 → L 8 [(1, .int .i64 at1), (2, .int .i64 n1), (4, .pointer (some (⟨b1, 0, none⟩ : Addr))), (7, .pointer (some (⟨b2, 0, none⟩ : Addr))), (8, .int .i64 0), (16, .bool b3)] w4 by
  rcases Bool.eq_false_or_eq_true (!r2) with hb1 | hb1
  ·have h := h1_J1 hb1
   obtain ⟨t2, hc2, h⟩ := h
   refine LW.rd hL rfl (Wants.on rfl rfl rfl rfl rfl hb1) rfl (Rd.ld (v := .int .u32 t2) rfl (by kernel_rfl) (eqs hc2)) ?_
   refine LW.rd hL rfl (Wants.on rfl rfl rfl rfl rfl hb1) rfl (Rd.bin (v := .int .u32 (Int.fdiv t2 65536)) rfl rfl (fun w => by kernel_rfl)) ?_
   refine LW.rd hL rfl (Wants.on rfl rfl rfl rfl rfl hb1) rfl (Rd.bin (v := .bool (!((Int.fdiv t2 65536) == 0))) rfl rfl (fun w => by kernel_rfl)) ?_
   refine LW.rd hL rfl (Wants.free rfl) rfl (Rd.pickT rfl hb1 rfl) ?_
   exact LW.sub hL (by exact ⟨rfl, rfl, rfl, rfl, rfl, rfl, trivial⟩) (K1 (!((Int.fdiv t2 65536) == 0)) w3 h)
  ·have h := h0_J1 hb1
   refine LW.skip hL rfl (Skips.on rfl rfl rfl rfl rfl hb1) rfl ?_
   refine LW.skip hL rfl (Skips.on rfl rfl rfl rfl rfl hb1) rfl ?_
   refine LW.skip hL rfl (Skips.on rfl rfl rfl rfl rfl hb1) rfl ?_
   refine LW.rd hL rfl (Wants.free rfl) rfl (Rd.pickF rfl hb1 rfl) ?_
   exact LW.sub hL (by exact ⟨rfl, rfl, rfl, rfl, rfl, rfl, trivial⟩) (K1 false w3 h)
 intro b3 w4 h_
 have h := hJ1 b3 w4 h_; clear h_
 refine LW.nil hL rfl ?_
 refine NW.then ?_
 refine CW.cond rfl (fun hb2 => ?_) (fun hb2 => ?_)
 ·replace h := h.1 hb2
  refine CW.seq ?_
  refine CW.region fun L hL => ?_
  refine LW.rd hL rfl (Wants.free rfl) rfl (Rd.assign (v := .int .i64 2) rfl) ?_
  refine LW.nil hL rfl ?_
  refine NW.then ?_
  refine CW.ret ?_
  refine RW.then ?_
  exact res1 rfl rfl ⟨2, rfl, h⟩
 ·replace h := h.2 hb2
  refine CW.skip ?_
  refine NW.then ?_
  refine CW.seq ?_
  refine CW.region fun L hL => ?_
  obtain ⟨t3, hc3, h⟩ := h
  refine LW.rd hL rfl (Wants.free rfl) rfl (Rd.ld (v := .pointer t3) rfl (by kernel_rfl) (eqs hc3)) ?_
  refine LW.rd hL rfl (Wants.free rfl) rfl (Rd.move (v := .int .i64 at1) rfl) ?_
  refine LW.rd hL rfl (Wants.free rfl) rfl (Rd.move (v := .int .i64 n1) rfl) ?_
  refine LW.rd hL rfl (Wants.free rfl) rfl (Rd.makeFunc rfl) ?_
  refine LW.call hL rfl (Wants.free rfl) rfl (Cl.fn (f := 121) rfl Tryz.func121 (by kernel_rfl) rfl) h (fun e w5 h_ => ?_)
  clear h
  obtain ⟨r3, rfl, h⟩ := h_
  refine ⟨_, rfl, ?_⟩
  refine LW.rd hL rfl (Wants.free rfl) rfl (Rd.assign (v := .int .i64 r3) rfl) ?_
  refine LW.nil hL rfl ?_
  refine NW.then ?_
  refine CW.ret ?_
  exact res1 rfl rfl ⟨r3, rfl, h⟩
/- (*pomander/shadow.Shadow).Get -/
def V_shadow_Shadow_Get (s1 : Option Addr) (at1 : Int) (w : World) (R : Int → Int → World → Prop) : Prop :=
 Calls Tryz.prog 117 #[.pointer s1, .int .i64 at1, .int .i64 1] w fun e w1 => ∃ (r3 : Int) (r4 : Int), e = .returned (.tuple #[.int .u32 r3, .int .i64 r4]) ∧ (R r3 r4 w1)
set_option maxRecDepth 100000 in
theorem ok_shadow_Shadow_Get (s1 : Option Addr) (at1 : Int) (w : World) (R : Int → Int → World → Prop) (h : V_shadow_Shadow_Get s1 at1 w R) : Calls Tryz.prog 97 #[.pointer s1, .int .i64 at1] w (fun e w' => ∃ (r1 : Int) (r2 : Int), e = .returned (.tuple #[.int .u32 r1, .int .i64 r2]) ∧ R r1 r2 w') := by
 unfold V_shadow_Shadow_Get at h
 refine enter (N := 11) Tryz.func97 rfl rfl ?_
 refine CW.seq ?_
 refine CW.region fun L hL => ?_
 refine LW.rd hL rfl (Wants.free rfl) rfl (Rd.assign (v := .int .u32 0) rfl) ?_
 refine LW.rd hL rfl (Wants.free rfl) rfl (Rd.assign (v := .int .i64 0) rfl) ?_
 refine LW.nil hL rfl ?_
 refine NW.then ?_
 refine CW.seq ?_
 refine CW.region fun L hL => ?_
 refine LW.rd hL rfl (Wants.free rfl) rfl (Rd.move (v := .pointer s1) rfl) ?_
 refine LW.rd hL rfl (Wants.free rfl) rfl (Rd.move (v := .int .i64 at1) rfl) ?_
 refine LW.call hL rfl (Wants.free rfl) rfl (Cl.fn (f := 117) rfl Tryz.func117 (by kernel_rfl) rfl) h (fun e w1 h_ => ?_)
 clear h
 obtain ⟨r3, r4, rfl, h⟩ := h_
 refine ⟨_, rfl, ?_⟩
 refine LW.rd hL rfl (Wants.free rfl) rfl (Rd.extract (v := .int .u32 r3) rfl rfl) ?_
 refine LW.rd hL rfl (Wants.free rfl) rfl (Rd.extract (v := .int .i64 r4) rfl rfl) ?_
 refine LW.rd hL rfl (Wants.free rfl) rfl (Rd.assign (v := .int .u32 r3) rfl) ?_
 refine LW.rd hL rfl (Wants.free rfl) rfl (Rd.assign (v := .int .i64 r4) rfl) ?_
 refine LW.nil hL rfl ?_
 refine NW.then ?_
 refine CW.ret ?_
 exact res2 rfl rfl rfl ⟨r3, r4, rfl, h⟩
/- (*pomander/shadow.Shadow).Set -/
def V_shadow_Shadow_Set (s1 : Option Addr) (at1 : Int) (set1 : Int) (w : World) (R : Int → World → Prop) : Prop :=
 Calls Tryz.prog 111 #[.pointer s1, .int .i64 at1, .int .i64 1, .int .u32 set1] w fun e w1 => ∃ (r2 : Int), e = .returned (.int .i64 r2) ∧ (R r2 w1)
set_option maxRecDepth 100000 in
theorem ok_shadow_Shadow_Set (s1 : Option Addr) (at1 : Int) (set1 : Int) (w : World) (R : Int → World → Prop) (h : V_shadow_Shadow_Set s1 at1 set1 w R) : Calls Tryz.prog 91 #[.pointer s1, .int .i64 at1, .int .u32 set1] w (fun e w' => ∃ (r1 : Int), e = .returned (.int .i64 r1) ∧ R r1 w') := by
 unfold V_shadow_Shadow_Set at h
 refine enter (N := 11) Tryz.func91 rfl rfl ?_
 refine CW.seq ?_
 refine CW.region fun L hL => ?_
 refine LW.rd hL rfl (Wants.free rfl) rfl (Rd.assign (v := .int .i64 0) rfl) ?_
 refine LW.nil hL rfl ?_
 refine NW.then ?_
 refine CW.seq ?_
 refine CW.region fun L hL => ?_
 refine LW.rd hL rfl (Wants.free rfl) rfl (Rd.move (v := .pointer s1) rfl) ?_
 refine LW.rd hL rfl (Wants.free rfl) rfl (Rd.move (v := .int .i64 at1) rfl) ?_
 refine LW.rd hL rfl (Wants.free rfl) rfl (Rd.move (v := .int .u32 set1) rfl) ?_
 refine LW.call hL rfl (Wants.free rfl) rfl (Cl.fn (f := 111) rfl Tryz.func111 (by kernel_rfl) rfl) h (fun e w1 h_ => ?_)
 clear h
 obtain ⟨r2, rfl, h⟩ := h_
 refine ⟨_, rfl, ?_⟩
 refine LW.rd hL rfl (Wants.free rfl) rfl (Rd.assign (v := .int .i64 r2) rfl) ?_
 refine LW.nil hL rfl ?_
 refine NW.then ?_
 refine CW.ret ?_
 exact res1 rfl rfl ⟨r2, rfl, h⟩
/- pomander/shadow.New -/
def V_shadow_New (pages1 : Int) (w : World) (R : (Option Addr) → Int → World → Prop) : Prop :=
 ((decide (pages1 < 1) || decide (pages1 > 32)) = true → R none 2 w) ∧ ((decide (pages1 < 1) || decide (pages1 > 32)) = false → ∀ b1 : Nat, b1 = World.size w → ∀ w1 : World, w1 = World.alloc w (.map #[] 0) → (∀ b2 : Nat, b2 = World.size w1 → ∀ w2 : World, w2 = World.alloc w1 (.cells #[.int .i64 pages1, .map (some b1)] 158) → (R (some (⟨b2, 0, none⟩ : Addr)) 0 w2)))
set_option maxRecDepth 100000 in
theorem ok_shadow_New (pages1 : Int) (w : World) (R : (Option Addr) → Int → World → Prop) (h : V_shadow_New pages1 w R) : Calls Tryz.prog 58 #[.int .i64 pages1] w (fun e w' => ∃ (r1 : Option Addr) (r2 : Int), e = .returned (.tuple #[.pointer r1, .int .i64 r2]) ∧ R r1 r2 w') := by
 unfold V_shadow_New at h
 refine enter (N := 14) Tryz.func58 rfl rfl ?_
 refine CW.seq ?_
 refine CW.region fun L hL => ?_
 refine LW.rd hL rfl (Wants.free rfl) rfl (Rd.assign (v := .pointer none) rfl) ?_
 refine LW.rd hL rfl (Wants.free rfl) rfl (Rd.assign (v := .int .i64 0) rfl) ?_
 refine LW.nil hL rfl ?_
 refine NW.then ?_
 refine CW.seq ?_
 refine CW.seq ?_
 refine CW.region fun L hL => ?_
 refine LW.rd hL rfl (Wants.free rfl) rfl (Rd.move (v := .int .i64 pages1) rfl) ?_
 refine LW.rd hL rfl (Wants.free rfl) rfl (Rd.bin (v := .bool (decide (pages1 < 1))) rfl rfl (fun w => by kernel_rfl)) ?_
 refine LW.rd hL rfl (Wants.free rfl) rfl (Rd.move (v := .bool (decide (pages1 < 1))) rfl) ?_
 suffices K1 : L 6 [(0, .int .i64 pages1), (2, .pointer none), (3, .int .i64 0), (9, .bool (decide (pages1 < 1) || decide (pages1 > 32)))] w by
  rcases Bool.eq_false_or_eq_true (decide (pages1 < 1)) with hb2 | hb2
  ·skip
   refine LW.skip hL rfl (Skips.on rfl rfl rfl rfl rfl hb2) rfl ?_
   refine LW.skip hL rfl (Skips.on rfl rfl rfl rfl rfl hb2) rfl ?_
   refine LW.rd hL rfl (Wants.free rfl) rfl (Rd.pickT rfl hb2 rfl) ?_
   exact LW.sub hL (by exact ⟨rfl, rfl, rfl, (by rw [hb2]; rfl), trivial⟩) K1
  ·skip
   refine LW.rd hL rfl (Wants.on rfl rfl rfl rfl rfl hb2) rfl (Rd.move (v := .int .i64 pages1) rfl) ?_
   refine LW.rd hL rfl (Wants.on rfl rfl rfl rfl rfl hb2) rfl (Rd.bin (v := .bool (decide (pages1 > 32))) rfl rfl (fun w => by kernel_rfl)) ?_
   refine LW.rd hL rfl (Wants.free rfl) rfl (Rd.pickF rfl hb2 rfl) ?_
   exact LW.sub hL (by exact ⟨rfl, rfl, rfl, (by rw [hb2]; rfl), trivial⟩) K1
 refine LW.nil hL rfl ?_
 refine NW.then ?_
 refine CW.cond rfl (fun hb3 => ?_) (fun hb3 => ?_)
 ·replace h := h.1 hb3
  refine CW.seq ?_
  refine CW.region fun L hL => ?_
  refine LW.rd hL rfl (Wants.free rfl) rfl (Rd.assign (v := .pointer none) rfl) ?_
  refine LW.rd hL rfl (Wants.free rfl) rfl (Rd.assign (v := .int .i64 2) rfl) ?_
  refine LW.nil hL rfl ?_
  refine NW.then ?_
  refine CW.ret ?_
  refine RW.then ?_
  exact res2 rfl rfl rfl ⟨none, 2, rfl, h⟩
 ·replace h := h.2 hb3
  refine CW.skip ?_
  refine NW.then ?_
  refine CW.seq ?_
  refine CW.region fun L hL => ?_
  refine LW.rd hL rfl (Wants.free rfl) rfl (Rd.move (v := .int .i64 pages1) rfl) ?_
  obtain ⟨b1, hb_b1⟩ : ∃ b1, b1 = World.size w := ⟨_, rfl⟩
  obtain ⟨w1, hw_w1⟩ : ∃ w1, w1 = World.alloc w (.map #[] 0) := ⟨_, rfl⟩
  replace h := h b1 hb_b1 w1 hw_w1
  refine LW.val hL rfl (Wants.free rfl) rfl (mapE hb_b1 hw_w1 Vl.makeMap) ?_
  refine LW.rd hL rfl (Wants.free rfl) rfl (Rd.build (v := .agg #[.int .i64 pages1, .map (some b1)]) rfl (fun _ => by kernel_rfl)) ?_
  obtain ⟨b2, hb_b2⟩ : ∃ b2, b2 = World.size w1 := ⟨_, rfl⟩
  obtain ⟨w2, hw_w2⟩ : ∃ w2, w2 = World.alloc w1 (.cells #[.int .i64 pages1, .map (some b1)] 158) := ⟨_, rfl⟩
  replace h := h b2 hb_b2 w2 hw_w2
  refine LW.val hL rfl (Wants.free rfl) rfl (boxE hb_b2 hw_w2 (Vl.box (v := .agg #[.int .i64 pages1, .map (some b1)]) rfl)) ?_
  refine LW.rd hL rfl (Wants.free rfl) rfl (Rd.assign (v := .pointer (some (⟨b2, 0, none⟩ : Addr))) rfl) ?_
  refine LW.rd hL rfl (Wants.free rfl) rfl (Rd.assign (v := .int .i64 0) rfl) ?_
  refine LW.nil hL rfl ?_
  refine NW.then ?_
  refine CW.ret ?_
  exact res2 rfl rfl rfl ⟨some (⟨b2, 0, none⟩ : Addr), 0, rfl, h⟩
end Go.Proofs.YtfcfkhbkkfpehaaGreat
end
section
/- Shadows: what stands there; get, put. -/
namespace Go.Proofs.YtfcfkhbkkfpehaaGreat
open Go Go.RowKit Go.X
theorem wr {n : Int} (h1 : -9223372036854775808 ≤ n) (h2 : n ≤ 9223372036854775807) : IntKind.wrap .i64 n = n := by rw [IntKind.wrap_i64]; omega
def many (s : Nat → Int) : Nat := (List.range 64).countP (fun i => s i != 0)
theorem countP_set {l : List Nat} (hn : l.Nodup) {i : Nat} (hi : i ∈ l) (p q : Nat → Bool) (h : ∀ j, j ≠ i → p j = q j) : l.countP q + (if p i then 1 else 0) = l.countP p + (if q i then 1 else 0) := by
 induction l with
 | nil => simp at hi
 | cons a l ih =>
  simp only [List.nodup_cons] at hn
  simp only [List.countP_cons]
  rcases List.mem_cons.1 hi with rfl | hm
  ·have : l.countP q = l.countP p := List.countP_congr (fun x hx => by rw [h x (fun e => hn.1 (e ▸ hx))])
   rw [this]; omega
  ·have := ih hn.2 hm
   have ha : p a = q a := h a (fun e => hn.1 (e ▸ hm))
   rw [ha]; omega
theorem many_set (s t : Nat → Int) {i : Nat} (hi : i < 64) (h : ∀ j, j ≠ i → s j = t j) : many t + (if s i = 0 then 0 else 1) = many s + (if t i = 0 then 0 else 1) := by
 have := countP_set List.nodup_range (List.mem_range.2 hi) (fun i => s i != 0) (fun i => t i != 0) (fun j hj => by simp [h j hj])
 unfold many
 have e1 : (if (s i != 0) = true then 1 else 0) = (if s i = 0 then 0 else 1) := by by_cases h : s i = 0 <;> simp [h]
 have e2 : (if (t i != 0) = true then 1 else 0) = (if t i = 0 then 0 else 1) := by by_cases h : t i = 0 <;> simp [h]
 rw [e1, e2] at this; exact this
theorem many_pos {s : Nat → Int} {i : Nat} (hi : i < 64) (h : s i ≠ 0) : 0 < many s := List.countP_pos_iff.2 ⟨i, List.mem_range.2 hi, by simpa using h⟩
theorem many_zero {s : Nat → Int} (h : many s = 0) {i : Nat} (hi : i < 64) : s i = 0 := by
 rcases Decidable.em (s i = 0) with h' | h'
 ·exact h'
 ·have := many_pos hi h'; omega
theorem many_none {s : Nat → Int} (h : ∀ i, i < 64 → s i = 0) : many s = 0 := List.countP_eq_zero.2 (fun i hi => by simp [h i (List.mem_range.1 hi)])
def PageC (w : World) (q : Nat) (n : Int) (s : Nat → Int) : Prop :=
 ∃ c : Array Value, w.heap[q]? = some (.cells c 167 (0, 0)) ∧ c.size = 65 ∧ c[0]? = some (.int .i64 n) ∧ ∀ i, i < 64 → c[1 + i]? = some (.int .u32 (s i))
theorem PageC.chg {w w' : World} {f : List Nat} {q : Nat} {n : Int} {s : Nat → Int} (h : PageC w q n s) (hc : Chg f w w') (hf : q ∉ f) : PageC w' q n s := by
 obtain ⟨c, h1, h2⟩ := h; exact ⟨c, hc.obj hf h1, h2⟩
theorem PageC.lt {w : World} {q : Nat} {n : Int} {s : Nat → Int} (h : PageC w q n s) : q < w.heap.size := by obtain ⟨c, h1, _⟩ := h; exact lt_of_heap h1
def encPg (q : Nat) : Value := .pointer (some ⟨q, 0, none⟩)
def pg (g : Int → Int) (n : Int) (i : Nat) : Int := g (64 * n + i)
structure ShadowAt (w : World) (b : Nat) (pages : Int) (g : Int → Int) (fp : List Nat) : Prop where
 there : ∃ (r : Nat) (l : List (Int × Nat)), w.heap[b]? = some (.cells #[.int .i64 pages, .map (some r)] 158 (0, 0)) ∧ MapIs w r (fun n : Int => .int .i64 n) encPg l ∧
  (∀ x ∈ l, 0 ≤ x.1 ∧ x.1 < pages ∧ PageC w x.2 (many (pg g x.1)) (pg g x.1) ∧ 0 < many (pg g x.1)) ∧ (∀ n, lookK n l = none → ∀ i, i < 64 → pg g n i = 0) ∧ fp = b :: r :: l.map Prod.snd
 nodup : fp.Nodup
 pages1 : 1 ≤ pages
 pages2 : pages ≤ 32
 each : ∀ i, 0 ≤ g i ∧ g i < 65536
theorem ShadowAt.lt {w : World} {b : Nat} {pages : Int} {g : Int → Int} {fp : List Nat} (h : ShadowAt w b pages g fp) : ∀ i ∈ fp, i < w.heap.size := by
 obtain ⟨r, l, h1, h2, h3, h4, rfl⟩ := h.there
 intro i hi
 simp only [List.mem_cons] at hi
 rcases hi with rfl | rfl | hi
 ·exact lt_of_heap h1
 ·exact h2.lt
 ·obtain ⟨x, hx, rfl⟩ := List.mem_map.1 hi
  exact (h3 x hx).2.2.1.lt
theorem ShadowAt.chg {w w' : World} {b : Nat} {pages : Int} {g : Int → Int} {fp f : List Nat} (h : ShadowAt w b pages g fp) (hc : Chg f w w') (hf : ∀ i ∈ fp, i ∉ f) : ShadowAt w' b pages g fp := by
 obtain ⟨r, l, h1, h2, h3, h4, rfl⟩ := h.there
 simp only [List.mem_cons, forall_eq_or_imp] at hf
 obtain ⟨f1, f2, f3⟩ := hf
 exact { h with there := ⟨r, l, hc.obj f1 h1, h2.chg hc f2, fun x hx => ⟨(h3 x hx).1, (h3 x hx).2.1, (h3 x hx).2.2.1.chg hc (f3 _ (List.mem_map.2 ⟨x, hx, rfl⟩)), (h3 x hx).2.2.2⟩, h4, rfl⟩ }
theorem div64 {at1 : Int} (h : 0 ≤ at1) : Int.tdiv at1 64 = at1 / 64 := Int.tdiv_eq_ediv_of_nonneg h
theorem mod64 {at1 : Int} (h : 0 ≤ at1) : Int.tmod at1 64 = at1 % 64 := Int.tmod_eq_emod_of_nonneg h
theorem pg_at (g : Int → Int) {at1 : Int} : pg g (at1 / 64) (at1 % 64).toNat = g at1 := by unfold pg; congr 1; omega
theorem ShadowAt.out {w : World} {b : Nat} {pages : Int} {g : Int → Int} {fp : List Nat} (h : ShadowAt w b pages g fp) {i : Int} (hi : i < 0 ∨ 64 * pages ≤ i) : g i = 0 := by
 obtain ⟨r, l, h1, h2, h3, h4, rfl⟩ := h.there
 rw [← pg_at g]
 refine h4 _ ?_ _ (by omega)
 rw [lookK_none]
 intro x hx
 have := h3 x hx
 omega
theorem shadow_none {w : World} {b : Nat} {pages : Int} {g : Int → Int} {fp : List Nat} (h : ShadowAt w b pages g fp) :
  Calls Tryz.prog 81 #[.pointer (some ⟨b, 0, none⟩)] w fun e w' => ∃ r : Bool, e = .returned (.bool r) ∧ (r = false ∧ w' = w) := by
 obtain ⟨r, l, h1, _⟩ := h.there
 refine ok_shadow_Shadow_none _ _ _ ?_
 unfold V_shadow_Shadow_none
 refine ⟨_, fun s w h => h, fun _ => ⟨_, rfl, pages, by rw [cell_of h1]; rfl, ?_, rfl⟩, fun h => by simp at h⟩
 have := h.pages1
 simp; omega
theorem shadow_size {w : World} {b : Nat} {pages : Int} {g : Int → Int} {fp : List Nat} (h : ShadowAt w b pages g fp) :
  Calls Tryz.prog 138 #[.pointer (some ⟨b, 0, none⟩)] w fun e w' => ∃ r : Int, e = .returned (.int .i64 r) ∧ (r = 64 * pages ∧ w' = w) := by
 obtain ⟨r, l, h1, _⟩ := h.there
 refine ok_shadow_Shadow_Size _ _ _ ?_
 unfold V_shadow_Shadow_Size
 refine (shadow_none h).mono ?_
 rintro _ w1 ⟨_, rfl, rfl, rfl⟩
 have := h.pages1
 have := h.pages2
 exact ⟨_, rfl, fun h => by simp at h, fun _ => ⟨_, rfl, pages, by rw [cell_of h1]; rfl, by rw [wr (by omega) (by omega)]; omega, rfl⟩⟩
theorem shadow_get {w : World} {b : Nat} {pages : Int} {g : Int → Int} {fp : List Nat} (h : ShadowAt w b pages g fp) {at1 : Int} (h0 : 0 ≤ at1) (hs : at1 < 64 * pages) :
  Calls Tryz.prog 135 #[.pointer (some ⟨b, 0, none⟩), .int .i64 at1] w fun e w' => ∃ r : Int, e = .returned (.int .u32 r) ∧ (r = g at1 ∧ w' = w) := by
 have hp := h.pages2
 obtain ⟨r, l, h1, h2, h3, h4, _⟩ := h.there
 refine ok_shadow_Shadow_get _ _ _ _ ?_
 unfold V_shadow_Shadow_get
 rw [div64 h0, mod64 h0, wr (by omega) (by omega)]
 have hl := h2.lookup (P := Tryz.prog) u173 keyInt zero174 (at1 / 64) true
 simp only [if_true] at hl
 refine ⟨_, rfl, some r, by rw [add_at, cell_of h1]; rfl, ?_⟩
 cases hk : lookK (at1 / 64) l with
 | none =>
  rw [hk] at hl
  refine ⟨none, false, hl, fun _ => ⟨?_, rfl⟩, fun h => by simp at h⟩
  rw [← pg_at g]; exact (h4 _ hk _ (by omega)).symm
 | some q =>
  rw [hk] at hl
  obtain ⟨c, hc, hsz, _, hcells⟩ := (h3 _ (lookK_mem hk)).2.2.1
  refine ⟨some ⟨q, 0, none⟩, true, hl, fun h => by simp at h, fun _ => ⟨_, rfl, by omega, by omega, g at1, ?_, rfl, rfl⟩⟩
  rw [add_at, add_at, cell_of hc, Nat.mul_one]
  have := hcells (at1 % 64).toNat (by omega)
  simp only [pg_at] at this
  simpa using this
def putG (g : Int → Int) (at1 set : Int) : Int → Int := fun i => if i = at1 then set else g i
theorem pg_put_same (g : Int → Int) (at1 set : Int) (i : Nat) (hi : i < 64) : pg (putG g at1 set) (at1 / 64) i = if i = (at1 % 64).toNat then set else pg g (at1 / 64) i := by
 unfold pg putG
 by_cases h : i = (at1 % 64).toNat
 ·rw [if_pos h, if_pos (by omega)]
 ·rw [if_neg h, if_neg (by omega)]
theorem pg_put_other (g : Int → Int) (at1 set : Int) {n : Int} (hn : n ≠ at1 / 64) (i : Nat) (hi : i < 64) : pg (putG g at1 set) n i = pg g n i := by
 unfold pg putG
 rw [if_neg (by omega)]
theorem many_congr {s t : Nat → Int} (h : ∀ i, i < 64 → s i = t i) : many s = many t := List.countP_congr (fun i hi => by simp [h i (List.mem_range.1 hi)])
theorem PageC.congr {w : World} {q : Nat} {n : Int} {s t : Nat → Int} (h : PageC w q n s) (he : ∀ i, i < 64 → s i = t i) : PageC w q n t := by
 obtain ⟨c, h1, h2, h3, h4⟩ := h; exact ⟨c, h1, h2, h3, fun i hi => by rw [h4 i hi, he i hi]⟩
structure Mid (w : World) (b r q : Nat) (pages : Int) (g : Int → Int) (n : Int) (l : List (Int × Nat)) : Prop where
 hb : w.heap[b]? = some (.cells #[.int .i64 pages, .map (some r)] 158 (0, 0))
 hm : MapIs w r (fun n : Int => .int .i64 n) encPg l
 hq : lookK n l = some q
 hn : 0 ≤ n ∧ n < pages
 others : ∀ x ∈ l, x.1 ≠ n → 0 ≤ x.1 ∧ x.1 < pages ∧ PageC w x.2 (many (pg g x.1)) (pg g x.1) ∧ 0 < many (pg g x.1)
 nones : ∀ m, lookK m l = none → ∀ i, i < 64 → pg g m i = 0
 page : PageC w q (many (pg g n)) (pg g n)
 nodup : (b :: r :: l.map Prod.snd).Nodup
theorem shadow_put_mid {w : World} {b r q : Nat} {pages : Int} {g : Int → Int} {l : List (Int × Nat)} {at1 set : Int} (h0 : 0 ≤ at1) (hp : pages ≤ 32) (hm : Mid w b r q pages g (at1 / 64) l)
  (hs0 : 0 ≤ set) {R : World → Prop}
  (hR : ∀ w' l', w'.heap[b]? = some (.cells #[.int .i64 pages, .map (some r)] 158 (0, 0)) → MapIs w' r (fun n : Int => .int .i64 n) encPg l' →
   (∀ x ∈ l', 0 ≤ x.1 ∧ x.1 < pages ∧ PageC w' x.2 (many (pg (putG g at1 set) x.1)) (pg (putG g at1 set) x.1) ∧ 0 < many (pg (putG g at1 set) x.1)) →
   (∀ n, lookK n l' = none → ∀ i, i < 64 → pg (putG g at1 set) n i = 0) → (l'.map Prod.snd).Sublist (l.map Prod.snd) → Chg [r, q] w w' → R w') :
  ∃ J2 : Unit → World → Prop, (∀ (s3 : Unit) (w2 : World), J2 s3 w2 → ∃ J3 : Unit → World → Prop, (∀ (s4 : Unit) (w3 : World), J3 s4 w3 → ∃ a2 : Addr, some (⟨q, 0, none⟩ : Addr) = some a2 ∧ (0 ≤ at1 % 64 ∧ at1 % 64 < 64 ∧ ((∃ o : Value, w3.cell? ((a2.add 1).add ((at1 % 64).toNat * 1)) = some o) ∧ w3.frozen? ((a2.add 1).add ((at1 % 64).toNat * 1)) = false ∧ ∀ w4 : World, w4 = World.setCell w3 ((a2.add 1).add ((at1 % 64).toNat * 1)) (.int .u32 set) → (∃ a3 : Addr, some (⟨q, 0, none⟩ : Addr) = some a3 ∧ (∃ (t2 : Int), w4.cell? a3 = some (.int .i64 t2) ∧ (((t2 == 0) = true → ∃ a4 : Addr, some (⟨b, 0, none⟩ : Addr) = some a4 ∧ (∃ (t3 : Option Nat), w4.cell? (a4.add 1) = some (.map t3) ∧ (∃ w5 : World, (Builtin.delete_ #[156, 3] 0 #[.map t3, .int .i64 (at1 / 64)]).run Tryz.prog w4 = .ok (.tuple #[]) w5 ∧ (R w5)))) ∧ ((t2 == 0) = false → R w4))))))) ∧ (((!(set == 0)) = true → ∃ a5 : Addr, some (⟨q, 0, none⟩ : Addr) = some a5 ∧ (∃ (t4 : Int), w2.cell? a5 = some (.int .i64 t4) ∧ (∃ a6 : Addr, some (⟨q, 0, none⟩ : Addr) = some a6 ∧ ((∃ o : Value, w2.cell? a6 = some o) ∧ w2.frozen? a6 = false ∧ ∀ w6 : World, w6 = World.setCell w2 a6 (.int .i64 (IntKind.wrap .i64 (t4 + 1))) → (J3 () w6))))) ∧ ((!(set == 0)) = false → J3 () w2))) ∧ (∃ a7 : Addr, some (⟨q, 0, none⟩ : Addr) = some a7 ∧ (0 ≤ at1 % 64 ∧ at1 % 64 < 64 ∧ (∃ (t5 : Int), w.cell? ((a7.add 1).add ((at1 % 64).toNat * 1)) = some (.int .u32 t5) ∧ (((!(t5 == 0)) = true → ∃ a8 : Addr, some (⟨q, 0, none⟩ : Addr) = some a8 ∧ (∃ (t6 : Int), w.cell? a8 = some (.int .i64 t6) ∧ (∃ a9 : Addr, some (⟨q, 0, none⟩ : Addr) = some a9 ∧ ((∃ o : Value, w.cell? a9 = some o) ∧ w.frozen? a9 = false ∧ ∀ w7 : World, w7 = World.setCell w a9 (.int .i64 (IntKind.wrap .i64 (t6 - 1))) → (J2 () w7))))) ∧ ((!(t5 == 0)) = false → J2 () w))))) := by
 obtain ⟨hb, hmap, hq, hn, others, nones, page, nodup⟩ := hm
 have hi : (at1 % 64).toNat < 64 := by omega
 have hmany64 : many (pg g (at1 / 64)) ≤ 64 := by
  have := List.countP_le_length (p := fun i => pg g (at1 / 64) i != 0) (l := List.range 64)
  simpa [many] using this
 have hset := many_set (pg g (at1 / 64)) (fun i => if i = (at1 % 64).toNat then set else pg g (at1 / 64) i) hi (fun j hj => by simp [hj])
 simp only [if_true, pg_at] at hset
 have hcong : many (pg (putG g at1 set) (at1 / 64)) = many (fun i => if i = (at1 % 64).toNat then set else pg g (at1 / 64) i) := many_congr fun i hi => pg_put_same g at1 set i hi
 -- the count behind the two steps
 have hcell : ∀ {w2 : World} {k : Int}, PageC w2 q k (pg g (at1 / 64)) → ∀ (v : Int) {K : World → Prop}, (∀ w', PageC w' q v (pg g (at1 / 64)) → Chg [q] w2 w' → K w') →
   (∃ u : Value, w2.cell? (⟨q, 0, none⟩ : Addr) = some u) ∧ w2.frozen? (⟨q, 0, none⟩ : Addr) = false ∧ ∀ w7, w7 = World.setCell w2 (⟨q, 0, none⟩ : Addr) (.int .i64 v) → K w7 := by
  intro w2 k hpc v K hK
  obtain ⟨c, hc, hsz, hc0, hcs⟩ := hpc
  refine v_set0 hc (by omega) fun w' h' c' _ => hK w' ⟨_, h', by simpa using hsz, by simp [hsz], fun i hi => ?_⟩ c'
  rw [Array.getElem?_setIfInBounds_ne (by omega)]; exact hcs i hi
 have hread : ∀ {w2 : World} {k : Int}, PageC w2 q k (pg g (at1 / 64)) → w2.cell? (⟨q, 0, none⟩ : Addr) = some (.int .i64 k) := by
  intro w2 k hpc
  obtain ⟨c, hc, hsz, hc0, hcs⟩ := hpc
  rw [cell_of hc]; exact hc0
 refine ⟨fun _ w2 => Chg [q] w w2 ∧ PageC w2 q ((many (pg g (at1 / 64)) : Int) - if g at1 = 0 then 0 else 1) (pg g (at1 / 64)), ?_, ?_⟩
 rotate_left
 ·refine ⟨_, rfl, by omega, by omega, g at1, ?_, fun hne => ?_, fun he => ?_⟩
  ·obtain ⟨c, hc, hsz, hc0, hcs⟩ := page
   rw [add_at, add_at, cell_of hc, Nat.mul_one]
   have := hcs (at1 % 64).toNat hi
   simp only [pg_at] at this
   simpa using this
  ·have hne' : g at1 ≠ 0 := by simpa using hne
   refine ⟨_, rfl, _, hread page, _, rfl, ?_⟩
   rw [wr (by omega) (by omega)]
   exact hcell page _ fun w' hp' hc' => ⟨hc', by rw [if_neg hne']; exact hp'⟩
  ·have he' : g at1 = 0 := by simpa using he
   exact ⟨Chg.refl _ _, by rw [if_pos he']; simpa using page⟩
 rintro _ w2 ⟨c2, p2⟩
 have hposs : g at1 ≠ 0 → 0 < many (pg g (at1 / 64)) := fun h => many_pos hi (by rw [pg_at]; exact h)
 refine ⟨fun _ w3 => Chg [q] w w3 ∧ PageC w3 q (many (pg (putG g at1 set) (at1 / 64))) (pg g (at1 / 64)), ?_, ?_⟩
 rotate_left
 ·refine ⟨fun hne => ?_, fun he => ?_⟩
  ·have hne' : set ≠ 0 := by simpa using hne
   refine ⟨_, rfl, _, hread p2, _, rfl, ?_⟩
   rw [wr (by split <;> omega) (by split <;> omega)]
   refine hcell p2 _ fun w' hp' hc' => ⟨c2.trans hc' (fun i hi _ => hi), ?_⟩
   rw [hcong]
   have : (many (pg g (at1 / 64)) : Int) - (if g at1 = 0 then 0 else 1) + 1 = (many (fun i => if i = (at1 % 64).toNat then set else pg g (at1 / 64) i) : Nat) := by
    rw [if_neg hne'] at hset
    split <;> rename_i hg
    ·rw [if_pos hg] at hset; omega
    ·rw [if_neg hg] at hset; omega
   rw [← this]; exact hp'
  ·have he' : set = 0 := by simpa using he
   refine ⟨c2, ?_⟩
   rw [hcong]
   have : (many (pg g (at1 / 64)) : Int) - (if g at1 = 0 then 0 else 1) = (many (fun i => if i = (at1 % 64).toNat then set else pg g (at1 / 64) i) : Nat) := by
    rw [if_pos he'] at hset
    split <;> rename_i hg
    ·rw [if_pos hg] at hset; omega
    ·rw [if_neg hg] at hset; omega
   rw [← this]; exact p2
 rintro _ w3 ⟨c3, p3⟩
 refine ⟨_, rfl, by omega, by omega, ?_⟩
 obtain ⟨c, hc, hsz, hc0, hcs⟩ := p3
 rw [Nat.mul_one, add_at]
 refine v_set hc (by omega) fun w4 h4 c4 _ => ?_
 have p4 : PageC w4 q (many (pg (putG g at1 set) (at1 / 64))) (pg (putG g at1 set) (at1 / 64)) := by
  refine ⟨_, h4, by simpa using hsz, ?_, fun i hi' => ?_⟩
  ·rw [Array.getElem?_setIfInBounds_ne (by omega)]; exact hc0
  ·rw [pg_put_same g at1 set i hi']
   by_cases he : i = (at1 % 64).toNat
   ·subst he
    rw [Array.getElem?_setIfInBounds_self_of_lt (by omega), if_pos rfl]
   ·rw [Array.getElem?_setIfInBounds_ne (by omega), if_neg he]; exact hcs i hi'
 have c04 : Chg [q] w w4 := c3.trans c4 (fun i hi _ => hi)
 have hqmem : (at1 / 64, q) ∈ l := lookK_mem hq
 have hqin : q ∈ l.map Prod.snd := List.mem_map.2 ⟨_, hqmem, rfl⟩
 simp only [List.nodup_cons, List.mem_cons, not_or] at nodup
 obtain ⟨⟨n1, n2⟩, n3, n4⟩ := nodup
 have hqb : b ≠ q := fun e => n2 (e ▸ hqin)
 have hqr : r ≠ q := fun e => n3 (e ▸ hqin)
 have hb4 := c04.obj (by simpa using hqb) hb
 have hmap4 := hmap.chg c04 (by simpa using hqr)
 have hkeys : (l.map Prod.fst).Nodup := by obtain ⟨_, _, _, _, h, _⟩ := hmap; exact h
 have hdist : ∀ x ∈ l, x.1 ≠ at1 / 64 → x.2 ≠ q := by
  intro x hx hne he
  obtain ⟨i, hi'⟩ := List.getElem?_of_mem hx
  obtain ⟨j, hj'⟩ := List.getElem?_of_mem hqmem
  have e1 : (l.map Prod.snd)[i]? = (l.map Prod.snd)[j]? := by simp [hi', hj', he]
  have hlt : i < (l.map Prod.snd).length := by have := (List.getElem?_eq_some_iff.1 hi').1; simpa using this
  have := (List.getElem?_inj hlt n4).1 e1
  subst this
  rw [hi'] at hj'
  exact hne (by cases hj'; rfl)
 have oth4 : ∀ x ∈ l, x.1 ≠ at1 / 64 → 0 ≤ x.1 ∧ x.1 < pages ∧ PageC w4 x.2 (many (pg (putG g at1 set) x.1)) (pg (putG g at1 set) x.1) ∧ 0 < many (pg (putG g at1 set) x.1) := by
  intro x hx hne
  obtain ⟨a1, a2, a3, a4⟩ := others x hx hne
  have e : many (pg (putG g at1 set) x.1) = many (pg g x.1) := many_congr fun i hi => pg_put_other g at1 set hne i hi
  rw [e]
  exact ⟨a1, a2, (a3.chg c04 (by simpa using hdist x hx hne)).congr (fun i hi => (pg_put_other g at1 set hne i hi).symm), a4⟩
 have p4r : w4.cell? (⟨q, 0, none⟩ : Addr) = some (.int .i64 (many (pg (putG g at1 set) (at1 / 64)))) := by
  obtain ⟨c, hc, _, hc0, _⟩ := p4
  rw [cell_of hc]; exact hc0
 refine ⟨_, rfl, _, p4r, fun hz => ?_, fun hz => ?_⟩
 ·have hz' : many (pg (putG g at1 set) (at1 / 64)) = 0 := by simpa using hz
  obtain ⟨w5, hd, c5, hsz5, hm5⟩ := hmap4.delete (P := Tryz.prog) (T := 156) u173 keyInt (at1 / 64) (ty := 0)
  refine ⟨_, rfl, some r, by rw [add_at, cell_of hb4]; rfl, w5, hd, ?_⟩
  refine hR w5 _ (c5.obj (by simpa using n1) hb4) hm5 ?_ ?_ ?_ ?_
  ·intro x hx
   have hx' := List.mem_filter.1 hx
   have hne : x.1 ≠ at1 / 64 := by simpa using hx'.2
   obtain ⟨a1, a2, a3, a4⟩ := oth4 x hx'.1 hne
   refine ⟨a1, a2, a3.chg c5 ?_, a4⟩
   have : x.2 ∈ l.map Prod.snd := List.mem_map.2 ⟨x, hx'.1, rfl⟩
   simp; exact fun e => n3 (e ▸ this)
  ·intro n hnn i hi'
   rw [lookK_del] at hnn
   by_cases he : n = at1 / 64
   ·subst he; exact many_zero hz' hi'
   ·rw [if_neg he] at hnn
    rw [pg_put_other g at1 set he i hi']; exact nones n hnn i hi'
  ·exact List.filter_sublist.map _
  ·exact (c04.mono (by simp)).trans c5 (by simp)
 ·have hz' : many (pg (putG g at1 set) (at1 / 64)) ≠ 0 := by simpa using hz
  refine hR w4 l hb4 hmap4 ?_ ?_ (List.Sublist.refl _) (c04.mono (by simp))
  ·intro x hx
   by_cases hne : x.1 = at1 / 64
   ·have : x = (at1 / 64, q) := by
     have h1 : lookK x.1 l = some x.2 := (lookK_iff hkeys).2 hx
     rw [hne, hq] at h1
     exact Prod.ext hne (by simpa using h1.symm)
    subst this
    exact ⟨hn.1, hn.2, p4, by simp only []; omega⟩
   ·exact oth4 x hx hne
  ·intro n hnn i hi'
   have he : n ≠ at1 / 64 := fun e => by rw [e, hq] at hnn; cases hnn
   rw [pg_put_other g at1 set he i hi']; exact nones n hnn i hi'
theorem shadow_put {w : World} {b : Nat} {pages : Int} {g : Int → Int} {fp : List Nat} (h : ShadowAt w b pages g fp) {at1 set : Int} (h0 : 0 ≤ at1) (hs : at1 < 64 * pages) (hs0 : 0 ≤ set) (hs1 : set < 65536) :
    Calls Tryz.prog 123 #[.pointer (some ⟨b, 0, none⟩), .int .i64 at1, .int .u32 set] w fun e w' => e = .returned (.tuple #[]) ∧
      (∃ fp', ShadowAt w' b pages (putG g at1 set) fp' ∧ Chg fp w w' ∧ ∀ i ∈ fp', i ∈ fp ∨ w.heap.size ≤ i) := by
  have hp := h.pages2
  have hall := h
  obtain ⟨r, l, h1, h2, h3, h4, rfl⟩ := h.there
  have hnd := h.nodup
  refine ok_shadow_Shadow_put _ _ _ _ _ ?_
  unfold V_shadow_Shadow_put
  rw [div64 h0, mod64 h0, wr (by omega) (by omega)]
  have hl := h2.lookup (P := Tryz.prog) u173 keyInt zero174 (at1 / 64) true
  simp only [if_true] at hl
  have heach : ∀ i, 0 ≤ putG g at1 set i ∧ putG g at1 set i < 65536 := by
    intro i; unfold putG; split
    · exact ⟨hs0, hs1⟩
    · exact h.each i
  refine ⟨_, rfl, some r, by rw [add_at, cell_of h1]; rfl, ?_⟩
  cases hk : lookK (at1 / 64) l with
  | some q =>
    rw [hk] at hl
    refine ⟨some ⟨q, 0, none⟩, true, hl, fun s2 w1 => s2 = some ⟨q, 0, none⟩ ∧ w1 = w, ?_, fun h => by simp at h, fun _ => ⟨rfl, rfl⟩⟩
    rintro _ _ ⟨rfl, rfl⟩
    have hq := h3 _ (lookK_mem hk)
    refine shadow_put_mid h0 hp ⟨h1, h2, hk, ⟨by omega, by omega⟩, fun x hx _ => h3 x hx, h4, hq.2.2.1, hnd⟩ hs0 fun w' l' e1 e2 e3 e4 e5 e6 => ?_
    have hqin : q ∈ l.map Prod.snd := List.mem_map.2 ⟨_, lookK_mem hk, rfl⟩
    exact ⟨_, ⟨⟨r, l', e1, e2, e3, e4, rfl⟩, hnd.sublist ((e5.cons_cons _).cons_cons _), h.pages1, hp, heach⟩,
      e6.mono (fun i hi _ => by simp at hi ⊢; rcases hi with rfl | rfl
                                · simp
                                · right; right; simpa using hqin), fun i hi => by
        simp only [List.mem_cons] at hi ⊢
        rcases hi with rfl | rfl | hi
        · simp
        · simp
        · exact .inl (.inr (.inr (e5.subset hi)))⟩
  | none =>
    rw [hk] at hl
    have hg0 : g at1 = 0 := by rw [← pg_at g]; exact h4 _ hk _ (by omega)
    refine ⟨none, false, hl, fun s2 w1 => ∃ q l1, s2 = some ⟨q, 0, none⟩ ∧ Mid w1 b r q pages g (at1 / 64) l1 ∧ Chg [r] w w1 ∧ w.heap.size ≤ q ∧ l1 = l ++ [(at1 / 64, q)], ?_, fun _ => ⟨fun hz => ?_, fun hz => ?_⟩, fun h => by simp at h⟩
    · rintro _ w1 ⟨q, l1, rfl, hmid, c1, hq, rfl⟩
      refine shadow_put_mid h0 hp hmid hs0 fun w' l' e1 e2 e3 e4 e5 e6 => ?_
      have hnd' := hmid.nodup
      refine ⟨_, ⟨⟨r, l', e1, e2, e3, e4, rfl⟩, hnd'.sublist ((e5.cons_cons _).cons_cons _), h.pages1, hp, heach⟩, ?_, fun i hi => ?_⟩
      · exact (c1.mono (by simp)).trans e6 (fun i hi hlt => by
          simp at hi
          rcases hi with rfl | rfl
          · simp
          · omega)
      · simp only [List.mem_cons] at hi ⊢
        rcases hi with rfl | rfl | hi
        · simp
        · simp
        · have := e5.subset hi
          simp only [List.map_append, List.mem_append, List.map_cons, List.map_nil, List.mem_singleton] at this
          rcases this with h | rfl
          · exact .inl (.inr (.inr h))
          · exact .inr hq
    · have hz' : set = 0 := by simpa using hz
      refine ⟨_, ?_, Chg.refl _ _, fun i hi => .inl hi⟩
      have : putG g at1 set = g := by
        funext i; unfold putG; split
        · rename_i e; rw [e, hz', hg0]
        · rfl
      rw [this]; exact hall
    · have hz' : set ≠ 0 := by simpa using hz
      refine v_alloc fun b1 w8 e8 h8 c8 => ?_
      have h18 := c8.obj (by simp) h1
      obtain ⟨w9, hu, c9, hsz9, hm9⟩ := (h2.chg c8 (by simp)).update (P := Tryz.prog) (T := 156) u173 keyInt (at1 / 64) b1
      refine ⟨_, rfl, some r, by rw [add_at, cell_of h18]; rfl, w9, hu, b1, _, rfl, ?_, ?_, by omega, rfl⟩
      rotate_left
      · exact (c8.nil).trans c9 (fun i hi _ => hi)
      have hup : upd (at1 / 64) b1 l = l ++ [(at1 / 64, b1)] := by simp [upd, hk]
      rw [hup] at hm9
      simp only [List.nodup_cons, List.mem_cons, not_or] at hnd
      obtain ⟨⟨n1, n2⟩, n3, n4⟩ := hnd
      have hlt := hall.lt
      simp only [List.mem_cons, forall_eq_or_imp] at hlt
      obtain ⟨l1, l2, l3⟩ := hlt
      have c09 : Chg [r] w w9 := (c8.nil).trans c9 (fun i hi _ => hi)
      refine ⟨c9.obj (by simpa using n1) h18, hm9, ?_, ⟨by omega, by omega⟩, ?_, ?_, ?_, ?_⟩
      · rw [lookK_append, hk]; simp [lookK_cons]
      · intro x hx hne
        simp only [List.mem_append, List.mem_singleton] at hx
        rcases hx with hx | rfl
        · obtain ⟨a1, a2, a3, a4⟩ := h3 x hx
          have : x.2 ∈ l.map Prod.snd := List.mem_map.2 ⟨x, hx, rfl⟩
          exact ⟨a1, a2, a3.chg c09 (by simp; exact fun e => n3 (e ▸ this)), a4⟩
        · exact absurd rfl hne
      · intro m hmn i hi
        rw [lookK_append] at hmn
        exact h4 m (by simpa using (Option.or_eq_none_iff.1 hmn).1) i hi
      · have e0 : many (pg g (at1 / 64)) = 0 := many_none fun i hi => h4 _ hk i hi
        rw [e0]
        refine (PageC.chg (f := [r]) (w := w8) ?_ c9 (by simp; omega))
        refine ⟨_, h8, by simp [z167], by simp [z167], fun i hi => ?_⟩
        rw [h4 _ hk i hi]
        show (Value.int .i64 0 :: List.replicate 64 (Value.int .u32 0)).toArray[1 + i]? = _
        rw [List.getElem?_toArray, Nat.add_comm 1 i, List.getElem?_cons_succ, List.getElem?_replicate, if_pos hi]
      · simp only [List.map_append, List.map_cons, List.map_nil, List.nodup_cons, List.mem_cons, List.mem_append, List.mem_singleton, not_or]
        refine ⟨⟨n1, n2, ?_, by simp⟩, ⟨n3, ?_, by simp⟩, ?_⟩
        · omega
        · omega
        · rw [List.nodup_append]
          exact ⟨n4, by simp, fun a ha c hc e => by simp at hc; subst hc; subst e; exact absurd (l3 _ ha) (by omega)⟩
end Go.Proofs.YtfcfkhbkkfpehaaGreat
end
section
/- Shadows: New, through, Union, Fill, Get, Set. -/
namespace Go.Proofs.YtfcfkhbkkfpehaaGreat
open Go Go.RowKit Go.X
theorem shadow_new (w : World) (pages : Int) :
  Calls Tryz.prog 58 #[.int .i64 pages] w fun e w' => ∃ (r1 : Option Addr) (r2 : Int), e = .returned (.tuple #[.pointer r1, .int .i64 r2]) ∧
   (Chg [] w w' ∧ if 1 ≤ pages ∧ pages ≤ 32 then r2 = 0 ∧ ∃ b fp, r1 = some ⟨b, 0, none⟩ ∧ ShadowAt w' b pages (fun _ => 0) fp ∧ ∀ i ∈ fp, w.heap.size ≤ i else r1 = none ∧ r2 = 2) := by
 refine ok_shadow_New _ _ _ ?_
 unfold V_shadow_New
 refine ⟨fun h => ?_, fun h => ?_⟩
 ·simp at h
  exact ⟨Chg.refl _ _, by rw [if_neg (by omega)]; simp⟩
 simp at h
 refine v_alloc fun b1 w1 e1 h1 c1 => ?_
 refine v_alloc fun b2 w2 e2 h2 c2 => ?_
 refine ⟨c1.trans0 c2, ?_⟩
 rw [if_pos (by omega)]
 have l1 : b1 < w1.heap.size := lt_of_heap h1
 have s1 := c1.size
 have hm : MapIs w1 b1 (fun n : Int => .int .i64 n) encPg [] := ⟨#[], 0, h1, rfl, by simp, by simp, by simp⟩
 exact ⟨rfl, b2, [b2, b1], rfl, ⟨⟨b1, [], h2, hm.chg c2 (by simp), by simp, fun n _ i _ => rfl, rfl⟩, by simp; omega, by omega, by omega, by simp⟩, by simp; omega⟩
def inShadow (pages at1 n : Int) : Prop := 0 ≤ at1 ∧ 0 ≤ n ∧ at1 ≤ 64 * pages ∧ n ≤ 64 * pages - at1
instance (pages at1 n : Int) : Decidable (inShadow pages at1 n) := by unfold inShadow; exact inferInstance
theorem shadow_through {w : World} {b : Nat} {pages : Int} {g : Int → Int} {fp : List Nat} (h : ShadowAt w b pages g fp) {at1 n : Int} (ha : -9223372036854775808 ≤ at1 ∧ at1 ≤ 9223372036854775807) {on : Value} (Inv : Nat → World → Prop) (hI : Inv 0 w)
  (hstep : ∀ (i : Nat) w1, inShadow pages at1 n → (i : Int) < n → Inv i w1 → CallsV Tryz.prog on #[.int .i64 (at1 + i)] w1 fun e w' => e = .returned (.tuple #[]) ∧ Inv (i + 1) w') :
  Calls Tryz.prog 121 #[.pointer (some ⟨b, 0, none⟩), .int .i64 at1, .int .i64 n, on] w fun e w' => ∃ r : Int, e = .returned (.int .i64 r) ∧
   (if inShadow pages at1 n then r = 0 ∧ Inv n.toNat w' else r = 4 ∧ w' = w) := by
 have hp1 := h.pages1
 have hp2 := h.pages2
 refine ok_shadow_Shadow_through _ _ _ _ _ _ ?_
 unfold V_shadow_Shadow_through
 refine (shadow_none h).mono ?_
 rintro _ w1 ⟨_, rfl, rfl, hw⟩
 subst w1
 refine ⟨_, rfl, fun h => by simp at h, fun _ => ?_⟩
 refine ⟨fun b1 w2 => w2 = w ∧ (b1 = false → 0 ≤ at1 ∧ 0 ≤ n ∧ at1 ≤ 64 * pages) ∧ (b1 = true → ¬ inShadow pages at1 n), ?_, fun hf => ?_, fun ht => ?_⟩
 rotate_left
 ·simp only [Bool.or_eq_false_iff, decide_eq_false_iff_not] at hf
  refine (shadow_size h).mono ?_
  rintro _ w3 ⟨_, rfl, rfl, hw⟩
  subst w3
  refine ⟨_, rfl, rfl, fun hb => ?_, fun hb => ?_⟩
  ·simp only [decide_eq_false_iff_not] at hb; omega
  ·simp only [decide_eq_true_eq] at hb; unfold inShadow; omega
 ·simp only [Bool.or_eq_true, decide_eq_true_eq] at ht
  exact ⟨rfl, fun h => by simp at h, fun _ => by unfold inShadow; omega⟩
 rintro b1 w2 ⟨hw, hb1, hb2⟩
 subst w2
 refine ⟨fun b2 w4 => w4 = w ∧ (b2 = false → inShadow pages at1 n) ∧ (b2 = true → ¬ inShadow pages at1 n), ?_, fun hf => ?_, fun ht => ?_⟩
 rotate_left
 ·have := hb1 hf
  refine (shadow_size h).mono ?_
  rintro _ w3 ⟨_, rfl, rfl, hw⟩
  subst w3
  refine ⟨_, rfl, rfl, fun hb => ?_, fun hb => ?_⟩
  ·rw [wr (by omega) (by omega)] at hb
   simp only [decide_eq_false_iff_not] at hb
   unfold inShadow; omega
  ·rw [wr (by omega) (by omega)] at hb
   simp only [decide_eq_true_eq] at hb
   unfold inShadow; omega
 ·exact ⟨rfl, fun h => by simp at h, fun _ => hb2 ht⟩
 rintro b2 w4 ⟨hw, hc1, hc2⟩
 subst w4
 refine ⟨fun ht => ?_, fun hf => ?_⟩
 ·simp only [if_neg (hc2 ht)]; exact ⟨trivial, trivial⟩
 have hin := hc1 hf
 simp only [if_pos hin]
 have hin' := hin
 unfold inShadow at hin'
 refine ⟨fun s w => ∃ i : Nat, s = (i : Int) ∧ (i : Int) ≤ n ∧ Inv i w, fun s _ => (n - s).toNat, ⟨0, rfl, by omega, hI⟩, ?_⟩
 rintro _ w6 ⟨i, rfl, hi, hinv⟩
 refine ⟨fun hlt => ?_, fun hge => ?_⟩
 ·simp only [decide_eq_true_eq] at hlt
  rw [wr (n := at1 + i) (by omega) (by omega)]
  have := hstep i w6 hin hlt hinv
  obtain ⟨f, cap, fn, h1, h2, h3, h4, h5⟩ := this
  refine ⟨f, cap, fn, h1, h2, h3, h4, h5.mono ?_⟩
  rintro e w7 ⟨he, hi7⟩
  rw [wr (by omega) (by omega)]
  exact ⟨he, ⟨i + 1, by omega, by omega, hi7⟩, by simp only []; omega⟩
 ·simp only [decide_eq_false_iff_not] at hge
  have : n.toNat = i := by omega
  rw [this]; exact ⟨trivial, hinv⟩
def unionG (g : Int → Int) (at1 : Int) : Nat → Int
 | 0 => 0
 | n + 1 => bits .or .u32 (unionG g at1 n) (g (at1 + n))
theorem shadow_union {w : World} {b : Nat} {pages : Int} {g : Int → Int} {fp : List Nat} (h : ShadowAt w b pages g fp) {at1 n : Int} (ha : -9223372036854775808 ≤ at1 ∧ at1 ≤ 9223372036854775807) :
  Calls Tryz.prog 117 #[.pointer (some ⟨b, 0, none⟩), .int .i64 at1, .int .i64 n] w fun e w' => ∃ (r1 : Int) (r2 : Int), e = .returned (.tuple #[.int .u32 r1, .int .i64 r2]) ∧
   (Chg [] w w' ∧ if inShadow pages at1 n then r1 = unionG g at1 n.toNat ∧ r2 = 0 else r1 = 0 ∧ r2 = 4) := by
 refine ok_shadow_Shadow_Union _ _ _ _ _ ?_
 unfold V_shadow_Shadow_Union
 refine v_alloc fun b1 w1 e1 h1 c1 => ?_
 refine v_alloc fun b2 w2 e2 h2 c2 => ?_
 refine v_set0 h2 (by simp) fun w3 h3 c3 hs3 => ?_
 have l1 : b1 < w1.heap.size := lt_of_heap h1
 have l2 : b2 < w2.heap.size := lt_of_heap h2
 have s1 := c1.size
 have s2 := c2.size
 have h13 := c3.obj (by simp; omega) (c2.obj (by simp) h1)
 have c03 : Chg [] w w3 := (c1.trans0 c2).trans c3 (fun i hi hlt => by simp at hi; omega)
 refine ⟨_, by rw [cell_of h13]; rfl, ?_⟩
 have hS3 := h.chg c03 (by simp)
 refine (shadow_through (n := n) hS3 ha (fun i w' => Chg [b2] w3 w' ∧ w'.heap[b2]? = some (.cells #[.int .u32 (unionG g at1 i)] 22 (0, 0))) ⟨Chg.refl _ _, by simpa [unionG] using h3⟩ ?_).mono ?_
 ·rintro i w4 hin hi ⟨c4, h4⟩
  unfold inShadow at hin
  have hfp2 : ∀ j ∈ fp, j ∉ [b2] := fun j hj hm => by simp at hm; have := h.lt j hj; omega
  refine ⟨134, _, Tryz.f134, rfl, Tryz.func134, by kernel_rfl, by kernel_rfl, ?_⟩
  refine ok_shadow_Shadow_Union_1 _ _ _ _ _ ?_
  unfold V_shadow_Shadow_Union_1
  refine v_drew fun w5 c5 => ?_
  have c35 : Chg [b2] w3 w5 := c4.trans c5.nil (fun _ h _ => h)
  have h5 := c5.obj (by simp) h4
  have h15 := c35.obj (by simp; omega) h13
  refine ⟨_, by rw [cell_of h5]; rfl, _, by rw [cell_of h15]; rfl, ?_⟩
  refine (shadow_get (hS3.chg c35 hfp2) (by omega) (by omega)).mono ?_
  rintro _ w7 ⟨_, rfl, rfl, hw⟩
  subst w7
  refine ⟨_, rfl, ⟨by rw [cell_of h5]; rfl, by rw [cell_of h15]; rfl, trivial⟩, ?_⟩
  refine v_set0 h5 (by simp) fun w6 h6 c6 _ => ⟨c35.trans c6 (fun _ h _ => h), ?_⟩
  simpa [unionG] using h6
 ·rintro _ w4 ⟨r, rfl, hr⟩
  refine ⟨_, rfl, ?_⟩
  by_cases hin : inShadow pages at1 n
  ·rw [if_pos hin] at hr
   obtain ⟨rfl, c4, h4⟩ := hr
   refine ⟨_, by rw [cell_of h4]; rfl, c03.trans c4 (fun i hi hlt => by simp at hi; omega), ?_⟩
   rw [if_pos hin]; exact ⟨rfl, rfl⟩
  ·rw [if_neg hin] at hr
   obtain ⟨rfl, rfl⟩ := hr
   refine ⟨_, by rw [cell_of h3]; rfl, c03, ?_⟩
   rw [if_neg hin]; exact ⟨rfl, rfl⟩
def fillG (g : Int → Int) (at1 : Int) (set : Int) : Nat → Int → Int
 | 0 => g
 | n + 1 => putG (fillG g at1 set n) (at1 + n) set
theorem shadow_fill {w : World} {b : Nat} {pages : Int} {g : Int → Int} {fp : List Nat} (h : ShadowAt w b pages g fp) {at1 n set : Int} (ha : -9223372036854775808 ≤ at1 ∧ at1 ≤ 9223372036854775807) (hs0 : 0 ≤ set) :
  Calls Tryz.prog 111 #[.pointer (some ⟨b, 0, none⟩), .int .i64 at1, .int .i64 n, .int .u32 set] w fun e w' => ∃ r : Int, e = .returned (.int .i64 r) ∧
   (if 65536 ≤ set then r = 2 ∧ Chg [] w w' else if inShadow pages at1 n then r = 0 ∧ ∃ fp', ShadowAt w' b pages (fillG g at1 set n.toNat) fp' ∧ Chg fp w w' ∧ ∀ i ∈ fp', i ∈ fp ∨ w.heap.size ≤ i else r = 4 ∧ Chg [] w w') := by
 refine ok_shadow_Shadow_Fill _ _ _ _ _ _ ?_
 unfold V_shadow_Shadow_Fill
 refine v_alloc fun b1 w1 e1 h1 c1 => ?_
 refine v_alloc fun b2 w2 e2 h2 c2 => ?_
 have l1 : b1 < w1.heap.size := lt_of_heap h1
 have l2 : b2 < w2.heap.size := lt_of_heap h2
 have s1 := c1.size
 have s2 := c2.size
 have h12 := c2.obj (by simp) h1
 have c02 : Chg [] w w2 := c1.trans0 c2
 have hS2 := h.chg c02 (by simp)
 refine ⟨_, by rw [cell_of h12]; rfl, ?_⟩
 refine (shadow_none hS2).mono ?_
 rintro _ w3 ⟨_, rfl, rfl, hw⟩
 subst w3
 have hdiv : (Int.fdiv set 65536 == 0) = decide (set < 65536) := by
  rw [Int.fdiv_eq_ediv_of_nonneg _ (by omega)]
  by_cases hlt : set < 65536
  ·have : set / 65536 = 0 := by omega
   simp [this, hlt]
  ·have : set / 65536 ≠ 0 := by omega
   simp [this, hlt]
 refine ⟨_, rfl, fun b3 w4 => w4 = w2 ∧ b3 = decide (65536 ≤ set), ?_, fun _ => ⟨_, by rw [cell_of h2]; rfl, rfl, by rw [hdiv]; exact Bool.eq_iff_iff.2 (by simp)⟩, fun h => by simp at h⟩
 rintro b3 w4 ⟨hw, rfl⟩
 subst w4
 refine ⟨fun ht => ?_, fun hf => ?_⟩
 ·simp only [decide_eq_true_eq] at ht
  simp only [if_pos ht]; exact ⟨trivial, c02⟩
 simp only [decide_eq_false_iff_not] at hf
 simp only [if_neg hf]
 refine ⟨_, by rw [cell_of h12]; rfl, ?_⟩
 have hb1 : ∀ {fp' : List Nat}, (∀ i ∈ fp', i ∈ fp ∨ w2.heap.size ≤ i) → b1 ∉ fp' ∧ b2 ∉ fp' := fun hfp => ⟨fun hm => by
   rcases hfp _ hm with h' | h'
   ·have := h.lt _ h'; omega
   ·omega, fun hm => by
   rcases hfp _ hm with h' | h'
   ·have := h.lt _ h'; omega
   ·omega⟩
 refine (shadow_through (n := n) hS2 ha (fun i w' => ∃ fp', ShadowAt w' b pages (fillG g at1 set i) fp' ∧ Chg fp w2 w' ∧ ∀ i ∈ fp', i ∈ fp ∨ w2.heap.size ≤ i) ⟨fp, hS2, Chg.refl _ _, fun i hi => .inl hi⟩ ?_).mono ?_
 ·rintro i w4 hin hi ⟨fp', hS4, c4, hfp'⟩
  unfold inShadow at hin
  refine ⟨122, _, Tryz.f122, rfl, Tryz.func122, by kernel_rfl, by kernel_rfl, ?_⟩
  refine ok_shadow_Shadow_Fill_1 _ _ _ _ _ ?_
  unfold V_shadow_Shadow_Fill_1
  have hnb := hb1 (fp' := fp) (fun i hi => .inl hi)
  refine ⟨_, by rw [cell_of (c4.obj hnb.1 h12)]; rfl, _, by rw [cell_of (c4.obj hnb.2 h2)]; rfl, ?_⟩
  refine (shadow_put hS4 (by omega) (by omega) hs0 (by omega)).mono ?_
  rintro _ w5 ⟨rfl, fp'', hS5, c5, hfp''⟩
  refine ⟨rfl, fp'', hS5, ?_, fun j hj => ?_⟩
  ·exact c4.trans c5 (fun j hj hlt => by
    rcases hfp' j hj with h' | h'
    ·exact h'
    ·omega)
  ·rcases hfp'' j hj with h' | h'
   ·exact hfp' j h'
   ·exact .inr (Nat.le_trans c4.size h')
 ·rintro _ w4 ⟨r, rfl, hr⟩
  refine ⟨_, rfl, ?_⟩
  by_cases hin : inShadow pages at1 n
  ·rw [if_pos hin] at hr
   simp only [if_pos hin]
   obtain ⟨rfl, fp', hS4, c4, hfp'⟩ := hr
   refine ⟨rfl, fp', hS4, c02.nil.trans c4 (fun i hi _ => hi), fun i hi => ?_⟩
   rcases hfp' i hi with h' | h'
   ·exact .inl h'
   ·exact .inr (Nat.le_trans c02.size h')
  ·rw [if_neg hin] at hr
   simp only [if_neg hin]
   obtain ⟨rfl, rfl⟩ := hr
   exact ⟨rfl, c02⟩
theorem or0 (x : Int) (h0 : 0 ≤ x) (h1 : x < 4294967296) : bits .or .u32 0 x = x := by
 rw [u32_or 0 x (by omega) (by omega) h0 h1]
 simp; omega
theorem shadow_getp {w : World} {b : Nat} {pages : Int} {g : Int → Int} {fp : List Nat} (h : ShadowAt w b pages g fp) {at1 : Int} (ha : -9223372036854775808 ≤ at1 ∧ at1 ≤ 9223372036854775807) :
  Calls Tryz.prog 97 #[.pointer (some ⟨b, 0, none⟩), .int .i64 at1] w fun e w' => ∃ (r1 : Int) (r2 : Int), e = .returned (.tuple #[.int .u32 r1, .int .i64 r2]) ∧
   (Chg [] w w' ∧ r1 = g at1 ∧ r2 = if 0 ≤ at1 ∧ at1 < 64 * pages then 0 else 4) := by
 refine ok_shadow_Shadow_Get _ _ _ _ ?_
 unfold V_shadow_Shadow_Get
 refine (shadow_union h ha).mono ?_
 rintro _ w' ⟨r1, r2, rfl, hc, hr⟩
 refine ⟨_, _, rfl, hc, ?_⟩
 by_cases hin : inShadow pages at1 1
 ·rw [if_pos hin] at hr
  have hin' := hin
  unfold inShadow at hin'
  have := h.each at1
  rw [if_pos (by omega)]
  refine ⟨?_, hr.2⟩
  rw [hr.1]
  show bits .or .u32 0 (g (at1 + (0 : Nat))) = g at1
  rw [show at1 + ((0 : Nat) : Int) = at1 by omega]
  exact or0 _ this.1 (by omega)
 ·rw [if_neg hin] at hr
  unfold inShadow at hin
  rw [if_neg (by omega)]
  exact ⟨by rw [hr.1]; exact (h.out (by omega)).symm, hr.2⟩
theorem shadow_setp {w : World} {b : Nat} {pages : Int} {g : Int → Int} {fp : List Nat} (h : ShadowAt w b pages g fp) {at1 set : Int} (ha : -9223372036854775808 ≤ at1 ∧ at1 ≤ 9223372036854775807) (hs0 : 0 ≤ set) :
  Calls Tryz.prog 91 #[.pointer (some ⟨b, 0, none⟩), .int .i64 at1, .int .u32 set] w fun e w' => ∃ r : Int, e = .returned (.int .i64 r) ∧
   (if 65536 ≤ set then r = 2 ∧ Chg [] w w' else if 0 ≤ at1 ∧ at1 < 64 * pages then r = 0 ∧ ∃ fp', ShadowAt w' b pages (putG g at1 set) fp' ∧ Chg fp w w' ∧ ∀ i ∈ fp', i ∈ fp ∨ w.heap.size ≤ i else r = 4 ∧ Chg [] w w') := by
 refine ok_shadow_Shadow_Set _ _ _ _ _ ?_
 unfold V_shadow_Shadow_Set
 refine (shadow_fill h ha hs0).mono ?_
 rintro _ w' ⟨r, rfl, hr⟩
 refine ⟨_, rfl, ?_⟩
 by_cases hs : 65536 ≤ set
 ·rw [if_pos hs] at hr ⊢; exact hr
 rw [if_neg hs] at hr ⊢
 have e : inShadow pages at1 1 ↔ 0 ≤ at1 ∧ at1 < 64 * pages := by unfold inShadow; omega
 by_cases hin : inShadow pages at1 1
 ·rw [if_pos hin] at hr
  rw [if_pos (e.1 hin)]
  have e1 : fillG g at1 set (1 : Int).toNat = putG g at1 set := by
   show putG g (at1 + ((0 : Nat) : Int)) set = _
   rw [show at1 + ((0 : Nat) : Int) = at1 by omega]
  rw [e1] at hr; exact hr
 ·rw [if_neg hin] at hr
  rw [if_neg (fun h => hin (e.2 h))]; exact hr
end Go.Proofs.YtfcfkhbkkfpehaaGreat
end
section
/- Flows: what stands there; bounds, may, get, put. -/
namespace Go.Proofs.YtfcfkhbkkfpehaaGreat
open Go Go.RowKit Go.X
structure Fl where
 fr : Int
 se : Int
 most : Int
 sets : List Int
 g : Int × Int → Int
def boundP (fr se k : Int) : Int := if k = 1 then 8 else if k = 10 then 64 * fr else if k = 11 then 4 else if k = 12 then 64 * se else if k = 17 then 2 else if 13 ≤ k ∧ k ≤ 16 then 2147483648 else 1
def mayP (fr se : Int) (p : Int × Int) : Prop := 1 ≤ p.1 ∧ p.1 ≤ 17 ∧ 0 ≤ p.2 ∧ p.2 < boundP fr se p.1
instance (fr se : Int) (p : Int × Int) : Decidable (mayP fr se p) := by unfold mayP; exact inferInstance
structure FlowAt (w : World) (b : Nat) (F : Fl) (fp : List Nat) : Prop where
 there : ∃ (T m d r : Nat) (l : List ((Int × Int) × Int)) (fpT fpm fpd : List Nat) (gm gd : Int → Int),
  w.heap[b]? = some (.cells #[.int .i64 F.fr, .int .i64 F.se, .pointer (some ⟨T, 0, none⟩), .pointer (some ⟨m, 0, none⟩), .pointer (some ⟨d, 0, none⟩), .map (some r)] 101 (0, 0)) ∧
  TableAt w T F.most F.sets fpT ∧ ShadowAt w m F.fr gm fpm ∧ ShadowAt w d F.se gd fpd ∧ MapIs w r encP (fun n : Int => .int .u32 n) l ∧ (∀ n, F.g (10, n) = gm n) ∧ (∀ n, F.g (12, n) = gd n) ∧
  (∀ p : Int × Int, p.1 ≠ 10 → p.1 ≠ 12 → F.g p = (lookK p l).getD 0) ∧ (∀ x ∈ l, x.1.1 ≠ 10 ∧ x.1.1 ≠ 12 ∧ mayP F.fr F.se x.1 ∧ 0 < x.2 ∧ x.2 < 65536) ∧ fp = b :: r :: (fpT ++ (fpm ++ fpd))
 nodup : fp.Nodup
theorem FlowAt.lt {w : World} {b : Nat} {F : Fl} {fp : List Nat} (h : FlowAt w b F fp) : ∀ i ∈ fp, i < w.heap.size := by
 obtain ⟨T, m, d, r, l, fpT, fpm, fpd, gm, gd, h1, h2, h3, h4, h5, h6, h7, h8, h9, rfl⟩ := h.there
 intro i hi
 simp only [List.mem_cons, List.mem_append] at hi
 rcases hi with rfl | rfl | hi | hi | hi
 ·exact lt_of_heap h1
 ·exact h5.lt
 ·exact h2.lt i hi
 ·exact h3.lt i hi
 ·exact h4.lt i hi
theorem FlowAt.chg {w w' : World} {b : Nat} {F : Fl} {fp f : List Nat} (h : FlowAt w b F fp) (hc : Chg f w w') (hf : ∀ i ∈ fp, i ∉ f) : FlowAt w' b F fp := by
 obtain ⟨T, m, d, r, l, fpT, fpm, fpd, gm, gd, h1, h2, h3, h4, h5, h6, h7, h8, h9, rfl⟩ := h.there
 simp only [List.mem_cons, List.mem_append, forall_eq_or_imp] at hf
 obtain ⟨f1, f2, f3⟩ := hf
 exact { h with there := ⟨T, m, d, r, l, fpT, fpm, fpd, gm, gd, hc.obj f1 h1, h2.chg hc (fun i hi => f3 i (.inl hi)), h3.chg hc (fun i hi => f3 i (.inr (.inl hi))), h4.chg hc (fun i hi => f3 i (.inr (.inr hi))), h5.chg hc f2, h6, h7, h8, h9, rfl⟩ }
theorem FlowAt.head {w : World} {b : Nat} {F : Fl} {fp : List Nat} (h : FlowAt w b F fp) : ∃ T m d r : Nat,
  w.heap[b]? = some (.cells #[.int .i64 F.fr, .int .i64 F.se, .pointer (some ⟨T, 0, none⟩), .pointer (some ⟨m, 0, none⟩), .pointer (some ⟨d, 0, none⟩), .map (some r)] 101 (0, 0)) := by
 obtain ⟨T, m, d, r, l, fpT, fpm, fpd, gm, gd, h1, _⟩ := h.there
 exact ⟨T, m, d, r, h1⟩
theorem FlowAt.wide {w : World} {b : Nat} {F : Fl} {fp : List Nat} (h : FlowAt w b F fp) : 1 ≤ F.fr ∧ F.fr ≤ 32 ∧ 1 ≤ F.se ∧ F.se ≤ 32 := by
 obtain ⟨T, m, d, r, l, fpT, fpm, fpd, gm, gd, h1, h2, h3, h4, _⟩ := h.there
 exact ⟨h3.pages1, h3.pages2, h4.pages1, h4.pages2⟩
theorem FlowAt.each {w : World} {b : Nat} {F : Fl} {fp : List Nat} (h : FlowAt w b F fp) (p : Int × Int) : 0 ≤ F.g p ∧ F.g p < 65536 := by
 obtain ⟨T, m, d, r, l, fpT, fpm, fpd, gm, gd, h1, h2, h3, h4, h5, h6, h7, h8, h9, _⟩ := h.there
 obtain ⟨k, n⟩ := p
 by_cases e1 : k = 10
 ·subst e1; rw [h6]; exact h3.each n
 by_cases e2 : k = 12
 ·subst e2; rw [h7]; exact h4.each n
 rw [h8 _ e1 e2]
 cases hk : lookK (k, n) l with
 | none => simp
 | some v => have := h9 _ (lookK_mem hk); simp only [Option.getD_some]; simp only [] at this; omega
theorem flow_none {w : World} {b : Nat} {F : Fl} {fp : List Nat} (h : FlowAt w b F fp) :
  Calls Tryz.prog 43 #[.pointer (some ⟨b, 0, none⟩)] w fun e w' => ∃ r : Bool, e = .returned (.bool r) ∧ (r = false ∧ w' = w) := by
 obtain ⟨T, m, d, r, h1⟩ := h.head
 refine ok_flow_Flow_none _ _ _ ?_
 unfold V_flow_Flow_none
 exact ⟨_, fun s w h => h, fun _ => ⟨_, rfl, _, by rw [add_at, cell_of h1]; rfl, rfl, rfl⟩, fun h => by simp at h⟩
def F127 : Value := .func (.func 104) #[] #[]
def baseB (b1 : Nat) : List Value := [.nilFunc, .func (.func 106) #[] #[], .nilFunc, .nilFunc, .nilFunc, .nilFunc, .nilFunc, .nilFunc, .nilFunc, .nilFunc, .func (.func 109) #[] #[.pointer (some (⟨b1, 0, none⟩ : Addr))], .func (.func 107) #[] #[], .func (.func 110) #[] #[.pointer (some (⟨b1, 0, none⟩ : Addr))], .func (.func 105) #[] #[], .func (.func 105) #[] #[], .func (.func 105) #[] #[], .func (.func 105) #[] #[], .func (.func 108) #[] #[]]
def allB (b1 : Nat) : List Value := [.nilFunc, .func (.func 106) #[] #[], F127, F127, F127, F127, F127, F127, F127, F127, .func (.func 109) #[] #[.pointer (some (⟨b1, 0, none⟩ : Addr))], .func (.func 107) #[] #[], .func (.func 110) #[] #[.pointer (some (⟨b1, 0, none⟩ : Addr))], .func (.func 105) #[] #[], .func (.func 105) #[] #[], .func (.func 105) #[] #[], .func (.func 105) #[] #[], .func (.func 108) #[] #[]]
def stepB (b1 : Nat) : Nat → Array Value
 | 0 => (baseB b1).toArray
 | j + 1 => (stepB b1 j).setIfInBounds (2 + j) F127
theorem stepB_size (b1 j : Nat) : (stepB b1 j).size = 18 := by
 induction j with
 | zero => rfl
 | succ j ih => simp [stepB, ih]
theorem stepB_8 (b1 : Nat) : stepB b1 8 = (allB b1).toArray := by simp [stepB, baseB, allB]
theorem flow_bounds (f : Option Addr) (w : World) :
  Calls Tryz.prog 89 #[.pointer f] w fun e w' => ∃ (r2 : Value) (r3 : Value) (r4 : Value) (r5 : Value) (r6 : Value) (r7 : Value) (r8 : Value) (r9 : Value) (r10 : Value) (r11 : Value) (r12 : Value) (r13 : Value) (r14 : Value) (r15 : Value) (r16 : Value) (r17 : Value) (r18 : Value) (r19 : Value),
   e = .returned (.agg #[r2, r3, r4, r5, r6, r7, r8, r9, r10, r11, r12, r13, r14, r15, r16, r17, r18, r19]) ∧ (∃ b1, w'.heap[b1]? = some (.cells #[.pointer f] 35 (0, 0)) ∧ Chg [] w w' ∧ [r2, r3, r4, r5, r6, r7, r8, r9, r10, r11, r12, r13, r14, r15, r16, r17, r18, r19] = allB b1) := by
 refine ok_flow_Flow_bounds _ _ _ ?_
 unfold V_flow_Flow_bounds
 refine v_alloc fun b1 w1 e1 h1 c1 => ?_
 refine v_alloc fun b2 w2 e2 h2 c2 => ?_
 refine v_box (by rfl) (by rfl) fun b3 w3 e3 h3 c3 => ?_
 have l1 : b1 < w1.heap.size := lt_of_heap h1
 have l2 : b2 < w2.heap.size := lt_of_heap h2
 have s1 := c1.size
 have s2 := c2.size
 refine ⟨fun s w => ∃ j : Nat, s = 2 + (j : Int) ∧ j ≤ 8 ∧ w.heap[b3]? = some (.cells (stepB b1 j) 174 (0, 0)) ∧ Chg [b3] w3 w, fun s _ => (10 - s).toNat, ⟨0, rfl, by omega, h3, Chg.refl _ _⟩, ?_⟩
 rintro _ w5 ⟨j, rfl, hj, h5, c5⟩
 refine ⟨fun hlt => ?_, fun hge => ?_⟩
 ·simp only [decide_eq_true_eq] at hlt
  refine ⟨by omega, by omega, ?_⟩
  have e : (2 + (j : Int)).toNat * 1 = 2 + j := by omega
  rw [e]
  refine v_set h5 (by rw [stepB_size]; omega) fun w6 h6 c6 _ => ?_
  rw [wr (by omega) (by omega)]
  refine ⟨⟨j + 1, by omega, by omega, ?_, c5.trans c6 (fun _ h _ => h)⟩, by simp only []; omega⟩
  simpa [stepB, F127] using h6
 ·simp only [decide_eq_false_iff_not] at hge
  have : j = 8 := by omega
  subst this
  rw [stepB_8] at h5
  refine ⟨_, _, _, _, _, _, _, _, _, _, _, _, _, _, _, _, _, _, cellsAt_of h5, rfl, rfl, rfl, rfl, rfl, rfl, rfl, rfl, rfl, rfl, rfl, rfl, rfl, rfl, rfl, rfl, rfl, rfl, ?_⟩
  have c25 : Chg [b3] w2 w5 := (c3.nil).trans c5 (fun _ h _ => h)
  have h25 := c25.obj (by simp; omega) h2
  refine ⟨has_of h25 (by simp), free_of' h25, ?_⟩
  rintro w7 rfl
  have h7 := setCells_all (vs := allB b1) (by rfl) h25
  refine ⟨_, _, _, _, _, _, _, _, _, _, _, _, _, _, _, _, _, _, cellsAt_of h7, b1, ?_, ?_, rfl⟩
  ·have c7 := Chg.setCells ⟨b2, 0, none⟩ (allB b1) 0 w5
   exact c7.obj (by simp; omega) (c25.obj (by simp; omega) (c2.obj (by simp) h1))
  ·have c7 := Chg.setCells ⟨b2, 0, none⟩ (allB b1) 0 w5
   have c05 : Chg [] w w5 := (c1.trans0 c2).trans c25 (fun i hi hlt => by simp at hi; omega)
   exact c05.trans c7 (fun i hi hlt => by simp at hi; omega)
theorem index_202 (vs : List Value) (hv : vs.length = 18) (k : Int) (h0 : 0 ≤ k) (h1 : k < 18) (x : Value) (hx : vs[k.toNat]? = some x) (w : World) :
  (Instr.index 174 (.agg vs.toArray) (.int .i64 k)).run Tryz.prog w = .ok x w := by
 unfold Instr.index
 simp [go_sem, h0, h1, part, hx]
theorem flow_may {w : World} {b : Nat} {F : Fl} {fp : List Nat} (h : FlowAt w b F fp) (p1 p2 : Int) :
  Calls Tryz.prog 63 #[.pointer (some ⟨b, 0, none⟩), .agg #[.int .i64 p1, .int .i64 p2]] w fun e w' => ∃ r : Bool, e = .returned (.bool r) ∧ (r = decide (mayP F.fr F.se (p1, p2)) ∧ Chg [] w w') := by
 obtain ⟨T, m, d, r, hh⟩ := h.head
 obtain ⟨g1, g2, g3, g4⟩ := h.wide
 refine ok_flow_Flow_may _ _ _ _ _ ?_
 unfold V_flow_Flow_may
 refine v_alloc fun b1 w1 e1 h1 c1 => ?_
 refine v_drew fun w2 c2 => ?_
 have c02 := c1.trans0 c2
 have h12 := c2.obj (by simp) h1
 refine ⟨p1, by rw [cell_of h12]; rfl, p2, by rw [cell_of h12]; rfl, ?_⟩
 refine ⟨fun b2 w3 => w3 = w2 ∧ b2 = decide (1 ≤ p1 ∧ p1 ≤ 17), ?_, fun h => ?_, fun h => ?_⟩
 rotate_left
 ·simp only [decide_eq_true_eq] at h
  exact ⟨rfl, decide_eq_decide.2 (by omega)⟩
 ·simp only [decide_eq_false_iff_not] at h
  exact ⟨rfl, by symm; rw [decide_eq_false_iff_not]; omega⟩
 rintro b2 w3 ⟨hw, rfl⟩
 subst w3
 refine ⟨fun b3 w4 => w4 = w2 ∧ b3 = decide (1 ≤ p1 ∧ p1 ≤ 17 ∧ 0 ≤ p2), ?_, fun h => ?_, fun h => ?_⟩
 rotate_left
 ·simp only [decide_eq_true_eq] at h
  exact ⟨rfl, decide_eq_decide.2 (by omega)⟩
 ·simp only [decide_eq_false_iff_not] at h
  exact ⟨rfl, by symm; rw [decide_eq_false_iff_not]; omega⟩
 rintro b3 w4 ⟨hw, rfl⟩
 subst w4
 refine ⟨fun b4 w5 => b4 = decide (mayP F.fr F.se (p1, p2)) ∧ Chg [] w w5, fun b4 w5 h => h, fun h => ?_, fun h => ?_⟩
 rotate_left
 ·simp only [decide_eq_false_iff_not] at h
  refine ⟨?_, c02⟩
  symm; rw [decide_eq_false_iff_not]; unfold mayP; simp only []; omega
 simp only [decide_eq_true_eq] at h
 refine (flow_bounds _ w2).mono ?_
 rintro _ w6 ⟨r2, r3, r4, r5, r6, r7, r8, r9, r10, r11, r12, r13, r14, r15, r16, r17, r18, r19, rfl, bb, hbb, c6, hl⟩
 have h16 := c6.obj (by simp) h12
 have hh6 := (c02.trans0 c6).obj (by simp) hh
 refine ⟨r2, r3, r4, r5, r6, r7, r8, r9, r10, r11, r12, r13, r14, r15, r16, r17, r18, r19, rfl, ⟨by rw [cell_of h16]; rfl, by rw [cell_of h16]; rfl, trivial⟩, ?_⟩
 -- each kind's bound
 have hlast : ∀ (x : Value), (allB bb)[p1.toNat]? = some x →
   (CallsV Tryz.prog x #[] w6 fun e w7 => ∃ r20 : Int, e = .returned (.int .i64 r20) ∧ r20 = boundP F.fr F.se p1 ∧ w7 = w6) →
   (∃ (x1 : Value), (∀ w : World, (Instr.index 174 (.agg #[r2, r3, r4, r5, r6, r7, r8, r9, r10, r11, r12, r13, r14, r15, r16, r17, r18, r19]) (.int .i64 p1)).run Tryz.prog w = .ok (x1) w) ∧ (CallsV Tryz.prog x1 #[] w6 fun e w7 => ∃ (r20 : Int), e = .returned (.int .i64 r20) ∧ ((w7.cell? (⟨b1, 0, none⟩ : Addr) = some (.int .i64 p1) ∧ w7.cell? (⟨b1, 1, none⟩ : Addr) = some (.int .i64 p2) ∧ True) ∧ (decide (p2 < r20) = decide (mayP F.fr F.se (p1, p2)) ∧ Chg [] w w7)))) := by
  intro x hx ⟨f, cap, fn, k1, k2, k3, k4, k5⟩
  refine ⟨x, fun w => index_202 _ rfl p1 (by omega) (by omega) x (by rw [hl]; exact hx) w, f, cap, fn, k1, k2, k3, k4, k5.mono ?_⟩
  rintro e w7 ⟨r20, rfl, rfl, hw⟩
  subst w7
  refine ⟨_, rfl, ⟨by rw [cell_of h16]; rfl, by rw [cell_of h16]; rfl, trivial⟩, ?_, c02.trans0 c6⟩
  apply decide_eq_decide.2
  unfold mayP
  simp only []
  omega
 have hk : p1 = 1 ∨ p1 = 2 ∨ p1 = 3 ∨ p1 = 4 ∨ p1 = 5 ∨ p1 = 6 ∨ p1 = 7 ∨ p1 = 8 ∨ p1 = 9 ∨ p1 = 10 ∨ p1 = 11 ∨ p1 = 12 ∨ p1 = 13 ∨ p1 = 14 ∨ p1 = 15 ∨ p1 = 16 ∨ p1 = 17 := by omega
 have k127 : boundP F.fr F.se p1 = 1 → CallsV Tryz.prog F127 #[] w6 fun e w7 => ∃ r20 : Int, e = .returned (.int .i64 r20) ∧ r20 = boundP F.fr F.se p1 ∧ w7 = w6 := fun hb =>
  ⟨104, #[], Tryz.f104, rfl, Tryz.func104, by kernel_rfl, by kernel_rfl, ok_flow_Flow_bounds_1 w6 (fun r w => r = boundP F.fr F.se p1 ∧ w = w6) ⟨hb.symm, rfl⟩⟩
 have k128 : boundP F.fr F.se p1 = 2147483648 → CallsV Tryz.prog (.func (.func 105) #[] #[]) #[] w6 fun e w7 => ∃ r20 : Int, e = .returned (.int .i64 r20) ∧ r20 = boundP F.fr F.se p1 ∧ w7 = w6 := fun hb =>
  ⟨105, #[], Tryz.f105, rfl, Tryz.func105, by kernel_rfl, by kernel_rfl, ok_flow_Flow_bounds_2 w6 (fun r w => r = boundP F.fr F.se p1 ∧ w = w6) ⟨hb.symm, rfl⟩⟩
 rcases hk with rfl | rfl | rfl | rfl | rfl | rfl | rfl | rfl | rfl | rfl | rfl | rfl | rfl | rfl | rfl | rfl | rfl
 ·exact hlast _ (by simp only [allB]; rfl) ⟨106, #[], Tryz.f106, rfl, Tryz.func106, by kernel_rfl, by kernel_rfl, ok_flow_Flow_bounds_3 w6 (fun r w => r = boundP F.fr F.se 1 ∧ w = w6) ⟨by simp [boundP], rfl⟩⟩
 ·exact hlast _ (by simp only [allB]; rfl) (k127 (by simp [boundP]))
 ·exact hlast _ (by simp only [allB]; rfl) (k127 (by simp [boundP]))
 ·exact hlast _ (by simp only [allB]; rfl) (k127 (by simp [boundP]))
 ·exact hlast _ (by simp only [allB]; rfl) (k127 (by simp [boundP]))
 ·exact hlast _ (by simp only [allB]; rfl) (k127 (by simp [boundP]))
 ·exact hlast _ (by simp only [allB]; rfl) (k127 (by simp [boundP]))
 ·exact hlast _ (by simp only [allB]; rfl) (k127 (by simp [boundP]))
 ·exact hlast _ (by simp only [allB]; rfl) (k127 (by simp [boundP]))
 ·refine hlast (.func (.func 109) #[] #[.pointer (some (⟨bb, 0, none⟩ : Addr))]) (by simp only [allB]; rfl) ⟨109, _, Tryz.f109, rfl, Tryz.func109, by kernel_rfl, by kernel_rfl, ok_flow_Flow_bounds_6 _ w6 (fun r w => r = boundP F.fr F.se 10 ∧ w = w6) ?_⟩
  exact ⟨_, by rw [cell_of hbb]; rfl, _, rfl, _, by rw [cell_of hh6]; rfl, by rw [wr (by omega) (by omega)]; simp [boundP]; omega, rfl⟩
 ·exact hlast _ (by simp only [allB]; rfl) ⟨107, #[], Tryz.f107, rfl, Tryz.func107, by kernel_rfl, by kernel_rfl, ok_flow_Flow_bounds_4 w6 (fun r w => r = boundP F.fr F.se 11 ∧ w = w6) ⟨by simp [boundP], rfl⟩⟩
 ·refine hlast (.func (.func 110) #[] #[.pointer (some (⟨bb, 0, none⟩ : Addr))]) (by simp only [allB]; rfl) ⟨110, _, Tryz.f110, rfl, Tryz.func110, by kernel_rfl, by kernel_rfl, ok_flow_Flow_bounds_7 _ w6 (fun r w => r = boundP F.fr F.se 12 ∧ w = w6) ?_⟩
  exact ⟨_, by rw [cell_of hbb]; rfl, _, rfl, _, by rw [add_at, cell_of hh6]; rfl, by rw [wr (by omega) (by omega)]; simp [boundP]; omega, rfl⟩
 ·exact hlast _ (by simp only [allB]; rfl) (k128 (by simp [boundP]))
 ·exact hlast _ (by simp only [allB]; rfl) (k128 (by simp [boundP]))
 ·exact hlast _ (by simp only [allB]; rfl) (k128 (by simp [boundP]))
 ·exact hlast _ (by simp only [allB]; rfl) (k128 (by simp [boundP]))
 ·exact hlast _ (by simp only [allB]; rfl) ⟨108, #[], Tryz.f108, rfl, Tryz.func108, by kernel_rfl, by kernel_rfl, ok_flow_Flow_bounds_5 w6 (fun r w => r = boundP F.fr F.se 17 ∧ w = w6) ⟨by simp [boundP], rfl⟩⟩
end Go.Proofs.YtfcfkhbkkfpehaaGreat
end
section
namespace Go.Proofs.YtfcfkhbkkfpehaaGreat
open Go.X
/- pomander/flow.New -/
def V_flow_New (form1 : Int) (form2 : Int) (most1 : Int) (w : World) (R : (Option Addr) → Int → World → Prop) : Prop :=
 ∀ b1 : Nat, b1 = World.size w → ∀ w1 : World, w1 = World.alloc w (.cells #[.int .i64 form1, .int .i64 form2] 37) → (Calls Tryz.prog 57 #[.int .i64 most1] w1 fun e w2 => ∃ (r3 : Option Addr) (r4 : Int), e = .returned (.tuple #[.pointer r3, .int .i64 r4]) ∧ (∃ (t1 : Int), w2.cell? (⟨b1, 0, none⟩ : Addr) = some (.int .i64 t1) ∧ (Calls Tryz.prog 58 #[.int .i64 t1] w2 fun e w3 => ∃ (r5 : Option Addr) (r6 : Int), e = .returned (.tuple #[.pointer r5, .int .i64 r6]) ∧ (∃ (t2 : Int), w3.cell? (⟨b1, 1, none⟩ : Addr) = some (.int .i64 t2) ∧ (Calls Tryz.prog 58 #[.int .i64 t2] w3 fun e w4 => ∃ (r7 : Option Addr) (r8 : Int), e = .returned (.tuple #[.pointer r7, .int .i64 r8]) ∧ ((((!(r4 == 0) || !(r6 == 0)) || !(r8 == 0)) = true → R none 2 w4) ∧ (((!(r4 == 0) || !(r6 == 0)) || !(r8 == 0)) = false → ∃ (t3 : Int) (t4 : Int), CellsAt w4 (⟨b1, 0, none⟩ : Addr) 0 [.int .i64 t3, .int .i64 t4] ∧ (∀ b2 : Nat, b2 = World.size w4 → ∀ w5 : World, w5 = World.alloc w4 (.map #[] 0) → (∀ b3 : Nat, b3 = World.size w5 → ∀ w6 : World, w6 = World.alloc w5 (.cells #[.int .i64 t3, .int .i64 t4, .pointer r3, .pointer r5, .pointer r7, .map (some b2)] 101) → (R (some (⟨b3, 0, none⟩ : Addr)) 0 w6))))))))))
set_option maxRecDepth 100000 in
theorem ok_flow_New (form1 : Int) (form2 : Int) (most1 : Int) (w : World) (R : (Option Addr) → Int → World → Prop) (h : V_flow_New form1 form2 most1 w R) : Calls Tryz.prog 26 #[.agg #[.int .i64 form1, .int .i64 form2], .int .i64 most1] w (fun e w' => ∃ (r1 : Option Addr) (r2 : Int), e = .returned (.tuple #[.pointer r1, .int .i64 r2]) ∧ R r1 r2 w') := by
 unfold V_flow_New at h
 refine enter (N := 46) Tryz.func26 rfl rfl ?_
 refine CW.seq ?_
 refine CW.region fun L hL => ?_
 obtain ⟨b1, hb_b1⟩ : ∃ b1, b1 = World.size w := ⟨_, rfl⟩
 obtain ⟨w1, hw_w1⟩ : ∃ w1, w1 = World.alloc w (.cells #[.int .i64 form1, .int .i64 form2] 37) := ⟨_, rfl⟩
 replace h := h b1 hb_b1 w1 hw_w1
 refine LW.val hL rfl (Wants.free rfl) rfl (boxE hb_b1 hw_w1 (Vl.box (v := .agg #[.int .i64 form1, .int .i64 form2]) rfl)) ?_
 refine LW.rd hL rfl (Wants.free rfl) rfl (Rd.assign (v := .pointer none) rfl) ?_
 refine LW.rd hL rfl (Wants.free rfl) rfl (Rd.assign (v := .int .i64 0) rfl) ?_
 refine LW.nil hL rfl ?_
 refine NW.then ?_
 refine CW.seq ?_
 refine CW.region fun L hL => ?_
 refine LW.rd hL rfl (Wants.free rfl) rfl (Rd.move (v := .int .i64 most1) rfl) ?_
 refine LW.call hL rfl (Wants.free rfl) rfl (Cl.fn (f := 57) rfl Tryz.func57 (by kernel_rfl) rfl) h (fun e w2 h_ => ?_)
 clear h
 obtain ⟨r3, r4, rfl, h⟩ := h_
 refine ⟨_, rfl, ?_⟩
 refine LW.rd hL rfl (Wants.free rfl) rfl (Rd.move (v := .tuple #[.pointer r3, .int .i64 r4]) rfl) ?_
 refine LW.rd hL rfl (Wants.free rfl) rfl (Rd.extract (v := .pointer r3) rfl rfl) ?_
 refine LW.rd hL rfl (Wants.free rfl) rfl (Rd.extract (v := .int .i64 r4) rfl rfl) ?_
 refine LW.rd hL rfl (Wants.free rfl) rfl (Rd.assign (v := .pointer r3) rfl) ?_
 refine LW.rd hL rfl (Wants.free rfl) rfl (Rd.assign (v := .int .i64 r4) rfl) ?_
 refine LW.nil hL rfl ?_
 refine NW.then ?_
 refine CW.seq ?_
 refine CW.region fun L hL => ?_
 refine LW.rd hL rfl (Wants.free rfl) rfl (Rd.fa (v := .pointer (some (⟨b1, 0, none⟩ : Addr))) rfl (fun _ => by kernel_rfl)) ?_
 obtain ⟨t1, hc1, h⟩ := h
 refine LW.rd hL rfl (Wants.free rfl) rfl (Rd.ld (v := .int .i64 t1) rfl (by kernel_rfl) (eqs hc1)) ?_
 refine LW.call hL rfl (Wants.free rfl) rfl (Cl.fn (f := 58) rfl Tryz.func58 (by kernel_rfl) rfl) h (fun e w3 h_ => ?_)
 clear h
 obtain ⟨r5, r6, rfl, h⟩ := h_
 refine ⟨_, rfl, ?_⟩
 refine LW.rd hL rfl (Wants.free rfl) rfl (Rd.move (v := .tuple #[.pointer r5, .int .i64 r6]) rfl) ?_
 refine LW.rd hL rfl (Wants.free rfl) rfl (Rd.extract (v := .pointer r5) rfl rfl) ?_
 refine LW.rd hL rfl (Wants.free rfl) rfl (Rd.extract (v := .int .i64 r6) rfl rfl) ?_
 refine LW.rd hL rfl (Wants.free rfl) rfl (Rd.assign (v := .pointer r5) rfl) ?_
 refine LW.rd hL rfl (Wants.free rfl) rfl (Rd.assign (v := .int .i64 r6) rfl) ?_
 refine LW.nil hL rfl ?_
 refine NW.then ?_
 refine CW.seq ?_
 refine CW.region fun L hL => ?_
 refine LW.rd hL rfl (Wants.free rfl) rfl (Rd.fa (v := .pointer (some (⟨b1, 1, none⟩ : Addr))) rfl (fun _ => by kernel_rfl)) ?_
 obtain ⟨t2, hc2, h⟩ := h
 refine LW.rd hL rfl (Wants.free rfl) rfl (Rd.ld (v := .int .i64 t2) rfl (by kernel_rfl) (eqs hc2)) ?_
 refine LW.call hL rfl (Wants.free rfl) rfl (Cl.fn (f := 58) rfl Tryz.func58 (by kernel_rfl) rfl) h (fun e w4 h_ => ?_)
 clear h
 obtain ⟨r7, r8, rfl, h⟩ := h_
 refine ⟨_, rfl, ?_⟩
 refine LW.rd hL rfl (Wants.free rfl) rfl (Rd.move (v := .tuple #[.pointer r7, .int .i64 r8]) rfl) ?_
 refine LW.rd hL rfl (Wants.free rfl) rfl (Rd.extract (v := .pointer r7) rfl rfl) ?_
 refine LW.rd hL rfl (Wants.free rfl) rfl (Rd.extract (v := .int .i64 r8) rfl rfl) ?_
 refine LW.rd hL rfl (Wants.free rfl) rfl (Rd.assign (v := .pointer r7) rfl) ?_
 refine LW.rd hL rfl (Wants.free rfl) rfl (Rd.assign (v := .int .i64 r8) rfl) ?_
 refine LW.nil hL rfl ?_
 refine NW.then ?_
 refine CW.seq ?_
 refine CW.seq ?_
 refine CW.region fun L hL => ?_
 refine LW.rd hL rfl (Wants.free rfl) rfl (Rd.move (v := .int .i64 r4) rfl) ?_
 refine LW.rd hL rfl (Wants.free rfl) rfl (Rd.bin (v := .bool (!(r4 == 0))) rfl rfl (fun w => by kernel_rfl)) ?_
 refine LW.rd hL rfl (Wants.free rfl) rfl (Rd.move (v := .bool (!(r4 == 0))) rfl) ?_
 suffices K1 : L 6 [(2, .pointer (some (⟨b1, 0, none⟩ : Addr))), (4, .pointer none), (5, .int .i64 0), (6, .pointer r3), (8, .pointer r5), (10, .pointer r7), (11, .int .i64 r8), (34, .bool (!(r4 == 0) || !(r6 == 0)))] w4 by
  rcases Bool.eq_false_or_eq_true (!(r4 == 0)) with hb2 | hb2
  ·skip
   refine LW.skip hL rfl (Skips.on rfl rfl rfl rfl rfl hb2) rfl ?_
   refine LW.skip hL rfl (Skips.on rfl rfl rfl rfl rfl hb2) rfl ?_
   refine LW.rd hL rfl (Wants.free rfl) rfl (Rd.pickT rfl hb2 rfl) ?_
   exact LW.sub hL (by exact ⟨rfl, rfl, rfl, rfl, rfl, rfl, rfl, (by rw [hb2]; rfl), trivial⟩) K1
  ·skip
   refine LW.rd hL rfl (Wants.on rfl rfl rfl rfl rfl hb2) rfl (Rd.move (v := .int .i64 r6) rfl) ?_
   refine LW.rd hL rfl (Wants.on rfl rfl rfl rfl rfl hb2) rfl (Rd.bin (v := .bool (!(r6 == 0))) rfl rfl (fun w => by kernel_rfl)) ?_
   refine LW.rd hL rfl (Wants.free rfl) rfl (Rd.pickF rfl hb2 rfl) ?_
   exact LW.sub hL (by exact ⟨rfl, rfl, rfl, rfl, rfl, rfl, rfl, (by rw [hb2]; rfl), trivial⟩) K1
 refine LW.rd hL rfl (Wants.free rfl) rfl (Rd.move (v := .bool (!(r4 == 0) || !(r6 == 0))) rfl) ?_
 suffices K2 : L 10 [(2, .pointer (some (⟨b1, 0, none⟩ : Addr))), (4, .pointer none), (5, .int .i64 0), (6, .pointer r3), (8, .pointer r5), (10, .pointer r7), (38, .bool ((!(r4 == 0) || !(r6 == 0)) || !(r8 == 0)))] w4 by
  rcases Bool.eq_false_or_eq_true (!(r4 == 0) || !(r6 == 0)) with hb4 | hb4
  ·skip
   refine LW.skip hL rfl (Skips.on rfl rfl rfl rfl rfl hb4) rfl ?_
   refine LW.skip hL rfl (Skips.on rfl rfl rfl rfl rfl hb4) rfl ?_
   refine LW.rd hL rfl (Wants.free rfl) rfl (Rd.pickT rfl hb4 rfl) ?_
   exact LW.sub hL (by exact ⟨rfl, rfl, rfl, rfl, rfl, rfl, (by rw [hb4]; rfl), trivial⟩) K2
  ·skip
   refine LW.rd hL rfl (Wants.on rfl rfl rfl rfl rfl hb4) rfl (Rd.move (v := .int .i64 r8) rfl) ?_
   refine LW.rd hL rfl (Wants.on rfl rfl rfl rfl rfl hb4) rfl (Rd.bin (v := .bool (!(r8 == 0))) rfl rfl (fun w => by kernel_rfl)) ?_
   refine LW.rd hL rfl (Wants.free rfl) rfl (Rd.pickF rfl hb4 rfl) ?_
   exact LW.sub hL (by exact ⟨rfl, rfl, rfl, rfl, rfl, rfl, (by rw [hb4]; rfl), trivial⟩) K2
 refine LW.nil hL rfl ?_
 refine NW.then ?_
 refine CW.cond rfl (fun hb5 => ?_) (fun hb5 => ?_)
 ·replace h := h.1 hb5
  refine CW.seq ?_
  refine CW.region fun L hL => ?_
  refine LW.rd hL rfl (Wants.free rfl) rfl (Rd.assign (v := .pointer none) rfl) ?_
  refine LW.rd hL rfl (Wants.free rfl) rfl (Rd.assign (v := .int .i64 2) rfl) ?_
  refine LW.nil hL rfl ?_
  refine NW.then ?_
  refine CW.ret ?_
  refine RW.then ?_
  exact res2 rfl rfl rfl ⟨none, 2, rfl, h⟩
 ·replace h := h.2 hb5
  refine CW.skip ?_
  refine NW.then ?_
  refine CW.seq ?_
  refine CW.region fun L hL => ?_
  obtain ⟨t3, t4, hc3, h⟩ := h
  refine LW.rd hL rfl (Wants.free rfl) rfl (Rd.ldN (cs := [.int .i64 t3, .int .i64 t4]) rfl (by kernel_rfl) (by kernel_rfl) (cellsS hc3)) ?_
  refine LW.rd hL rfl (Wants.free rfl) rfl (Rd.move (v := .pointer r3) rfl) ?_
  refine LW.rd hL rfl (Wants.free rfl) rfl (Rd.move (v := .pointer r5) rfl) ?_
  refine LW.rd hL rfl (Wants.free rfl) rfl (Rd.move (v := .pointer r7) rfl) ?_
  obtain ⟨b2, hb_b2⟩ : ∃ b2, b2 = World.size w4 := ⟨_, rfl⟩
  obtain ⟨w5, hw_w5⟩ : ∃ w5, w5 = World.alloc w4 (.map #[] 0) := ⟨_, rfl⟩
  replace h := h b2 hb_b2 w5 hw_w5
  refine LW.val hL rfl (Wants.free rfl) rfl (mapE hb_b2 hw_w5 Vl.makeMap) ?_
  refine LW.rd hL rfl (Wants.free rfl) rfl (Rd.build (v := .agg #[.int .i64 t3, .int .i64 t4, .pointer r3, .pointer r5, .pointer r7, .map (some b2)]) rfl (fun _ => by kernel_rfl)) ?_
  obtain ⟨b3, hb_b3⟩ : ∃ b3, b3 = World.size w5 := ⟨_, rfl⟩
  obtain ⟨w6, hw_w6⟩ : ∃ w6, w6 = World.alloc w5 (.cells #[.int .i64 t3, .int .i64 t4, .pointer r3, .pointer r5, .pointer r7, .map (some b2)] 101) := ⟨_, rfl⟩
  replace h := h b3 hb_b3 w6 hw_w6
  refine LW.val hL rfl (Wants.free rfl) rfl (boxE hb_b3 hw_w6 (Vl.box (v := .agg #[.int .i64 t3, .int .i64 t4, .pointer r3, .pointer r5, .pointer r7, .map (some b2)]) rfl)) ?_
  refine LW.rd hL rfl (Wants.free rfl) rfl (Rd.assign (v := .pointer (some (⟨b3, 0, none⟩ : Addr))) rfl) ?_
  refine LW.rd hL rfl (Wants.free rfl) rfl (Rd.assign (v := .int .i64 0) rfl) ?_
  refine LW.nil hL rfl ?_
  refine NW.then ?_
  refine CW.ret ?_
  exact res2 rfl rfl rfl ⟨some (⟨b3, 0, none⟩ : Addr), 0, rfl, h⟩
/- (*pomander/flow.Flow).Get -/
def V_flow_Flow_Get (f1 : Option Addr) (p1 : Int) (p2 : Int) (w : World) (R : Int → Int → World → Prop) : Prop :=
 ∀ b1 : Nat, b1 = World.size w → ∀ w1 : World, w1 = World.alloc w (.cells #[.int .i64 p1, .int .i64 p2] 62) → (∃ J1 : Int × Int → World → Prop, (∀ (s1 : Int × Int) (w2 : World), J1 s1 w2 → R 0 s1.2 w2) ∧ (Calls Tryz.prog 43 #[.pointer f1] w1 fun e w3 => ∃ (r3 : Bool), e = .returned (.bool r3) ∧ ((r3 = true → J1 (0, 1) w3) ∧ (r3 = false → ∃ (t1 : Int) (t2 : Int), CellsAt w3 (⟨b1, 0, none⟩ : Addr) 0 [.int .i64 t1, .int .i64 t2] ∧ (Calls Tryz.prog 63 #[.pointer f1, .agg #[.int .i64 t1, .int .i64 t2]] w3 fun e w4 => ∃ (r4 : Bool), e = .returned (.bool r4) ∧ (((!r4) = true → J1 (0, 2) w4) ∧ ((!r4) = false → ∃ (t3 : Int) (t4 : Int), CellsAt w4 (⟨b1, 0, none⟩ : Addr) 0 [.int .i64 t3, .int .i64 t4] ∧ (Calls Tryz.prog 73 #[.pointer f1, .agg #[.int .i64 t3, .int .i64 t4]] w4 fun e w5 => ∃ (r5 : Int), e = .returned (.int .u32 r5) ∧ (R r5 0 w5)))))))))
set_option maxRecDepth 100000 in
theorem ok_flow_Flow_Get (f1 : Option Addr) (p1 : Int) (p2 : Int) (w : World) (R : Int → Int → World → Prop) (h : V_flow_Flow_Get f1 p1 p2 w R) : Calls Tryz.prog 35 #[.pointer f1, .agg #[.int .i64 p1, .int .i64 p2]] w (fun e w' => ∃ (r1 : Int) (r2 : Int), e = .returned (.tuple #[.int .u32 r1, .int .i64 r2]) ∧ R r1 r2 w') := by
 unfold V_flow_Flow_Get at h
 refine enter (N := 16) Tryz.func35 rfl rfl ?_
 refine CW.seq ?_
 refine CW.region fun L hL => ?_
 obtain ⟨b1, hb_b1⟩ : ∃ b1, b1 = World.size w := ⟨_, rfl⟩
 obtain ⟨w1, hw_w1⟩ : ∃ w1, w1 = World.alloc w (.cells #[.int .i64 p1, .int .i64 p2] 62) := ⟨_, rfl⟩
 replace h := h b1 hb_b1 w1 hw_w1
 refine LW.val hL rfl (Wants.free rfl) rfl (boxE hb_b1 hw_w1 (Vl.box (v := .agg #[.int .i64 p1, .int .i64 p2]) rfl)) ?_
 refine LW.rd hL rfl (Wants.free rfl) rfl (Rd.assign (v := .int .u32 0) rfl) ?_
 refine LW.rd hL rfl (Wants.free rfl) rfl (Rd.assign (v := .int .i64 0) rfl) ?_
 refine LW.nil hL rfl ?_
 refine NW.then ?_
 obtain ⟨J1, hJ1, h⟩ := h
 refine CW.scope (S := Int × Int) 0 (fun s1 => [(4, .int .u32 s1.1), (5, .int .i64 s1.2)]) J1 rfl (fun s1 w2 h_ => ?_) ?_
 ·replace h := hJ1 s1 w2 h_; clear h_
  refine CW.seq ?_
  refine CW.skip ?_
  refine NW.then ?_
  refine CW.seq ?_
  refine CW.region fun L hL => ?_
  refine LW.rd hL rfl (Wants.free rfl) rfl (Rd.move (v := .int .i64 s1.2) rfl) ?_
  refine LW.rd hL rfl (Wants.free rfl) rfl (Rd.assign (v := .int .u32 0) rfl) ?_
  refine LW.rd hL rfl (Wants.free rfl) rfl (Rd.assign (v := .int .i64 s1.2) rfl) ?_
  refine LW.nil hL rfl ?_
  refine NW.then ?_
  refine CW.ret ?_
  refine RW.jump ?_
  exact res2 rfl rfl rfl ⟨0, s1.2, rfl, h⟩
 ·skip
  refine CW.seq ?_
  refine CW.seq ?_
  refine CW.region fun L hL => ?_
  refine LW.rd hL rfl (Wants.free rfl) rfl (Rd.assign (v := .int .i64 1) rfl) ?_
  refine LW.nil hL rfl ?_
  refine NW.then ?_
  refine CW.seq ?_
  refine CW.region fun L hL => ?_
  refine LW.rd hL rfl (Wants.free rfl) rfl (Rd.move (v := .pointer f1) rfl) ?_
  refine LW.call hL rfl (Wants.free rfl) rfl (Cl.fn (f := 43) rfl Tryz.func43 (by kernel_rfl) rfl) h (fun e w3 h_ => ?_)
  clear h
  obtain ⟨r3, rfl, h⟩ := h_
  refine ⟨_, rfl, ?_⟩
  refine LW.nil hL rfl ?_
  refine NW.then ?_
  refine CW.cond rfl (fun hb1 => ?_) (fun hb1 => ?_)
  ·replace h := h.1 hb1
   refine CW.goto ?_
   refine GW.then ?_
   exact GW.hit (S := Int × Int) (Ek := fun s1 => [(4, .int .u32 s1.1), (5, .int .i64 s1.2)]) (0, 1) (by exact ⟨rfl, rfl, trivial⟩) h
  ·replace h := h.2 hb1
   refine CW.skip ?_
   refine NW.then ?_
   refine CW.seq ?_
   refine CW.seq ?_
   refine CW.region fun L hL => ?_
   refine LW.rd hL rfl (Wants.free rfl) rfl (Rd.assign (v := .int .i64 2) rfl) ?_
   refine LW.nil hL rfl ?_
   refine NW.then ?_
   refine CW.seq ?_
   refine CW.region fun L hL => ?_
   refine LW.rd hL rfl (Wants.free rfl) rfl (Rd.move (v := .pointer f1) rfl) ?_
   obtain ⟨t1, t2, hc1, h⟩ := h
   refine LW.rd hL rfl (Wants.free rfl) rfl (Rd.ldN (cs := [.int .i64 t1, .int .i64 t2]) rfl (by kernel_rfl) (by kernel_rfl) (cellsS hc1)) ?_
   refine LW.call hL rfl (Wants.free rfl) rfl (Cl.fn (f := 63) rfl Tryz.func63 (by kernel_rfl) rfl) h (fun e w4 h_ => ?_)
   clear h
   obtain ⟨r4, rfl, h⟩ := h_
   refine ⟨_, rfl, ?_⟩
   refine LW.rd hL rfl (Wants.free rfl) rfl (Rd.un (v := .bool (!r4)) rfl (fun _ => by kernel_rfl)) ?_
   refine LW.nil hL rfl ?_
   refine NW.then ?_
   refine CW.cond rfl (fun hb2 => ?_) (fun hb2 => ?_)
   ·replace h := h.1 hb2
    refine CW.goto ?_
    refine GW.then ?_
    exact GW.hit (S := Int × Int) (Ek := fun s1 => [(4, .int .u32 s1.1), (5, .int .i64 s1.2)]) (0, 2) (by exact ⟨rfl, rfl, trivial⟩) h
   ·replace h := h.2 hb2
    refine CW.skip ?_
    refine NW.then ?_
    refine CW.seq ?_
    refine CW.seq ?_
    refine CW.region fun L hL => ?_
    refine LW.rd hL rfl (Wants.free rfl) rfl (Rd.move (v := .pointer f1) rfl) ?_
    obtain ⟨t3, t4, hc2, h⟩ := h
    refine LW.rd hL rfl (Wants.free rfl) rfl (Rd.ldN (cs := [.int .i64 t3, .int .i64 t4]) rfl (by kernel_rfl) (by kernel_rfl) (cellsS hc2)) ?_
    refine LW.call hL rfl (Wants.free rfl) rfl (Cl.fn (f := 73) rfl Tryz.func73 (by kernel_rfl) rfl) h (fun e w5 h_ => ?_)
    clear h
    obtain ⟨r5, rfl, h⟩ := h_
    refine ⟨_, rfl, ?_⟩
    refine LW.rd hL rfl (Wants.free rfl) rfl (Rd.assign (v := .int .u32 r5) rfl) ?_
    refine LW.rd hL rfl (Wants.free rfl) rfl (Rd.assign (v := .int .i64 0) rfl) ?_
    refine LW.nil hL rfl ?_
    refine NW.then ?_
    refine CW.ret ?_
    refine RW.then ?_
    refine RW.jump ?_
    exact res2 rfl rfl rfl ⟨r5, 0, rfl, h⟩
/- (*pomander/flow.Flow).Mark -/
def V_flow_Flow_Mark (f1 : Option Addr) (p1 : Int) (p2 : Int) (n1 : Int) (set1 : Int) (w : World) (R : Int → World → Prop) : Prop :=
 ∀ b1 : Nat, b1 = World.size w → ∀ w1 : World, w1 = World.alloc w (.cells #[.int .i64 p1, .int .i64 p2] 62) → (Calls Tryz.prog 43 #[.pointer f1] w1 fun e w2 => ∃ (r2 : Bool), e = .returned (.bool r2) ∧ ((r2 = true → R 1 w2) ∧ (r2 = false → ∃ (t1 : Int) (t2 : Int), CellsAt w2 (⟨b1, 0, none⟩ : Addr) 0 [.int .i64 t1, .int .i64 t2] ∧ (Calls Tryz.prog 63 #[.pointer f1, .agg #[.int .i64 t1, .int .i64 t2]] w2 fun e w3 => ∃ (r3 : Bool), e = .returned (.bool r3) ∧ (((!r3 || decide (set1 ≥ 65536)) = true → R 2 w3) ∧ ((!r3 || decide (set1 ≥ 65536)) = false → ∃ J1 : Bool → World → Prop, (∀ (b2 : Bool) (w4 : World), J1 b2 w4 → (b2 = true → R 4 w4) ∧ (b2 = false → Calls Tryz.prog 64 #[.pointer f1, .int .u32 set1] w4 fun e w7 => ∃ (r5 : Int), e = .returned (.int .i64 r5) ∧ (((!(r5 == 0)) = true → R r5 w7) ∧ ((!(r5 == 0)) = false → ∃ (I1 : Int → World → Prop) (m1 : Int → World → Nat), I1 0 w7 ∧ ∀ (s1 : Int) (w8 : World), I1 s1 w8 → ((decide (s1 < n1)) = true → ∃ (t5 : Int), w8.cell? (⟨b1, 0, none⟩ : Addr) = some (.int .i64 t5) ∧ (∃ (t6 : Int), w8.cell? (⟨b1, 1, none⟩ : Addr) = some (.int .i64 t6) ∧ (Calls Tryz.prog 65 #[.pointer f1, .agg #[.int .i64 t5, .int .i64 (IntKind.wrap .i64 (t6 + s1))], .int .u32 set1] w8 fun e w9 => e = .returned (.tuple #[]) ∧ ((I1 (IntKind.wrap .i64 (s1 + 1)) w9 ∧ m1 (IntKind.wrap .i64 (s1 + 1)) w9 < m1 s1 w8))))) ∧ ((decide (s1 < n1)) = false → R 0 w8))))) ∧ (((decide (n1 < 0) || decide (n1 > 65536)) = false → ∃ J2 : Bool → World → Prop, (∀ (b3 : Bool) (w5 : World), J2 b3 w5 → J1 b3 w5) ∧ (((decide (n1 > 0)) = true → ∃ (t3 : Int), w3.cell? (⟨b1, 0, none⟩ : Addr) = some (.int .i64 t3) ∧ (∃ (t4 : Int), w3.cell? (⟨b1, 1, none⟩ : Addr) = some (.int .i64 t4) ∧ (Calls Tryz.prog 63 #[.pointer f1, .agg #[.int .i64 t3, .int .i64 (IntKind.wrap .i64 ((IntKind.wrap .i64 (t4 + n1)) - 1))]] w3 fun e w6 => ∃ (r4 : Bool), e = .returned (.bool r4) ∧ (J2 (!r4) w6)))) ∧ ((decide (n1 > 0)) = false → J2 false w3))) ∧ ((decide (n1 < 0) || decide (n1 > 65536)) = true → J1 true w3))))))))
set_option maxRecDepth 100000 in
theorem ok_flow_Flow_Mark (f1 : Option Addr) (p1 : Int) (p2 : Int) (n1 : Int) (set1 : Int) (w : World) (R : Int → World → Prop) (h : V_flow_Flow_Mark f1 p1 p2 n1 set1 w R) : Calls Tryz.prog 31 #[.pointer f1, .agg #[.int .i64 p1, .int .i64 p2], .int .i64 n1, .int .u32 set1] w (fun e w' => ∃ (r1 : Int), e = .returned (.int .i64 r1) ∧ R r1 w') := by
 unfold V_flow_Flow_Mark at h
 refine enter (N := 68) Tryz.func31 rfl rfl ?_
 refine CW.seq ?_
 refine CW.region fun L hL => ?_
 obtain ⟨b1, hb_b1⟩ : ∃ b1, b1 = World.size w := ⟨_, rfl⟩
 obtain ⟨w1, hw_w1⟩ : ∃ w1, w1 = World.alloc w (.cells #[.int .i64 p1, .int .i64 p2] 62) := ⟨_, rfl⟩
 replace h := h b1 hb_b1 w1 hw_w1
 refine LW.val hL rfl (Wants.free rfl) rfl (boxE hb_b1 hw_w1 (Vl.box (v := .agg #[.int .i64 p1, .int .i64 p2]) rfl)) ?_
 refine LW.rd hL rfl (Wants.free rfl) rfl (Rd.assign (v := .int .i64 0) rfl) ?_
 refine LW.nil hL rfl ?_
 refine NW.then ?_
 refine CW.seq ?_
 refine CW.block ?_
 refine CW.seq ?_
 refine CW.region fun L hL => ?_
 refine LW.rd hL rfl (Wants.free rfl) rfl (Rd.move (v := .pointer f1) rfl) ?_
 refine LW.call hL rfl (Wants.free rfl) rfl (Cl.fn (f := 43) rfl Tryz.func43 (by kernel_rfl) rfl) h (fun e w2 h_ => ?_)
 clear h
 obtain ⟨r2, rfl, h⟩ := h_
 refine ⟨_, rfl, ?_⟩
 refine LW.rd hL rfl (Wants.free rfl) rfl (Rd.assign (v := .bool r2) rfl) ?_
 refine LW.nil hL rfl ?_
 refine NW.then ?_
 refine CW.cond rfl (fun hb1 => ?_) (fun hb1 => ?_)
 ·replace h := h.1 hb1
  refine CW.seq ?_
  refine CW.region fun L hL => ?_
  refine LW.rd hL rfl (Wants.free rfl) rfl (Rd.assign (v := .int .i64 1) rfl) ?_
  refine LW.nil hL rfl ?_
  refine NW.then ?_
  refine CW.ret ?_
  refine RW.block ?_
  refine RW.then ?_
  exact res1 rfl rfl ⟨1, rfl, h⟩
 ·replace h := h.2 hb1
  refine CW.seq ?_
  refine CW.region fun L hL => ?_
  refine LW.rd hL rfl (Wants.free rfl) rfl (Rd.move (v := .pointer f1) rfl) ?_
  obtain ⟨t1, t2, hc1, h⟩ := h
  refine LW.rd hL rfl (Wants.free rfl) rfl (Rd.ldN (cs := [.int .i64 t1, .int .i64 t2]) rfl (by kernel_rfl) (by kernel_rfl) (cellsS hc1)) ?_
  refine LW.call hL rfl (Wants.free rfl) rfl (Cl.fn (f := 63) rfl Tryz.func63 (by kernel_rfl) rfl) h (fun e w3 h_ => ?_)
  clear h
  obtain ⟨r3, rfl, h⟩ := h_
  refine ⟨_, rfl, ?_⟩
  refine LW.rd hL rfl (Wants.free rfl) rfl (Rd.un (v := .bool (!r3)) rfl (fun _ => by kernel_rfl)) ?_
  refine LW.rd hL rfl (Wants.free rfl) rfl (Rd.move (v := .bool (!r3)) rfl) ?_
  suffices K1 : L 8 [(0, .pointer f1), (2, .int .i64 n1), (3, .int .u32 set1), (5, .pointer (some (⟨b1, 0, none⟩ : Addr))), (8, .int .i64 0), (22, .bool (!r3 || decide (set1 ≥ 65536)))] w3 by
   rcases Bool.eq_false_or_eq_true (!r3) with hb3 | hb3
   ·skip
    refine LW.skip hL rfl (Skips.on rfl rfl rfl rfl rfl hb3) rfl ?_
    refine LW.skip hL rfl (Skips.on rfl rfl rfl rfl rfl hb3) rfl ?_
    refine LW.rd hL rfl (Wants.free rfl) rfl (Rd.pickT rfl hb3 rfl) ?_
    exact LW.sub hL (by exact ⟨rfl, rfl, rfl, rfl, rfl, (by rw [hb3]; rfl), trivial⟩) K1
   ·skip
    refine LW.rd hL rfl (Wants.on rfl rfl rfl rfl rfl hb3) rfl (Rd.move (v := .int .u32 set1) rfl) ?_
    refine LW.rd hL rfl (Wants.on rfl rfl rfl rfl rfl hb3) rfl (Rd.bin (v := .bool (decide (set1 ≥ 65536))) rfl rfl (fun w => by kernel_rfl)) ?_
    refine LW.rd hL rfl (Wants.free rfl) rfl (Rd.pickF rfl hb3 rfl) ?_
    exact LW.sub hL (by exact ⟨rfl, rfl, rfl, rfl, rfl, (by rw [hb3]; rfl), trivial⟩) K1
  refine LW.rd hL rfl (Wants.free rfl) rfl (Rd.assign (v := .bool (!r3 || decide (set1 ≥ 65536))) rfl) ?_
  refine LW.nil hL rfl ?_
  refine NW.then ?_
  refine CW.cond rfl (fun hb4 => ?_) (fun hb4 => ?_)
  ·replace h := h.1 hb4
   refine CW.seq ?_
   refine CW.region fun L hL => ?_
   refine LW.rd hL rfl (Wants.free rfl) rfl (Rd.assign (v := .int .i64 2) rfl) ?_
   refine LW.nil hL rfl ?_
   refine NW.then ?_
   refine CW.ret ?_
   refine RW.block ?_
   refine RW.then ?_
   exact res1 rfl rfl ⟨2, rfl, h⟩
  ·replace h := h.2 hb4
   refine CW.seq ?_
   refine CW.region fun L hL => ?_
   refine LW.rd hL rfl (Wants.free rfl) rfl (Rd.move (v := .int .i64 n1) rfl) ?_
   refine LW.rd hL rfl (Wants.free rfl) rfl (Rd.bin (v := .bool (decide (n1 < 0))) rfl rfl (fun w => by kernel_rfl)) ?_
   refine LW.rd hL rfl (Wants.free rfl) rfl (Rd.move (v := .bool (decide (n1 < 0))) rfl) ?_
   suffices K2 : L 6 [(0, .pointer f1), (2, .int .i64 n1), (3, .int .u32 set1), (5, .pointer (some (⟨b1, 0, none⟩ : Addr))), (8, .int .i64 0), (29, .bool (decide (n1 < 0) || decide (n1 > 65536)))] w3 by
    rcases Bool.eq_false_or_eq_true (decide (n1 < 0)) with hb6 | hb6
    ·skip
     refine LW.skip hL rfl (Skips.on rfl rfl rfl rfl rfl hb6) rfl ?_
     refine LW.skip hL rfl (Skips.on rfl rfl rfl rfl rfl hb6) rfl ?_
     refine LW.rd hL rfl (Wants.free rfl) rfl (Rd.pickT rfl hb6 rfl) ?_
     exact LW.sub hL (by exact ⟨rfl, rfl, rfl, rfl, rfl, (by rw [hb6]; rfl), trivial⟩) K2
    ·skip
     refine LW.rd hL rfl (Wants.on rfl rfl rfl rfl rfl hb6) rfl (Rd.move (v := .int .i64 n1) rfl) ?_
     refine LW.rd hL rfl (Wants.on rfl rfl rfl rfl rfl hb6) rfl (Rd.bin (v := .bool (decide (n1 > 65536))) rfl rfl (fun w => by kernel_rfl)) ?_
     refine LW.rd hL rfl (Wants.free rfl) rfl (Rd.pickF rfl hb6 rfl) ?_
     exact LW.sub hL (by exact ⟨rfl, rfl, rfl, rfl, rfl, (by rw [hb6]; rfl), trivial⟩) K2
   refine LW.rd hL rfl (Wants.free rfl) rfl (Rd.move (v := .bool (decide (n1 < 0) || decide (n1 > 65536))) rfl) ?_
   obtain ⟨J1, hJ1, h1_J1, h0_J1⟩ := h
   suffices K3 : ∀ (b2 : Bool) (w4 : World), J1 b2 w4 → L 23 [(0, .pointer f1), (2, .int .i64 n1), (3, .int .u32 set1), (5, .pointer (some (⟨b1, 0, none⟩ : Addr))), (8, .int .i64 0), (46, .bool b2)] w4 by
    rcases Bool.eq_false_or_eq_true (decide (n1 < 0) || decide (n1 > 65536)) with hb7 | hb7
    ·have h := h0_J1 hb7
     refine LW.skip hL rfl (Skips.on rfl rfl rfl rfl rfl hb7) rfl ?_
     refine LW.skip hL rfl (Skips.on rfl rfl rfl rfl rfl hb7) rfl ?_
     refine LW.skip hL rfl (Skips.on rfl rfl rfl rfl rfl hb7) rfl ?_
     refine LW.skip hL rfl (Skips.un rfl rfl rfl rfl rfl) rfl ?_
     refine LW.skip hL rfl (Skips.un rfl rfl rfl rfl rfl) rfl ?_
     refine LW.skip hL rfl (Skips.un rfl rfl rfl rfl rfl) rfl ?_
     refine LW.skip hL rfl (Skips.un rfl rfl rfl rfl rfl) rfl ?_
     refine LW.skip hL rfl (Skips.un rfl rfl rfl rfl rfl) rfl ?_
     refine LW.skip hL rfl (Skips.un rfl rfl rfl rfl rfl) rfl ?_
     refine LW.skip hL rfl (Skips.un rfl rfl rfl rfl rfl) rfl ?_
     refine LW.skip hL rfl (Skips.un rfl rfl rfl rfl rfl) rfl ?_
     refine LW.skip hL rfl (Skips.un rfl rfl rfl rfl rfl) rfl ?_
     refine LW.skip hL rfl (Skips.un rfl rfl rfl rfl rfl) rfl ?_
     refine LW.skip hL rfl (Skips.un rfl rfl rfl rfl rfl) rfl ?_
     refine LW.skip hL rfl (Skips.on rfl rfl rfl rfl rfl hb7) rfl ?_
     refine LW.rd hL rfl (Wants.free rfl) rfl (Rd.pickT rfl hb7 rfl) ?_
     exact LW.sub hL (by exact ⟨rfl, rfl, rfl, rfl, rfl, rfl, trivial⟩) (K3 true w3 h)
    ·have h := h1_J1 hb7
     refine LW.rd hL rfl (Wants.on rfl rfl rfl rfl rfl hb7) rfl (Rd.move (v := .int .i64 n1) rfl) ?_
     refine LW.rd hL rfl (Wants.on rfl rfl rfl rfl rfl hb7) rfl (Rd.bin (v := .bool (decide (n1 > 0))) rfl rfl (fun w => by kernel_rfl)) ?_
     refine LW.rd hL rfl (Wants.on rfl rfl rfl rfl rfl hb7) rfl (Rd.move (v := .bool (decide (n1 > 0))) rfl) ?_
     obtain ⟨J2, hJ2, h1_J2, h0_J2⟩ := h
     suffices K4 : ∀ (b3 : Bool) (w5 : World), J2 b3 w5 → L 22 [(0, .pointer f1), (2, .int .i64 n1), (3, .int .u32 set1), (5, .pointer (some (⟨b1, 0, none⟩ : Addr))), (8, .int .i64 0), (30, .bool (decide (n1 < 0) || decide (n1 > 65536))), (45, .bool b3)] w5 by
      rcases Bool.eq_false_or_eq_true (decide (n1 > 0)) with hb8 | hb8
      ·have h := h1_J2 hb8
       refine LW.rd hL rfl (Wants.on rfl rfl rfl rfl rfl hb8) rfl (Rd.move (v := .pointer f1) rfl) ?_
       refine LW.rd hL rfl (Wants.on rfl rfl rfl rfl rfl hb8) rfl (Rd.fa (v := .pointer (some (⟨b1, 0, none⟩ : Addr))) rfl (fun _ => by kernel_rfl)) ?_
       obtain ⟨t3, hc2, h⟩ := h
       refine LW.rd hL rfl (Wants.on rfl rfl rfl rfl rfl hb8) rfl (Rd.ld (v := .int .i64 t3) rfl (by kernel_rfl) (eqs hc2)) ?_
       refine LW.rd hL rfl (Wants.on rfl rfl rfl rfl rfl hb8) rfl (Rd.fa (v := .pointer (some (⟨b1, 1, none⟩ : Addr))) rfl (fun _ => by kernel_rfl)) ?_
       obtain ⟨t4, hc3, h⟩ := h
       refine LW.rd hL rfl (Wants.on rfl rfl rfl rfl rfl hb8) rfl (Rd.ld (v := .int .i64 t4) rfl (by kernel_rfl) (eqs hc3)) ?_
       refine LW.rd hL rfl (Wants.on rfl rfl rfl rfl rfl hb8) rfl (Rd.move (v := .int .i64 n1) rfl) ?_
       refine LW.rd hL rfl (Wants.on rfl rfl rfl rfl rfl hb8) rfl (Rd.bin (v := .int .i64 (IntKind.wrap .i64 (t4 + n1))) rfl rfl (fun w => by kernel_rfl)) ?_
       refine LW.rd hL rfl (Wants.on rfl rfl rfl rfl rfl hb8) rfl (Rd.bin (v := .int .i64 (IntKind.wrap .i64 ((IntKind.wrap .i64 (t4 + n1)) - 1))) rfl rfl (fun w => by kernel_rfl)) ?_
       refine LW.rd hL rfl (Wants.on rfl rfl rfl rfl rfl hb8) rfl (Rd.build (v := .agg #[.int .i64 t3, .int .i64 (IntKind.wrap .i64 ((IntKind.wrap .i64 (t4 + n1)) - 1))]) rfl (fun _ => by kernel_rfl)) ?_
       refine LW.call hL rfl (Wants.on rfl rfl rfl rfl rfl hb8) rfl (Cl.fn (f := 63) rfl Tryz.func63 (by kernel_rfl) rfl) h (fun e w6 h_ => ?_)
       clear h
       obtain ⟨r4, rfl, h⟩ := h_
       refine ⟨_, rfl, ?_⟩
       refine LW.rd hL rfl (Wants.on rfl rfl rfl rfl rfl hb8) rfl (Rd.un (v := .bool (!r4)) rfl (fun _ => by kernel_rfl)) ?_
       refine LW.rd hL rfl (Wants.on rfl rfl rfl rfl rfl hb7) rfl (Rd.pickT rfl hb8 rfl) ?_
       exact LW.sub hL (by exact ⟨rfl, rfl, rfl, rfl, rfl, rfl, rfl, trivial⟩) (K4 (!r4) w6 h)
      ·have h := h0_J2 hb8
       refine LW.skip hL rfl (Skips.on rfl rfl rfl rfl rfl hb8) rfl ?_
       refine LW.skip hL rfl (Skips.on rfl rfl rfl rfl rfl hb8) rfl ?_
       refine LW.skip hL rfl (Skips.on rfl rfl rfl rfl rfl hb8) rfl ?_
       refine LW.skip hL rfl (Skips.on rfl rfl rfl rfl rfl hb8) rfl ?_
       refine LW.skip hL rfl (Skips.on rfl rfl rfl rfl rfl hb8) rfl ?_
       refine LW.skip hL rfl (Skips.on rfl rfl rfl rfl rfl hb8) rfl ?_
       refine LW.skip hL rfl (Skips.on rfl rfl rfl rfl rfl hb8) rfl ?_
       refine LW.skip hL rfl (Skips.on rfl rfl rfl rfl rfl hb8) rfl ?_
       refine LW.skip hL rfl (Skips.on rfl rfl rfl rfl rfl hb8) rfl ?_
       refine LW.skip hL rfl (Skips.on rfl rfl rfl rfl rfl hb8) rfl ?_
       refine LW.skip hL rfl (Skips.on rfl rfl rfl rfl rfl hb8) rfl ?_
       refine LW.rd hL rfl (Wants.on rfl rfl rfl rfl rfl hb7) rfl (Rd.pickF rfl hb8 rfl) ?_
       exact LW.sub hL (by exact ⟨rfl, rfl, rfl, rfl, rfl, rfl, rfl, trivial⟩) (K4 false w3 h)
     intro b3 w5 h_
     have h := hJ2 b3 w5 h_; clear h_
     refine LW.rd hL rfl (Wants.free rfl) rfl (Rd.pickF rfl hb7 rfl) ?_
     exact LW.sub hL (by exact ⟨rfl, rfl, rfl, rfl, rfl, rfl, trivial⟩) (K3 b3 w5 h)
   intro b2 w4 h_
   have h := hJ1 b2 w4 h_; clear h_
   refine LW.rd hL rfl (Wants.free rfl) rfl (Rd.assign (v := .bool b2) rfl) ?_
   refine LW.nil hL rfl ?_
   refine NW.then ?_
   refine CW.cond rfl (fun hb9 => ?_) (fun hb9 => ?_)
   ·replace h := h.1 hb9
    refine CW.seq ?_
    refine CW.region fun L hL => ?_
    refine LW.rd hL rfl (Wants.free rfl) rfl (Rd.assign (v := .int .i64 4) rfl) ?_
    refine LW.nil hL rfl ?_
    refine NW.then ?_
    refine CW.ret ?_
    refine RW.block ?_
    refine RW.then ?_
    exact res1 rfl rfl ⟨4, rfl, h⟩
   ·replace h := h.2 hb9
    refine CW.skip ?_
    refine NW.block ?_
    refine NW.then ?_
    refine CW.seq ?_
    refine CW.seq ?_
    refine CW.region fun L hL => ?_
    refine LW.rd hL rfl (Wants.free rfl) rfl (Rd.move (v := .pointer f1) rfl) ?_
    refine LW.rd hL rfl (Wants.free rfl) rfl (Rd.move (v := .int .u32 set1) rfl) ?_
    refine LW.call hL rfl (Wants.free rfl) rfl (Cl.fn (f := 64) rfl Tryz.func64 (by kernel_rfl) rfl) h (fun e w7 h_ => ?_)
    clear h
    obtain ⟨r5, rfl, h⟩ := h_
    refine ⟨_, rfl, ?_⟩
    refine LW.rd hL rfl (Wants.free rfl) rfl (Rd.assign (v := .int .i64 r5) rfl) ?_
    refine LW.nil hL rfl ?_
    refine NW.then ?_
    refine CW.seq ?_
    refine CW.region fun L hL => ?_
    refine LW.rd hL rfl (Wants.free rfl) rfl (Rd.move (v := .int .i64 r5) rfl) ?_
    refine LW.rd hL rfl (Wants.free rfl) rfl (Rd.bin (v := .bool (!(r5 == 0))) rfl rfl (fun w => by kernel_rfl)) ?_
    refine LW.nil hL rfl ?_
    refine NW.then ?_
    refine CW.cond rfl (fun hb10 => ?_) (fun hb10 => ?_)
    ·replace h := h.1 hb10
     refine CW.seq ?_
     refine CW.region fun L hL => ?_
     refine LW.rd hL rfl (Wants.free rfl) rfl (Rd.move (v := .int .i64 r5) rfl) ?_
     refine LW.rd hL rfl (Wants.free rfl) rfl (Rd.assign (v := .int .i64 r5) rfl) ?_
     refine LW.nil hL rfl ?_
     refine NW.then ?_
     refine CW.ret ?_
     refine RW.then ?_
     exact res1 rfl rfl ⟨r5, rfl, h⟩
    ·replace h := h.2 hb10
     refine CW.skip ?_
     refine NW.then ?_
     refine CW.seq ?_
     refine CW.seq ?_
     refine CW.region fun L hL => ?_
     refine LW.rd hL rfl (Wants.free rfl) rfl (Rd.move (v := .int .i64 n1) rfl) ?_
     refine LW.rd hL rfl (Wants.free rfl) rfl (Rd.move (v := .int .i64 0) rfl) ?_
     refine LW.nil hL rfl ?_
     refine NW.then ?_
     refine CW.block ?_
     obtain ⟨I1, m1, hI1, h⟩ := h
     refine CW.loop (S := Int) (fun s1 => [(0, .pointer f1), (3, .int .u32 set1), (5, .pointer (some (⟨b1, 0, none⟩ : Addr))), (8, .int .i64 0), (53, .int .i64 n1), (54, .int .i64 s1)]) I1 m1 0 (by exact ⟨rfl, rfl, rfl, rfl, rfl, rfl, trivial⟩) hI1 (fun s1 w8 hI1 => ?_)
     replace h := h s1 w8 hI1
     refine CW.seq ?_
     refine CW.region fun L hL => ?_
     refine LW.rd hL rfl (Wants.free rfl) rfl (Rd.bin (v := .bool (decide (s1 < n1))) rfl rfl (fun w => by kernel_rfl)) ?_
     refine LW.nil hL rfl ?_
     refine NW.then ?_
     refine CW.seq ?_
     refine CW.cond rfl (fun hb11 => ?_) (fun hb11 => ?_)
     ·replace h := h.1 hb11
      refine CW.skip ?_
      refine NW.then ?_
      refine CW.seq ?_
      refine CW.block ?_
      refine CW.seq ?_
      refine CW.region fun L hL => ?_
      refine LW.rd hL rfl (Wants.free rfl) rfl (Rd.move (v := .int .i64 s1) rfl) ?_
      refine LW.rd hL rfl (Wants.free rfl) rfl (Rd.assign (v := .int .i64 s1) rfl) ?_
      refine LW.nil hL rfl ?_
      refine NW.then ?_
      refine CW.region fun L hL => ?_
      refine LW.rd hL rfl (Wants.free rfl) rfl (Rd.move (v := .pointer f1) rfl) ?_
      refine LW.rd hL rfl (Wants.free rfl) rfl (Rd.fa (v := .pointer (some (⟨b1, 0, none⟩ : Addr))) rfl (fun _ => by kernel_rfl)) ?_
      obtain ⟨t5, hc4, h⟩ := h
      refine LW.rd hL rfl (Wants.free rfl) rfl (Rd.ld (v := .int .i64 t5) rfl (by kernel_rfl) (eqs hc4)) ?_
      refine LW.rd hL rfl (Wants.free rfl) rfl (Rd.fa (v := .pointer (some (⟨b1, 1, none⟩ : Addr))) rfl (fun _ => by kernel_rfl)) ?_
      obtain ⟨t6, hc5, h⟩ := h
      refine LW.rd hL rfl (Wants.free rfl) rfl (Rd.ld (v := .int .i64 t6) rfl (by kernel_rfl) (eqs hc5)) ?_
      refine LW.rd hL rfl (Wants.free rfl) rfl (Rd.move (v := .int .i64 s1) rfl) ?_
      refine LW.rd hL rfl (Wants.free rfl) rfl (Rd.bin (v := .int .i64 (IntKind.wrap .i64 (t6 + s1))) rfl rfl (fun w => by kernel_rfl)) ?_
      refine LW.rd hL rfl (Wants.free rfl) rfl (Rd.build (v := .agg #[.int .i64 t5, .int .i64 (IntKind.wrap .i64 (t6 + s1))]) rfl (fun _ => by kernel_rfl)) ?_
      refine LW.rd hL rfl (Wants.free rfl) rfl (Rd.move (v := .int .u32 set1) rfl) ?_
      refine LW.call hL rfl (Wants.free rfl) rfl (Cl.fn (f := 65) rfl Tryz.func65 (by kernel_rfl) rfl) h (fun e w9 h_ => ?_)
      clear h
      obtain ⟨rfl, h⟩ := h_
      refine ⟨_, rfl, ?_⟩
      refine LW.nil hL rfl ?_
      refine NW.block ?_
      refine NW.then ?_
      refine CW.region fun L hL => ?_
      refine LW.rd hL rfl (Wants.free rfl) rfl (Rd.bin (v := .int .i64 (IntKind.wrap .i64 (s1 + 1))) rfl rfl (fun w => by kernel_rfl)) ?_
      refine LW.rd hL rfl (Wants.free rfl) rfl (Rd.move (v := .int .i64 (IntKind.wrap .i64 (s1 + 1))) rfl) ?_
      refine LW.nil hL rfl ?_
      exact NW.loop (S := Int) (Ek := fun s1 => [(0, .pointer f1), (3, .int .u32 set1), (5, .pointer (some (⟨b1, 0, none⟩ : Addr))), (8, .int .i64 0), (53, .int .i64 n1), (54, .int .i64 s1)]) (IntKind.wrap .i64 (s1 + 1)) (by exact ⟨rfl, rfl, rfl, rfl, rfl, rfl, trivial⟩) h
     ·replace h := h.2 hb11
      refine CW.exit ?_
      refine XW.then ?_
      refine XW.then ?_
      refine XW.hit ?_
      refine NW.then ?_
      refine CW.seq ?_
      refine CW.region fun L hL => ?_
      refine LW.rd hL rfl (Wants.free rfl) rfl (Rd.assign (v := .int .i64 0) rfl) ?_
      refine LW.nil hL rfl ?_
      refine NW.then ?_
      refine CW.ret ?_
      exact res1 rfl rfl ⟨0, rfl, h⟩
end Go.Proofs.YtfcfkhbkkfpehaaGreat
end
section
/- Flows: get, put, keep, Mark, New. -/
namespace Go.Proofs.YtfcfkhbkkfpehaaGreat
open Go Go.RowKit Go.X
def i64s (n : Int) : Prop := -9223372036854775808 ≤ n ∧ n ≤ 9223372036854775807
theorem nd_swap {A B B' C : List Nat} {n : Nat} (h : (A ++ (B ++ C)).Nodup) (hB' : B'.Nodup) (hs : ∀ i ∈ B', i ∈ B ∨ n ≤ i) (hA : ∀ i ∈ A, i < n) (hC : ∀ i ∈ C, i < n) : (A ++ (B' ++ C)).Nodup := by
 rw [List.nodup_append] at h ⊢
 obtain ⟨h1, h2, h3⟩ := h
 rw [List.nodup_append] at h2
 obtain ⟨h4, h5, h6⟩ := h2
 refine ⟨h1, ?_, ?_⟩
 ·rw [List.nodup_append]
  refine ⟨hB', h5, fun a ha c hc e => ?_⟩
  rcases hs a ha with h | h
  ·exact h6 a h c hc e
  ·have := hC c hc; omega
 ·intro a ha c hc e
  rcases List.mem_append.1 hc with hc | hc
  ·rcases hs c hc with h | h
   ·exact h3 a ha c (List.mem_append.2 (.inl h)) e
   ·have := hA a ha; omega
  ·exact h3 a ha c (List.mem_append.2 (.inr hc)) e
theorem flow_get {w : World} {b : Nat} {F : Fl} {fp : List Nat} (h : FlowAt w b F fp) {p1 p2 : Int} (hp : i64s p2) :
  Calls Tryz.prog 73 #[.pointer (some ⟨b, 0, none⟩), .agg #[.int .i64 p1, .int .i64 p2]] w fun e w' => ∃ r : Int, e = .returned (.int .u32 r) ∧ (r = F.g (p1, p2) ∧ Chg [] w w') := by
 obtain ⟨T, m, d, r, l, fpT, fpm, fpd, gm, gd, h1, h2, h3, h4, h5, h6, h7, h8, h9, rfl⟩ := h.there
 refine ok_flow_Flow_get _ _ _ _ _ ?_
 unfold V_flow_Flow_get
 refine v_alloc fun b1 w1 e1 hb1 c1 => ?_
 refine ⟨p1, by rw [cell_of hb1]; rfl, fun hk => ?_, fun hk => ⟨fun hk2 => ?_, fun hk2 => ?_⟩⟩
 ·have hk' : p1 = 10 := by simpa using hk
  subst hk'
  refine v_drew fun w2 c2 => ?_
  have c02 := c1.trans0 c2
  refine ⟨_, rfl, _, by rw [add_at, cell_of (c02.obj (by simp) h1)]; rfl, p2, by rw [cell_of (c2.obj (by simp) hb1)]; rfl, ?_⟩
  refine (shadow_getp (h3.chg c02 (by simp)) hp).mono ?_
  rintro _ w3 ⟨r1, r2, rfl, c3, rfl, _⟩
  exact ⟨_, _, rfl, (h6 p2).symm, c02.trans0 c3⟩
 ·have hk' : p1 = 12 := by simpa using hk2
  subst hk'
  refine v_drew fun w2 c2 => ?_
  have c02 := c1.trans0 c2
  refine ⟨_, rfl, _, by rw [add_at, cell_of (c02.obj (by simp) h1)]; rfl, p2, by rw [cell_of (c2.obj (by simp) hb1)]; rfl, ?_⟩
  refine (shadow_getp (h4.chg c02 (by simp)) hp).mono ?_
  rintro _ w3 ⟨r1, r2, rfl, c3, rfl, _⟩
  exact ⟨_, _, rfl, (h7 p2).symm, c02.trans0 c3⟩
 ·have hk' : p1 ≠ 10 := by simpa using hk
  have hk2' : p1 ≠ 12 := by simpa using hk2
  refine v_drew fun w2 c2 => ?_
  have c02 := c1.trans0 c2
  refine ⟨_, rfl, _, by rw [add_at, cell_of (c02.obj (by simp) h1)]; rfl, p1, p2, cellsAt_of (c2.obj (by simp) hb1), ?_⟩
  have hl := (h5.chg c02 (by simp)).lookup (P := Tryz.prog) (T := 99) u143 keyPlace zero22 (p1, p2) false
  refine ⟨F.g (p1, p2), ?_, rfl, c02⟩
  rw [h8 _ hk' hk2']
  rw [show (Value.agg #[.int .i64 p1, .int .i64 p2]) = encP (p1, p2) from rfl, hl]
  cases lookK (p1, p2) l <;> rfl
def putP (g : Int × Int → Int) (p : Int × Int) (set : Int) : Int × Int → Int := fun q => if q = p then set else g q
theorem flow_put {w : World} {b : Nat} {F : Fl} {fp : List Nat} (h : FlowAt w b F fp) {p1 p2 set : Int} (hm : mayP F.fr F.se (p1, p2)) (hs0 : 0 ≤ set) (hs1 : set < 65536) :
  Calls Tryz.prog 65 #[.pointer (some ⟨b, 0, none⟩), .agg #[.int .i64 p1, .int .i64 p2], .int .u32 set] w fun e w' => e = .returned (.tuple #[]) ∧
   (∃ fp', FlowAt w' b { F with g := putP F.g (p1, p2) set } fp' ∧ Chg fp w w' ∧ ∀ i ∈ fp', i ∈ fp ∨ w.heap.size ≤ i) := by
 have hlt := h.lt
 have hnd := h.nodup
 have hw := h.wide
 obtain ⟨T, m, d, r, l, fpT, fpm, fpd, gm, gd, h1, h2, h3, h4, h5, h6, h7, h8, h9, rfl⟩ := h.there
 have hm' := hm
 unfold mayP boundP at hm'
 simp only [] at hm'
 have hnd0 := hnd
 simp only [List.nodup_cons, List.mem_cons, List.mem_append, not_or, List.nodup_append] at hnd
 obtain ⟨⟨nbr, nbT, nbm, nbd⟩, ⟨nrT, nrm, nrd⟩, ndT, ⟨ndm, ndd, nmd⟩, nTmd⟩ := hnd
 have hcase : ∀ {w1 : World}, Chg [] w w1 → w1.heap[b]? = some (.cells #[.int .i64 F.fr, .int .i64 F.se, .pointer (some ⟨T, 0, none⟩), .pointer (some ⟨m, 0, none⟩), .pointer (some ⟨d, 0, none⟩), .map (some r)] 101 (0, 0)) := fun c => c.obj (by simp) h1
 refine ok_flow_Flow_put _ _ _ _ _ _ ?_
 unfold V_flow_Flow_put
 refine v_alloc fun b1 w1 e1 hb1 c1 => ?_
 refine ⟨p1, by rw [cell_of hb1]; rfl, fun hk => ?_, fun hk => ⟨p1, by rw [cell_of hb1]; rfl, fun hk2 => ?_, fun hk2 => ?_⟩⟩
 ·have hk' : p1 = 10 := by simpa using hk
  subst hk'
  simp at hm'
  refine v_drew fun w2 c2 => ?_
  have c02 := c1.trans0 c2
  refine ⟨_, rfl, _, by rw [add_at, cell_of (hcase c02)]; rfl, p2, by rw [cell_of (c2.obj (by simp) hb1)]; rfl, ?_⟩
  refine (shadow_setp (h3.chg c02 (by simp)) ⟨by omega, by omega⟩ hs0).mono ?_
  rintro _ w3 ⟨r1, rfl, hr⟩
  rw [if_neg (by omega), if_pos (by omega)] at hr
  obtain ⟨rfl, fpm', hS, c3, hf⟩ := hr
  have c03 : Chg fpm w w3 := c02.nil.trans c3 (fun _ h _ => h)
  have hf' : ∀ i ∈ fpm', i ∈ fpm ∨ w.heap.size ≤ i := fun i hi => (hf i hi).imp id (fun h => Nat.le_trans c02.size h)
  refine ⟨_, rfl, b :: r :: (fpT ++ (fpm' ++ fpd)), ⟨⟨T, m, d, r, l, fpT, fpm', fpd, putG gm p2 set, gd, c03.obj nbm h1, h2.chg c03 (fun i hi hm => nTmd i hi i (.inl hm) rfl), hS, h4.chg c03 (fun i hi hm => nmd i hm i hi rfl), h5.chg c03 nrm, ?_, ?_, ?_, h9, rfl⟩, ?_⟩, ?_, ?_⟩
  ·intro n; simp only [putP, putG]
   by_cases e : n = p2 <;> simp [e, h6]
  ·intro n; simp [putP, h7]
  ·intro p hp1 hp2; simp only [putP]
   rw [if_neg (by intro e; rw [e] at hp1; exact hp1 rfl)]; exact h8 p hp1 hp2
  ·have := nd_swap (A := b :: r :: fpT) (B := fpm) (B' := fpm') (C := fpd) (n := w.heap.size) (by simpa using hnd0) hS.nodup hf' (fun i hi => hlt i (by simp at hi ⊢; rcases hi with h | h | h <;> simp [h])) (fun i hi => hlt i (by simp [hi]))
   simpa using this
  ·exact c03.mono (fun i hi _ => by simp [hi])
  ·intro i hi
   simp only [List.mem_cons, List.mem_append] at hi ⊢
   rcases hi with h | h | h | h | h
   ·simp [h]
   ·simp [h]
   ·simp [h]
   ·rcases hf' i h with h | h <;> simp [h]
   ·simp [h]
 ·have hk' : p1 = 12 := by simpa using hk2
  subst hk'
  simp at hm'
  refine v_drew fun w2 c2 => ?_
  have c02 := c1.trans0 c2
  refine ⟨_, rfl, _, by rw [add_at, cell_of (hcase c02)]; rfl, p2, by rw [cell_of (c2.obj (by simp) hb1)]; rfl, ?_⟩
  refine (shadow_setp (h4.chg c02 (by simp)) ⟨by omega, by omega⟩ hs0).mono ?_
  rintro _ w3 ⟨r1, rfl, hr⟩
  rw [if_neg (by omega), if_pos (by omega)] at hr
  obtain ⟨rfl, fpd', hS, c3, hf⟩ := hr
  have c03 : Chg fpd w w3 := c02.nil.trans c3 (fun _ h _ => h)
  have hf' : ∀ i ∈ fpd', i ∈ fpd ∨ w.heap.size ≤ i := fun i hi => (hf i hi).imp id (fun h => Nat.le_trans c02.size h)
  refine ⟨_, rfl, b :: r :: (fpT ++ (fpm ++ fpd')), ⟨⟨T, m, d, r, l, fpT, fpm, fpd', gm, putG gd p2 set, c03.obj nbd h1, h2.chg c03 (fun i hi hm => nTmd i hi i (.inr hm) rfl), h3.chg c03 (fun i hi hm => nmd i hi i hm rfl), hS, h5.chg c03 nrd, ?_, ?_, ?_, h9, rfl⟩, ?_⟩, ?_, ?_⟩
  ·intro n; simp [putP, h6]
  ·intro n; simp only [putP, putG]
   by_cases e : n = p2 <;> simp [e, h7]
  ·intro p hp1 hp2; simp only [putP]
   rw [if_neg (by intro e; rw [e] at hp2; exact hp2 rfl)]; exact h8 p hp1 hp2
  ·have := nd_swap (A := b :: r :: (fpT ++ fpm)) (B := fpd) (B' := fpd') (C := []) (n := w.heap.size) (by simpa using hnd0) hS.nodup hf' (fun i hi => hlt i (by simp at hi ⊢; rcases hi with h | h | h | h <;> simp [h])) (by simp)
   simpa using this
  ·exact c03.mono (fun i hi _ => by simp [hi])
  ·intro i hi
   simp only [List.mem_cons, List.mem_append] at hi ⊢
   rcases hi with h | h | h | h | h
   ·simp [h]
   ·simp [h]
   ·simp [h]
   ·simp [h]
   ·rcases hf' i h with h | h <;> simp [h]
 ·have hk' : p1 ≠ 10 := by simpa using hk
  have hk2' : p1 ≠ 12 := by simpa using hk2
  refine ⟨fun hz => ?_, fun hz => ?_⟩
  ·have hz' : set = 0 := by simpa using hz
   subst hz'
   refine v_drew fun w2 c2 => ?_
   have c02 := c1.trans0 c2
   obtain ⟨w3, hd, c3, _, hm3⟩ := (h5.chg c02 (by simp)).delete (P := Tryz.prog) (T := 99) u143 keyPlace (p1, p2) (ty := 0)
   have c03 : Chg [r] w w3 := c02.nil.trans c3 (fun _ h _ => h)
   refine ⟨_, rfl, _, by rw [add_at, cell_of (hcase c02)]; rfl, p1, p2, cellsAt_of (c2.obj (by simp) hb1), w3, hd, ?_⟩
   refine ⟨b :: r :: (fpT ++ (fpm ++ fpd)), ⟨⟨T, m, d, r, _, fpT, fpm, fpd, gm, gd, c03.obj (by simpa using nbr) h1, h2.chg c03 (fun i hi hm => nrT (by simp at hm; exact hm ▸ hi)), h3.chg c03 (fun i hi hm => nrm (by simp at hm; exact hm ▸ hi)), h4.chg c03 (fun i hi hm => nrd (by simp at hm; exact hm ▸ hi)), hm3, ?_, ?_, ?_, ?_, rfl⟩, hnd0⟩, ?_, fun i hi => .inl hi⟩
   ·intro n; simp only [putP]; rw [if_neg (by intro e; exact hk' (congrArg Prod.fst e).symm)]; exact h6 n
   ·intro n; simp only [putP]; rw [if_neg (by intro e; exact hk2' (congrArg Prod.fst e).symm)]; exact h7 n
   ·intro p hp1 hp2; simp only [putP]
    simp only [lookK_del]
    by_cases e : p = (p1, p2)
    ·simp [e]
    ·simp [e, h8 p hp1 hp2]
   ·intro x hx; exact h9 x (List.mem_filter.1 hx).1
   ·exact c03.mono (by simp)
  ·have hz' : set ≠ 0 := by simpa using hz
   refine v_drew fun w2 c2 => ?_
   have c02 := c1.trans0 c2
   obtain ⟨w3, hd, c3, _, hm3⟩ := (h5.chg c02 (by simp)).update (P := Tryz.prog) (T := 99) u143 keyPlace (p1, p2) set
   have c03 : Chg [r] w w3 := c02.nil.trans c3 (fun _ h _ => h)
   refine ⟨_, rfl, _, by rw [add_at, cell_of (hcase c02)]; rfl, p1, p2, cellsAt_of (c2.obj (by simp) hb1), w3, hd, ?_⟩
   refine ⟨b :: r :: (fpT ++ (fpm ++ fpd)), ⟨⟨T, m, d, r, _, fpT, fpm, fpd, gm, gd, c03.obj (by simpa using nbr) h1, h2.chg c03 (fun i hi hm => nrT (by simp at hm; exact hm ▸ hi)), h3.chg c03 (fun i hi hm => nrm (by simp at hm; exact hm ▸ hi)), h4.chg c03 (fun i hi hm => nrd (by simp at hm; exact hm ▸ hi)), hm3, ?_, ?_, ?_, ?_, rfl⟩, hnd0⟩, ?_, fun i hi => .inl hi⟩
   ·intro n; simp only [putP]; rw [if_neg (by intro e; exact hk' (congrArg Prod.fst e).symm)]; exact h6 n
   ·intro n; simp only [putP]; rw [if_neg (by intro e; exact hk2' (congrArg Prod.fst e).symm)]; exact h7 n
   ·intro p hp1 hp2; simp only [putP]
    simp only [lookK_upd]
    by_cases e : p = (p1, p2)
    ·simp [e]
    ·simp [e, h8 p hp1 hp2]
   ·intro x hx
    unfold upd at hx
    split at hx
    ·obtain ⟨y, hy, rfl⟩ := List.mem_map.1 hx
     by_cases e : y.1 = (p1, p2)
     ·rw [if_pos e]; exact ⟨hk', hk2', hm, by show 0 < set; omega, hs1⟩
     ·rw [if_neg e]; exact h9 y hy
    ·rcases List.mem_append.1 hx with hx | hx
     ·exact h9 x hx
     ·simp at hx; subst hx; exact ⟨hk', hk2', hm, by show 0 < set; omega, hs1⟩
   ·exact c03.mono (by simp)
theorem flow_keep {w : World} {b : Nat} {F : Fl} {fp : List Nat} (h : FlowAt w b F fp) {set : Int} (hs0 : 0 ≤ set) :
  Calls Tryz.prog 64 #[.pointer (some ⟨b, 0, none⟩), .int .u32 set] w fun e w' => ∃ r : Int, e = .returned (.int .i64 r) ∧
   (r = keepE F.most F.sets set ∧ ∃ fp', FlowAt w' b { F with sets := keepS F.most F.sets set } fp' ∧ Chg fp w w' ∧ ∀ i ∈ fp', i ∈ fp ∨ w.heap.size ≤ i) := by
 have hlt := h.lt
 have hnd := h.nodup
 obtain ⟨T, m, d, r, l, fpT, fpm, fpd, gm, gd, h1, h2, h3, h4, h5, h6, h7, h8, h9, rfl⟩ := h.there
 have hnd0 := hnd
 simp only [List.nodup_cons, List.mem_cons, List.mem_append, not_or, List.nodup_append] at hnd
 obtain ⟨⟨nbr, nbT, nbm, nbd⟩, ⟨nrT, nrm, nrd⟩, ndT, ⟨ndm, ndd, nmd⟩, nTmd⟩ := hnd
 refine ok_flow_Flow_keep _ _ _ _ ?_
 unfold V_flow_Flow_keep
 refine ⟨_, rfl, _, by rw [add_at, cell_of h1]; rfl, ?_⟩
 refine (table_keep h2 hs0).mono ?_
 rintro _ w3 ⟨r1, r2, rfl, rfl, fpT', hT, c3, hf⟩
 refine ⟨_, _, rfl, rfl, b :: r :: (fpT' ++ (fpm ++ fpd)), ⟨⟨T, m, d, r, l, fpT', fpm, fpd, gm, gd, c3.obj nbT h1, hT, h3.chg c3 (fun i hi hm => nTmd i hm i (.inl hi) rfl), h4.chg c3 (fun i hi hm => nTmd i hm i (.inr hi) rfl), h5.chg c3 nrT, h6, h7, h8, h9, rfl⟩, ?_⟩, ?_, ?_⟩
 ·have := nd_swap (A := [b, r]) (B := fpT) (B' := fpT') (C := fpm ++ fpd) (n := w.heap.size) (by simpa using hnd0) hT.nodup hf (fun i hi => hlt i (by simp at hi ⊢; rcases hi with h | h <;> simp [h])) (fun i hi => hlt i (by simp at hi ⊢; rcases hi with h | h <;> simp [h]))
  simpa using this
 ·exact c3.mono (fun i hi _ => by simp [hi])
 ·intro i hi
  simp only [List.mem_cons, List.mem_append] at hi ⊢
  rcases hi with h | h | h | h | h
  ·simp [h]
  ·simp [h]
  ·rcases hf i h with h | h <;> simp [h]
  ·simp [h]
  ·simp [h]
def flowNew (fr se most : Int) : Fl := ⟨fr, se, most, [0], fun _ => 0⟩
def rightP (fr se most : Int) : Prop := 1 ≤ fr ∧ fr ≤ 32 ∧ 1 ≤ se ∧ se ≤ 32 ∧ 1 ≤ most ∧ most ≤ 65536
instance (fr se most : Int) : Decidable (rightP fr se most) := by unfold rightP; exact inferInstance
theorem flow_new (w : World) (fr se most : Int) :
  Calls Tryz.prog 26 #[.agg #[.int .i64 fr, .int .i64 se], .int .i64 most] w fun e w' => ∃ (r1 : Option Addr) (r2 : Int), e = .returned (.tuple #[.pointer r1, .int .i64 r2]) ∧
   (Chg [] w w' ∧ if rightP fr se most then r2 = 0 ∧ ∃ b fp, r1 = some ⟨b, 0, none⟩ ∧ FlowAt w' b (flowNew fr se most) fp ∧ ∀ i ∈ fp, w.heap.size ≤ i else r1 = none ∧ r2 = 2) := by
 refine ok_flow_New _ _ _ _ _ ?_
 unfold V_flow_New
 refine v_alloc fun b1 w1 e1 hb1 c1 => ?_
 refine (table_new w1 most).mono ?_
 rintro _ w2 ⟨r3, r4, rfl, c2, ht⟩
 have hb2 := c2.obj (by simp) hb1
 refine ⟨_, _, rfl, fr, by rw [cell_of hb2]; rfl, ?_⟩
 refine (shadow_new w2 fr).mono ?_
 rintro _ w3 ⟨r5, r6, rfl, c3, hm⟩
 have hb3 := c3.obj (by simp) hb2
 refine ⟨_, _, rfl, se, by rw [cell_of hb3]; rfl, ?_⟩
 refine (shadow_new w3 se).mono ?_
 rintro _ w4 ⟨r7, r8, rfl, c4, hd⟩
 have hb4 := c4.obj (by simp) hb3
 have c04 : Chg [] w w4 := ((c1.trans0 c2).trans0 c3).trans0 c4
 refine ⟨_, _, rfl, fun hbad => ?_, fun hgood => ?_⟩
 ·refine ⟨c04, ?_⟩
  rw [if_neg]
  ·exact ⟨rfl, rfl⟩
  ·rintro ⟨k1, k2, k3, k4, k5, k6⟩
   rw [if_pos ⟨k5, k6⟩] at ht
   rw [if_pos ⟨k1, k2⟩] at hm
   rw [if_pos ⟨k3, k4⟩] at hd
   simp [ht.1, hm.1, hd.1] at hbad
 simp at hgood
 by_cases k1 : 1 ≤ most ∧ most ≤ 65536
 case neg => rw [if_neg k1] at ht; omega
 by_cases k2 : 1 ≤ fr ∧ fr ≤ 32
 case neg => rw [if_neg k2] at hm; omega
 by_cases k3 : 1 ≤ se ∧ se ≤ 32
 case neg => rw [if_neg k3] at hd; omega
 rw [if_pos k1] at ht
 rw [if_pos k2] at hm
 rw [if_pos k3] at hd
 obtain ⟨rfl, T, fpT, rfl, hT, fT⟩ := ht
 obtain ⟨rfl, m, fpm, rfl, hM, fM⟩ := hm
 obtain ⟨rfl, d, fpd, rfl, hD, fD⟩ := hd
 refine ⟨fr, se, cellsAt_of hb4, ?_⟩
 refine v_alloc fun b2 w5 e5 h5 c5 => ?_
 refine v_alloc fun b3 w6 e6 h6 c6 => ?_
 have c06 := (c04.trans0 c5).trans0 c6
 have l5 : b2 < w5.heap.size := lt_of_heap h5
 have s1 := c1.size
 have s2 := c2.size
 have s3 := c3.size
 have s4 := c4.size
 have s5 := c5.size
 have lT := hT.lt
 have lM := hM.lt
 have lD := hD.lt
 refine ⟨c06, ?_⟩
 rw [if_pos ⟨k2.1, k2.2, k3.1, k3.2, k1.1, k1.2⟩]
 have hmap : MapIs w5 b2 encP (fun n : Int => .int .u32 n) [] := ⟨#[], 0, h5, rfl, by simp, by simp, by simp⟩
 have c26 := ((c3.trans0 c4).trans0 c5).trans0 c6
 have c36 := (c4.trans0 c5).trans0 c6
 have c46 := c5.trans0 c6
 refine ⟨rfl, b3, b3 :: b2 :: (fpT ++ (fpm ++ fpd)), rfl, ⟨⟨T, m, d, b2, [], fpT, fpm, fpd, fun _ => 0, fun _ => 0, h6, hT.chg c26 (by simp), hM.chg c36 (by simp), hD.chg c46 (by simp), hmap.chg c6 (by simp), fun _ => rfl, fun _ => rfl, fun _ _ _ => rfl, by simp, rfl⟩, ?_⟩, ?_⟩
 ·simp only [List.nodup_cons, List.mem_cons, List.mem_append, not_or, List.nodup_append]
  refine ⟨⟨by omega, fun h => ?_, fun h => ?_, fun h => ?_⟩, ⟨fun h => ?_, fun h => ?_, fun h => ?_⟩, hT.nodup, ⟨hM.nodup, hD.nodup, fun a ha c hc e => ?_⟩, fun a ha c hc e => ?_⟩
  ·have := lT _ h; omega
  ·have := lM _ h; omega
  ·have := lD _ h; omega
  ·have := lT _ h; omega
  ·have := lM _ h; omega
  ·have := lD _ h; omega
  ·have := lM _ ha; have := fD _ hc; omega
  ·have := lT _ ha
   rcases hc with hc | hc
   ·have := fM _ hc; omega
   ·have := fD _ hc; omega
 ·intro i hi
  simp only [List.mem_cons, List.mem_append] at hi
  rcases hi with h | h | h | h | h
  ·omega
  ·omega
  ·have := fT i h; omega
  ·have := fM i h; omega
  ·have := fD i h; omega
end Go.Proofs.YtfcfkhbkkfpehaaGreat
end
section
/- Flows: Mark, Get, together, right, Decides; places and touches that lie somewhere. -/
namespace Go.Proofs.YtfcfkhbkkfpehaaGreat
open Go Go.RowKit Go.X
def fillP (g : Int × Int → Int) (p : Int × Int) (set : Int) : Nat → Int × Int → Int
 | 0 => g
 | n + 1 => putP (fillP g p set n) (p.1, p.2 + n) set
def markE (F : Fl) (p : Int × Int) (n set : Int) : Int :=
 if ¬ mayP F.fr F.se p ∨ 65536 ≤ set then 2 else if n < 0 ∨ 65536 < n ∨ (0 < n ∧ ¬ mayP F.fr F.se (p.1, p.2 + n - 1)) then 4 else keepE F.most F.sets set
def markF (F : Fl) (p : Int × Int) (n set : Int) : Fl := if markE F p n set = 0 then { F with sets := keepS F.most F.sets set, g := fillP F.g p set n.toNat } else F
theorem keepS_bad {most : Int} {sets : List Int} {set : Int} (h : keepE most sets set ≠ 0) : keepS most sets set = sets := by
 unfold keepE at h; unfold keepS
 split at h
 ·rename_i h1; rw [if_pos (.inl h1)]
 split at h
 ·simp at h
 split at h
 ·rename_i h1; rw [if_pos (.inr (.inr h1))]
 ·simp at h
theorem grow_trans {fp fp' fp'' : List Nat} {w w' w'' : World} (c : Chg fp w w') (f : ∀ i ∈ fp', i ∈ fp ∨ w.heap.size ≤ i) (c' : Chg fp' w' w'') (f' : ∀ i ∈ fp'', i ∈ fp' ∨ w'.heap.size ≤ i) :
  Chg fp w w'' ∧ ∀ i ∈ fp'', i ∈ fp ∨ w.heap.size ≤ i :=
 ⟨c.trans c' (fun i hi hlt => (f i hi).resolve_right (by omega)), fun i hi => by
  rcases f' i hi with h | h
  ·exact f i h
  ·exact .inr (Nat.le_trans c.size h)⟩
theorem flow_mark {w : World} {b : Nat} {F : Fl} {fp : List Nat} (h : FlowAt w b F fp) {p1 p2 n set : Int} (hp : i64s p2) (hs0 : 0 ≤ set) :
  Calls Tryz.prog 31 #[.pointer (some ⟨b, 0, none⟩), .agg #[.int .i64 p1, .int .i64 p2], .int .i64 n, .int .u32 set] w fun e w' => ∃ r : Int, e = .returned (.int .i64 r) ∧
   (r = markE F (p1, p2) n set ∧ ∃ fp', FlowAt w' b (markF F (p1, p2) n set) fp' ∧ Chg fp w w' ∧ ∀ i ∈ fp', i ∈ fp ∨ w.heap.size ≤ i) := by
 have hwide := h.wide
 refine ok_flow_Flow_Mark _ _ _ _ _ _ _ ?_
 unfold V_flow_Flow_Mark
 refine v_alloc fun b1 w1 e1 hb1 c1 => ?_
 refine (flow_none (h.chg c1 (by simp))).mono ?_
 rintro _ w2 ⟨_, rfl, rfl, hw⟩
 subst w2
 refine ⟨_, rfl, fun h => by simp at h, fun _ => ⟨p1, p2, cellsAt_of hb1, ?_⟩⟩
 refine (flow_may (h.chg c1 (by simp)) p1 p2).mono ?_
 rintro _ w3 ⟨_, rfl, rfl, c3⟩
 have c03 := c1.trans0 c3
 have hb3 := c3.obj (by simp) hb1
 refine ⟨_, rfl, fun hbad => ?_, fun hgood => ?_⟩
 ·have hb : ¬ mayP F.fr F.se (p1, p2) ∨ 65536 ≤ set := by simpa using hbad
  have hE : markE F (p1, p2) n set = 2 := by unfold markE; rw [if_pos hb]
  exact ⟨hE.symm, fp, by unfold markF; rw [if_neg (by omega)]; exact h.chg c03 (by simp), c03.nil, fun i hi => .inl hi⟩
 have hg : mayP F.fr F.se (p1, p2) ∧ set < 65536 := by simpa using hgood
 have hm := hg.1
 unfold mayP boundP at hm
 simp only [] at hm
 have hp2 : 0 ≤ p2 ∧ p2 < 2147483648 := by
  refine ⟨hm.2.2.1, ?_⟩
  have := hm.2.2.2
  split at this
  ·omega
  split at this
  ·omega
  split at this
  ·omega
  split at this
  ·omega
  split at this
  ·omega
  split at this <;> omega
 have hnot : ¬ (¬ mayP F.fr F.se (p1, p2) ∨ 65536 ≤ set) := by
  rintro (h | h)
  ·exact h hg.1
  ·omega
 refine ⟨fun b2 w4 => Chg [] w w4 ∧ w4.heap[b1]? = some (.cells #[.int .i64 p1, .int .i64 p2] 62 (0, 0)) ∧ b2 = decide (n < 0 ∨ 65536 < n ∨ (0 < n ∧ ¬ mayP F.fr F.se (p1, p2 + n - 1))), ?_, fun hn => ?_, fun hn => ?_⟩
 rotate_left
 ·have hn' : 0 ≤ n ∧ n ≤ 65536 := by simpa using hn
  refine ⟨_, fun b3 w5 h => h, fun hpos => ?_, fun hpos => ?_⟩
  ·have hpos' : 0 < n := by simpa using hpos
   refine ⟨p1, by rw [cell_of hb3]; rfl, p2, by rw [cell_of hb3]; rfl, ?_⟩
   rw [wr (n := p2 + n) (by omega) (by omega), wr (by omega) (by omega)]
   refine (flow_may (h.chg c03 (by simp)) p1 (p2 + n - 1)).mono ?_
   rintro _ w6 ⟨_, rfl, rfl, c6⟩
   refine ⟨_, rfl, c03.trans0 c6, c6.obj (by simp) hb3, ?_⟩
   rw [← decide_not]
   exact decide_eq_decide.2 ⟨fun h => .inr (.inr ⟨hpos', h⟩), fun h => by
    rcases h with h | h | h
    ·omega
    ·omega
    ·exact h.2⟩
  ·have hpos' : ¬ 0 < n := by simpa using hpos
   refine ⟨c03, hb3, ?_⟩
   symm; rw [decide_eq_false_iff_not]; omega
 ·have hn' : n < 0 ∨ 65536 < n := by simpa using hn
  refine ⟨c03, hb3, ?_⟩
  symm; rw [decide_eq_true_eq]; omega
 rintro b2 w4 ⟨c04, hb4, rfl⟩
 refine ⟨fun hbad => ?_, fun hok => ?_⟩
 ·rw [decide_eq_true_eq] at hbad
  have hE : markE F (p1, p2) n set = 4 := by unfold markE; rw [if_neg hnot, if_pos hbad]
  exact ⟨hE.symm, fp, by unfold markF; rw [if_neg (by omega)]; exact h.chg c04 (by simp), c04.nil, fun i hi => .inl hi⟩
 rw [decide_eq_false_iff_not] at hok
 have hE : markE F (p1, p2) n set = keepE F.most F.sets set := by unfold markE; rw [if_neg hnot, if_neg hok]
 refine (flow_keep (h.chg c04 (by simp)) hs0).mono ?_
 rintro _ w7 ⟨r5, rfl, rfl, fp', hF, c7, hf⟩
 obtain ⟨c07, hf07⟩ := grow_trans (fp := fp) (fp' := fp) c04.nil (fun i hi => .inl hi) c7 hf
 have hlt := h.lt
 have hb7 : w7.heap[b1]? = some (.cells #[.int .i64 p1, .int .i64 p2] 62 (0, 0)) := c7.obj (fun hm => by have := hlt _ hm; omega) hb4
 refine ⟨_, rfl, fun hbad => ?_, fun hz => ?_⟩
 ·have hbad' : keepE F.most F.sets set ≠ 0 := by simpa using hbad
  refine ⟨hE.symm, fp', ?_, c07, hf07⟩
  unfold markF; rw [if_neg (by rw [hE]; exact hbad')]
  rw [keepS_bad hbad'] at hF; exact hF
 have hz' : keepE F.most F.sets set = 0 := by simpa using hz
 have hn0 : 0 ≤ n ∧ n ≤ 65536 := by omega
 refine ⟨fun s w' => ∃ i : Nat, s = (i : Int) ∧ (i : Int) ≤ n ∧ w'.heap[b1]? = some (.cells #[.int .i64 p1, .int .i64 p2] 62 (0, 0)) ∧ ∃ fp', FlowAt w' b { F with sets := keepS F.most F.sets set, g := fillP F.g (p1, p2) set i } fp' ∧ Chg fp w w' ∧ ∀ i ∈ fp', i ∈ fp ∨ w.heap.size ≤ i ∧ i ≠ b1,
  fun s _ => (n - s).toNat, ⟨0, rfl, by omega, hb7, fp', hF, c07, fun i hi => ?_⟩, ?_⟩
 ·rcases hf i hi with h | h
  ·exact .inl h
  ·exact .inr ⟨Nat.le_trans c04.size h, fun e => by have := lt_of_heap hb4; omega⟩
 rintro _ w8 ⟨i, rfl, hi, hb8, fp8, hF8, c8, hf8⟩
 refine ⟨fun hlt8 => ?_, fun hge => ?_⟩
 ·have hlt' : (i : Int) < n := by simpa using hlt8
  refine ⟨p1, by rw [cell_of hb8]; rfl, p2, by rw [cell_of hb8]; rfl, ?_⟩
  rw [wr (n := p2 + i) (by omega) (by omega)]
  have hmi : mayP F.fr F.se (p1, p2 + i) := by
   have h1 : mayP F.fr F.se (p1, p2 + n - 1) := Classical.byContradiction fun h => hok (.inr (.inr ⟨by omega, h⟩))
   unfold mayP at h1 hg ⊢
   simp only [] at h1 hg ⊢
   omega
  refine (flow_put hF8 hmi hs0 hg.2).mono ?_
  rintro _ w9 ⟨rfl, fp9, hF9, c9, hf9⟩
  rw [wr (by omega) (by omega)]
  refine ⟨rfl, ⟨i + 1, by omega, by omega, c9.obj (fun hm => ?_) hb8, fp9, hF9, ?_, ?_⟩, by simp only []; omega⟩
  ·rcases hf8 _ hm with h | h
   ·have := hlt _ h; omega
   ·exact h.2 rfl
  ·exact c8.trans c9 (fun j hj hl => (hf8 j hj).resolve_right (fun h => by omega))
  ·intro j hj
   rcases hf9 j hj with h | h
   ·exact hf8 j h
   ·exact .inr ⟨Nat.le_trans c8.size h, fun e => by have := lt_of_heap hb8; omega⟩
 ·have hge' : ¬ (i : Int) < n := by simpa using hge
  have : n.toNat = i := by omega
  refine ⟨by rw [hE, hz'], fp8, ?_, c8, fun j hj => (hf8 j hj).imp id And.left⟩
  unfold markF; rw [if_pos (by rw [hE]; exact hz'), this]; exact hF8
theorem flow_Get {w : World} {b : Nat} {F : Fl} {fp : List Nat} (h : FlowAt w b F fp) {p1 p2 : Int} (hp : i64s p2) :
  Calls Tryz.prog 35 #[.pointer (some ⟨b, 0, none⟩), .agg #[.int .i64 p1, .int .i64 p2]] w fun e w' => ∃ (r1 : Int) (r2 : Int), e = .returned (.tuple #[.int .u32 r1, .int .i64 r2]) ∧
   (Chg [] w w' ∧ if mayP F.fr F.se (p1, p2) then r1 = F.g (p1, p2) ∧ r2 = 0 else r1 = 0 ∧ r2 = 2) := by
 refine ok_flow_Flow_Get _ _ _ _ _ ?_
 unfold V_flow_Flow_Get
 refine v_alloc fun b1 w1 e1 hb1 c1 => ?_
 refine ⟨fun s w2 => Chg [] w w2 ∧ s.2 = 2 ∧ ¬ mayP F.fr F.se (p1, p2), ?_, ?_⟩
 ·rintro ⟨s1, s2⟩ w2 ⟨c2, rfl, hn⟩
  exact ⟨c2, by rw [if_neg hn]; exact ⟨rfl, rfl⟩⟩
 refine (flow_none (h.chg c1 (by simp))).mono ?_
 rintro _ w3 ⟨_, rfl, rfl, hw⟩
 subst w3
 refine ⟨_, rfl, fun h => by simp at h, fun _ => ⟨p1, p2, cellsAt_of hb1, ?_⟩⟩
 refine (flow_may (h.chg c1 (by simp)) p1 p2).mono ?_
 rintro _ w4 ⟨_, rfl, rfl, c4⟩
 have c04 := c1.trans0 c4
 refine ⟨_, rfl, fun hb => ⟨c04, rfl, by simpa using hb⟩, fun hb => ⟨p1, p2, cellsAt_of (c4.obj (by simp) hb1), ?_⟩⟩
 have hm : mayP F.fr F.se (p1, p2) := by simpa using hb
 refine (flow_get (h.chg c04 (by simp)) hp).mono ?_
 rintro _ w5 ⟨_, rfl, rfl, c5⟩
 exact ⟨_, rfl, c04.trans0 c5, by rw [if_pos hm]; exact ⟨rfl, rfl⟩⟩
/-! ### Places and touches -/
structure PlacesAt (w : World) (S : Nat → Prop) (p : Option Addr) (n : Nat) (ps : List (Int × Int)) : Prop where
 length : ps.length = n
 each : ∀ j x, ps[j]? = some x → i64s x.1 ∧ i64s x.2 ∧ ∃ a, p = some a ∧ S a.block ∧ CellsAt w (a.add (j * 2)) 0 [.int .i64 x.1, .int .i64 x.2]
theorem PlacesAt.chg {w w' : World} {S : Nat → Prop} {p : Option Addr} {n : Nat} {ps : List (Int × Int)} {f : List Nat} (h : PlacesAt w S p n ps) (hc : Chg f w w') (hf : ∀ i ∈ f, ¬ S i) : PlacesAt w' S p n ps :=
 ⟨h.length, fun j x hx => let ⟨h1, h2, a, h3, h4, h5⟩ := h.each j x hx; ⟨h1, h2, a, h3, h4, hc.cells (by rw [add_block]; exact fun hm => hf _ hm h4) h5⟩⟩
abbrev Tch := (Int × Int) × List (Int × Int)
structure TouchesAt (w : World) (S : Nat → Prop) (p : Option Addr) (n : Nat) (ts : List Tch) : Prop where
 length : ts.length = n
 each : ∀ j t, ts[j]? = some t → i64s t.1.1 ∧ i64s t.1.2 ∧ ∃ a q qn qc, p = some a ∧ S a.block ∧ CellsAt w (a.add (j * 3)) 0 [.int .i64 t.1.1, .int .i64 t.1.2, .slice q qn qc] ∧ PlacesAt w S q qn t.2
theorem TouchesAt.chg {w w' : World} {S : Nat → Prop} {p : Option Addr} {n : Nat} {ts : List Tch} {f : List Nat} (h : TouchesAt w S p n ts) (hc : Chg f w w') (hf : ∀ i ∈ f, ¬ S i) : TouchesAt w' S p n ts :=
 ⟨h.length, fun j x hx => let ⟨h1, h2, a, q, qn, qc, h3, h4, h5, h6⟩ := h.each j x hx; ⟨h1, h2, a, q, qn, qc, h3, h4, hc.cells (by rw [add_block]; exact fun hm => hf _ hm h4) h5, h6.chg hc hf⟩⟩
theorem get_of {α : Type} {l : List α} {j : Nat} (h : j < l.length) : ∃ x, l[j]? = some x := ⟨l[j], List.getElem?_eq_getElem h⟩
theorem take_snoc {α : Type} {l : List α} {j : Nat} {x : α} (h : l[j]? = some x) : l.take (j + 1) = l.take j ++ [x] := by
 rw [List.take_add_one, h]; rfl
def joinP (g : Int × Int → Int) (ps : List (Int × Int)) : Int := ps.foldl (fun s p => bits .or .u32 s (g p)) 0
theorem joinP_snoc (g : Int × Int → Int) (ps : List (Int × Int)) (p : Int × Int) : joinP g (ps ++ [p]) = bits .or .u32 (joinP g ps) (g p) := by simp [joinP]
theorem flow_together {w : World} {b : Nat} {F : Fl} {fp : List Nat} (h : FlowAt w b F fp) {S : Nat → Prop} {p : Option Addr} {n c : Nat} {ps : List (Int × Int)} (hp : PlacesAt w S p n ps) (hn : n ≤ 9223372036854775807) :
  Calls Tryz.prog 67 #[.pointer (some ⟨b, 0, none⟩), .slice p n c] w fun e w' => ∃ r : Int, e = .returned (.int .u32 r) ∧ (r = joinP F.g ps ∧ Chg [] w w') := by
 refine ok_flow_Flow_together _ _ _ _ _ _ ?_
 unfold V_flow_Flow_together
 refine ⟨fun s w' => ∃ j : Nat, s.2 = (j : Int) ∧ j ≤ n ∧ s.1 = joinP F.g (ps.take j) ∧ Chg [] w w', fun s _ => (n - s.2).toNat, ⟨0, rfl, by omega, rfl, Chg.refl _ _⟩, ?_⟩
 rintro ⟨s1, s2⟩ w1 ⟨j, rfl, hj, rfl, c1⟩
 refine ⟨fun hlt => ?_, fun hge => ?_⟩
 ·have hlt' : j < n := by simpa using hlt
  obtain ⟨x, hj'⟩ := get_of (l := ps) (j := j) (by rw [hp.length]; exact hlt')
  obtain ⟨k1, k2, a, rfl, ha, hc⟩ := (hp.chg c1 (by simp)).each j _ hj'
  refine ⟨a, rfl, by simp only []; omega, by simp only []; omega, _, _, by simpa using hc, ?_⟩
  refine v_box (by rfl) (by rfl) fun b1 w3 e3 h3 c3 => ?_
  refine ⟨_, _, cellsAt_of h3, ?_⟩
  have c13 := c1.trans0 c3
  refine (flow_get (h.chg c13 (by simp)) k2).mono ?_
  rintro _ w4 ⟨r2, rfl, rfl, c4⟩
  refine ⟨_, rfl, ?_⟩
  simp only []
  rw [wr (by omega) (by omega)]
  refine ⟨⟨j + 1, by omega, by omega, ?_, c13.trans0 c4⟩, by omega⟩
  rw [take_snoc hj', joinP_snoc]
 ·have hge' : ¬ j < n := by simpa using hge
  refine ⟨?_, c1⟩
  rw [List.take_of_length_le (by rw [hp.length]; omega)]
def rightT (fr se : Int) (t : Tch) : Prop := (t.1 = (0, 0) ∨ mayP fr se t.1) ∧ ∀ p ∈ t.2, mayP fr se p
instance (fr se : Int) (t : Tch) : Decidable (rightT fr se t) := by unfold rightT; exact inferInstance
theorem flow_right {w : World} {b : Nat} {F : Fl} {fp : List Nat} (h : FlowAt w b F fp) {S : Nat → Prop} {p : Option Addr} {n c : Nat} {ts : List Tch} (hp : TouchesAt w S p n ts) (hn : n ≤ 9223372036854775807) (hin : ∀ t ∈ ts, t.2.length ≤ 9223372036854775807) :
  Calls Tryz.prog 66 #[.pointer (some ⟨b, 0, none⟩), .slice p n c] w fun e w' => ∃ r : Bool, e = .returned (.bool r) ∧ (r = decide (∀ t ∈ ts, rightT F.fr F.se t) ∧ Chg [] w w') := by
 refine ok_flow_Flow_right _ _ _ _ _ _ ?_
 unfold V_flow_Flow_right
 refine ⟨fun s w' => ∃ j : Nat, s.2 = (j : Int) ∧ j ≤ n ∧ (∀ t ∈ ts.take j, rightT F.fr F.se t) ∧ Chg [] w w', fun s _ => (n - s.2).toNat, ⟨0, rfl, by omega, by simp, Chg.refl _ _⟩, ?_⟩
 rintro ⟨s1, s2⟩ w1 ⟨j, rfl, hj, hall, c1⟩
 refine ⟨fun hlt => ?_, fun hge => ?_⟩
 ·have hlt' : j < n := by simpa using hlt
  obtain ⟨t, hj'⟩ := get_of (l := ts) (j := j) (by rw [hp.length]; exact hlt')
  have hmem : t ∈ ts := List.mem_of_getElem? hj'
  obtain ⟨k1, k2, a, q, qn, qc, rfl, ha, hc, hps⟩ := (hp.chg c1 (by simp)).each j _ hj'
  refine ⟨a, rfl, by simp only []; omega, by simp only []; omega, t.1.1, t.1.2, q, qn, qc, by simpa using hc, ?_⟩
  refine v_box (by rfl) (by rfl) fun b1 w3 e3 h3 c3 => ?_
  have c03 := c1.trans0 c3
  refine ⟨t.1.1, t.1.2, ⟨by rw [add_at, cell_of h3]; rfl, by rw [add_at, cell_of h3]; rfl, trivial⟩, ?_⟩
  have hno : ¬ (∀ t ∈ ts, rightT F.fr F.se t) → decide (∀ t ∈ ts, rightT F.fr F.se t) = false := fun h => decide_eq_false h
  refine ⟨fun b2 w4 => b2 = decide (¬ (t.1 = (0, 0) ∨ mayP F.fr F.se t.1)) ∧ Chg [] w w4 ∧ Chg [] w3 w4, ?_, fun hne => ?_, fun he => ?_⟩
  rotate_left
  ·have hne' : t.1 ≠ (0, 0) := by
    intro e; rw [e] at hne; simp at hne
   refine ⟨t.1.1, t.1.2, ⟨by rw [add_at, cell_of h3]; rfl, by rw [add_at, cell_of h3]; rfl, trivial⟩, ?_⟩
   refine (flow_may (h.chg c03 (by simp)) _ _).mono ?_
   rintro _ w5 ⟨_, rfl, rfl, c5⟩
   refine ⟨_, rfl, ?_, c03.trans0 c5, c5⟩
   rw [← decide_not]
   exact decide_eq_decide.2 ⟨fun h h' => h'.elim hne' h, fun h h' => h (.inr h')⟩
  ·have he' : t.1 = (0, 0) := by
    have : t.1.1 = 0 ∧ t.1.2 = 0 := by simpa using he
    exact Prod.ext this.1 this.2
   exact ⟨by simp [he'], c03, Chg.refl _ _⟩
  rintro b2 w4 ⟨rfl, c04, c34⟩
  refine ⟨fun hb => ?_, fun hb => ?_⟩
  ·rw [decide_eq_true_eq] at hb
   exact ⟨(decide_eq_false (fun h => hb (h t hmem).1)).symm, c04⟩
  rw [decide_eq_false_iff_not] at hb
  have hto : t.1 = (0, 0) ∨ mayP F.fr F.se t.1 := Classical.byContradiction hb
  refine ⟨q, qn, qc, by rw [cell_of (c34.obj (by simp) h3)]; rfl, ?_⟩
  have hps4 := (hps.chg c3 (by simp)).chg c34 (by simp)
  have hqn : qn ≤ 9223372036854775807 := by rw [← hps.length]; exact hin t hmem
  refine ⟨fun s w' => ∃ i : Nat, s.2 = (i : Int) ∧ i ≤ qn ∧ (∀ x ∈ t.2.take i, mayP F.fr F.se x) ∧ Chg [] w w' ∧ Chg [] w4 w', fun s _ => (qn - s.2).toNat, ⟨0, rfl, by omega, by simp, c04, Chg.refl _ _⟩, ?_⟩
  rintro ⟨u1, u2⟩ w6 ⟨i, rfl, hi, hsome, c06, c46⟩
  refine ⟨fun hlt2 => ?_, fun hge2 => ?_⟩
  ·have hlt2' : i < qn := by simpa using hlt2
   obtain ⟨y, hi'⟩ := get_of (l := t.2) (j := i) (by rw [hps.length]; exact hlt2')
   have hmem2 : y ∈ t.2 := List.mem_of_getElem? hi'
   obtain ⟨k3, k4, a2, rfl, _, hc2⟩ := (hps4.chg c46 (by simp)).each i _ hi'
   refine ⟨a2, rfl, by simp only []; omega, by simp only []; omega, _, _, by simpa using hc2, ?_⟩
   refine v_box (by rfl) (by rfl) fun b3 w8 e8 h8 c8 => ?_
   refine ⟨_, _, cellsAt_of h8, ?_⟩
   have c08 := c06.trans0 c8
   refine (flow_may (h.chg c08 (by simp)) _ _).mono ?_
   rintro _ w9 ⟨_, rfl, rfl, c9⟩
   refine ⟨_, rfl, fun hb => ?_, fun hb => ?_⟩
   ·have hb' : ¬ mayP F.fr F.se y := by simpa using hb
    exact ⟨(decide_eq_false (fun h => hb' ((h t hmem).2 _ hmem2))).symm, c08.trans0 c9⟩
   ·have hb' : mayP F.fr F.se y := by simpa using hb
    simp only []
    rw [wr (by omega) (by omega)]
    refine ⟨⟨i + 1, by omega, by omega, ?_, c08.trans0 c9, (c46.trans0 c8).trans0 c9⟩, by omega⟩
    rw [take_snoc hi']
    intro x hx
    rcases List.mem_append.1 hx with hx | hx
    ·exact hsome x hx
    ·simp at hx; rw [hx]; exact hb'
  ·have hge2' : ¬ i < qn := by simpa using hge2
   simp only []
   rw [wr (by omega) (by omega)]
   refine ⟨⟨j + 1, by omega, by omega, ?_, c06⟩, by omega⟩
   rw [take_snoc hj']
   intro x hx
   rcases List.mem_append.1 hx with hx | hx
   ·exact hall x hx
   ·simp at hx; rw [hx]
    rw [List.take_of_length_le (by rw [hps.length]; omega)] at hsome
    exact ⟨hto, hsome⟩
 ·have hge' : ¬ j < n := by simpa using hge
  rw [List.take_of_length_le (by rw [hp.length]; omega)] at hall
  exact ⟨(decide_eq_true hall).symm, c1⟩
end Go.Proofs.YtfcfkhbkkfpehaaGreat
end
section
/- The document's flows: New, May, Keep, Put, Mark. -/
namespace Go.Proofs.YtfcfkhbkkfpehaaGreat
open Go Go.RowKit Go.X
/-! ### Rows of equal elements -/
theorem flat_length {α : Type} {enc : α → List Value} {size : Nat} (hs : ∀ x, (enc x).length = size) (l : List α) : (l.flatMap enc).length = l.length * size := by
 induction l with
 | nil => simp
 | cons a l ih => simp only [List.flatMap_cons, List.length_append, hs, ih, List.length_cons]; rw [Nat.add_mul]; omega
abbrev Pr := (Int × Int) × Int
def encPr (x : Pr) : List Value := [.int .i64 x.1.1, .int .i64 x.1.2, .int .u32 x.2]
structure Rf where
 fr : Int
 se : Int
 most : Int
 sets : List Int
 pairs : List Pr
structure RefAt (w : World) (R : Rf) (p4 : Option Addr) (n4 c4 : Nat) (p5 : Option Addr) (n5 c5 : Nat) : Prop where
 sets : RowAt w 22 1 p4 n4 c4 (R.sets.map (.int .u32))
 pairs : RowAt w 131 3 p5 n5 c5 (R.pairs.flatMap encPr)
theorem RefAt.chg {w w' : World} {R : Rf} {p4 p5 : Option Addr} {n4 c4 n5 c5 : Nat} {f : List Nat} (h : RefAt w R p4 n4 c4 p5 n5 c5) (hc : Chg f w w') (h4 : ∀ i ∈ rowB p4, i ∉ f) (h5 : ∀ i ∈ rowB p5, i ∉ f) : RefAt w' R p4 n4 c4 p5 n5 c5 :=
 ⟨h.sets.chg hc h4, h.pairs.chg hc h5⟩
theorem RefAt.n4 {w : World} {R : Rf} {p4 p5 : Option Addr} {n4 c4 n5 c5 : Nat} (h : RefAt w R p4 n4 c4 p5 n5 c5) : n4 = R.sets.length := by have := h.sets.length; simp at this; omega
theorem RefAt.n5 {w : World} {R : Rf} {p4 p5 : Option Addr} {n4 c4 n5 c5 : Nat} (h : RefAt w R p4 n4 c4 p5 n5 c5) : n5 = R.pairs.length := by
 have := h.pairs.length; rw [flat_length (size := 3) (fun _ => rfl)] at this; omega
end Go.Proofs.YtfcfkhbkkfpehaaGreat
end
section
/- The document's flows: Keep, ahead, Put. -/
namespace Go.Proofs.YtfcfkhbkkfpehaaGreat
open Go Go.RowKit Go.X
def aheadP (a b : Int × Int) : Prop := a.1 < b.1 ∨ a.1 = b.1 ∧ a.2 < b.2
instance (a b : Int × Int) : Decidable (aheadP a b) := by unfold aheadP; exact inferInstance
def stepPut (p : Int × Int) (set : Int) (s : List Pr × Bool) (x : Pr) : List Pr × Bool :=
 let s1 := if !s.2 && decide (aheadP p x.1) then (s.1 ++ [(p, set)], true) else s
 let o2 := if x.1 = p then s1.1 else s1.1 ++ [x]
 if x.1 = p ∧ s1.2 = false then (o2 ++ [(p, set)], true) else (o2, s1.2)
def foldPut (p : Int × Int) (set : Int) (l : List Pr) : List Pr × Bool := l.foldl (stepPut p set) ([], set == 0)
def refPut (p : Int × Int) (set : Int) (l : List Pr) : List Pr := let s := foldPut p set l; if s.2 then s.1 else s.1 ++ [(p, set)]
theorem foldPut_snoc (p : Int × Int) (set : Int) (l : List Pr) (x : Pr) : foldPut p set (l ++ [x]) = stepPut p set (foldPut p set l) x := by simp [foldPut]
end Go.Proofs.YtfcfkhbkkfpehaaGreat
end
section
/- The document's flows: Put. -/
namespace Go.Proofs.YtfcfkhbkkfpehaaGreat
open Go Go.RowKit Go.X
end Go.Proofs.YtfcfkhbkkfpehaaGreat
end
section
/- The document's flows: New, Mark. -/
namespace Go.Proofs.YtfcfkhbkkfpehaaGreat
open Go Go.RowKit Go.X
def refFill (p : Int × Int) (set : Int) (l : List Pr) : Nat → List Pr
 | 0 => l
 | n + 1 => refPut (p.1, p.2 + n) set (refFill p set l n)
def refMarkE (R : Rf) (p : Int × Int) (n set : Int) : Int :=
 if ¬ mayP R.fr R.se p ∨ 65536 ≤ set then 2 else if n < 0 ∨ 65536 < n ∨ (0 < n ∧ ¬ mayP R.fr R.se (p.1, p.2 + n - 1)) then 4 else keepE R.most R.sets set
def refMark (R : Rf) (p : Int × Int) (n set : Int) : Rf := if refMarkE R p n set = 0 then { R with sets := keepS R.most R.sets set, pairs := refFill p set R.pairs n.toNat } else R
end Go.Proofs.YtfcfkhbkkfpehaaGreat
end
section
/- The program's flow and the document's one, as values: what they say alike behind marks and touches. -/
namespace Go.Proofs.YtfcfkhbkkfpehaaGreat
open Go Go.RowKit Go.X
def lookPr (l : List Pr) (q : Int × Int) : Int := (lookK q l).getD 0
def PutInv (p : Int × Int) (set : Int) (l : List Pr) (s : List Pr × Bool) : Prop :=
 (∀ q, q ≠ p → lookK q s.1 = lookK q l) ∧ (s.2 = true → lookK p s.1 = if set = 0 then none else some set) ∧ (s.2 = false → lookK p s.1 = none ∧ set ≠ 0)
theorem putInv_step {p : Int × Int} {set : Int} {l : List Pr} {s : List Pr × Bool} (h : PutInv p set l s) (x : Pr) : PutInv p set (l ++ [x]) (stepPut p set s x) := by
 obtain ⟨out, put⟩ := s
 obtain ⟨h1, h2, h3⟩ := h
 simp only [] at h1 h2 h3
 have hone : ∀ (q : Int × Int) (y : Pr), lookK q [y] = if y.1 = q then some y.2 else none := fun q y => by rw [lookK_cons, lookK_nil]
 unfold stepPut
 cases put with
 | true =>
  simp only [Bool.not_true, Bool.false_and, Bool.false_eq_true, if_false, Bool.true_eq_false, and_false]
  have h2' := h2 rfl
  by_cases hx : x.1 = p
  ·simp only [hx, if_true]
   refine ⟨fun q hq => ?_, fun _ => h2', fun h => by simp at h⟩
   rw [h1 q hq, lookK_append, hone, hx, if_neg (Ne.symm hq), Option.or_none]
  ·simp only [hx, if_false]
   refine ⟨fun q hq => ?_, fun _ => ?_, fun h => by simp at h⟩
   ·rw [lookK_append, lookK_append, h1 q hq]
   ·rw [lookK_append, h2', hone, if_neg hx, Option.or_none]
 | false =>
  obtain ⟨h3', hs⟩ := h3 rfl
  by_cases ha : aheadP p x.1
  ·have hx : x.1 ≠ p := fun e => by rw [e] at ha; unfold aheadP at ha; omega
   simp only [Bool.not_false, Bool.true_and, ha, decide_true, if_true, hx, if_false, Bool.true_eq_false, and_false, false_and]
   refine ⟨fun q hq => ?_, fun _ => ?_, fun h => by simp at h⟩
   ·rw [lookK_append, lookK_append, lookK_append, hone, hone, h1 q hq]
    simp only [Ne.symm hq, if_false, Option.or_none]
   ·rw [lookK_append, lookK_append, h3', hone, hone]
    simp [hs]
  ·simp only [Bool.not_false, Bool.true_and, ha, decide_false, Bool.false_eq_true, if_false]
   by_cases hx : x.1 = p
   ·simp only [hx, if_true, and_self]
    refine ⟨fun q hq => ?_, fun _ => ?_, fun h => by simp at h⟩
    ·rw [lookK_append, lookK_append, hone, hone, h1 q hq, hx]; simp [Ne.symm hq]
    ·rw [lookK_append, h3', hone]
     simp [hs]
   ·simp only [hx, if_false, false_and]
    refine ⟨fun q hq => ?_, fun h => by simp at h, fun _ => ⟨?_, hs⟩⟩
    ·rw [lookK_append, lookK_append, h1 q hq]
    ·rw [lookK_append, h3', hone, if_neg hx]; rfl
theorem putInv_fold (p : Int × Int) (set : Int) (l : List Pr) : PutInv p set l (foldPut p set l) := by
 have : ∀ (l l0 : List Pr) (s : List Pr × Bool), PutInv p set l0 s → PutInv p set (l0 ++ l) (l.foldl (stepPut p set) s) := by
  intro l
  induction l with
  | nil => intro l0 s h; simpa using h
  | cons x l ih =>
   intro l0 s h
   have := ih (l0 ++ [x]) _ (putInv_step h x)
   simpa using this
 have := this l [] ([], set == 0) ⟨fun q _ => rfl, fun h => by simp at h; simp [h, lookK_nil], fun h => by simp at h; exact ⟨rfl, h⟩⟩
 simpa [foldPut] using this
theorem look_refPut (p : Int × Int) (set : Int) (l : List Pr) (q : Int × Int) : lookPr (refPut p set l) q = if q = p then set else lookPr l q := by
 obtain ⟨h1, h2, h3⟩ := putInv_fold p set l
 unfold refPut lookPr
 simp only []
 by_cases hs : (foldPut p set l).2 = true
 ·rw [if_pos hs]
  by_cases hq : q = p
  ·subst hq
   rw [h2 hs, if_pos rfl]
   by_cases h0 : set = 0
   ·simp [h0]
   ·simp [h0]
  ·rw [h1 q hq, if_neg hq]
 ·rw [if_neg hs]
  have hs' : (foldPut p set l).2 = false := by simpa using hs
  rw [lookK_append, lookK_cons, lookK_nil]
  by_cases hq : q = p
  ·subst hq
   rw [(h3 hs').1]; simp
  ·rw [h1 q hq, if_neg (Ne.symm hq), if_neg hq, Option.or_none]
structure RelF (F : Fl) (R : Rf) : Prop where
 fr : R.fr = F.fr
 se : R.se = F.se
 most : R.most = F.most
 sets : R.sets = F.sets
 look : ∀ q, lookPr R.pairs q = F.g q
theorem RelF.new (fr se most : Int) : RelF (flowNew fr se most) ⟨fr, se, most, [0], []⟩ := ⟨rfl, rfl, rfl, rfl, fun _ => rfl⟩
theorem look_refFill (p : Int × Int) (set : Int) (l : List Pr) (g : Int × Int → Int) (hg : ∀ q, lookPr l q = g q) (n : Nat) (q : Int × Int) : lookPr (refFill p set l n) q = fillP g p set n q := by
 induction n generalizing q with
 | zero => exact hg q
 | succ n ih =>
  simp only [refFill, fillP, putP]
  rw [look_refPut, ih]
theorem RelF.markE {F : Fl} {R : Rf} (h : RelF F R) (p : Int × Int) (n set : Int) : refMarkE R p n set = markE F p n set := by
 unfold refMarkE Proofs.YtfcfkhbkkfpehaaGreat.markE
 rw [h.fr, h.se, h.most, h.sets]
theorem RelF.mark {F : Fl} {R : Rf} (h : RelF F R) (p : Int × Int) (n set : Int) : RelF (markF F p n set) (refMark R p n set) := by
 unfold markF refMark
 rw [h.markE]
 by_cases he : Proofs.YtfcfkhbkkfpehaaGreat.markE F p n set = 0
 ·rw [if_pos he, if_pos he]
  refine ⟨h.fr, h.se, h.most, ?_, fun q => ?_⟩
  ·simp only [h.most, h.sets]
  ·exact look_refFill p set R.pairs F.g h.look _ q
 ·rw [if_neg he, if_neg he]; exact h
/-! ### Touches applied -/
def keepStep (most : Int) (g : Int × Int → Int) (s : List Int × List Pr × Int) (t : Tch) : List Int × List Pr × Int :=
 if s.2.2 ≠ 0 ∨ t.1 = (0, 0) then s else
  if keepE most s.1 (joinP g t.2) ≠ 0 then (s.1, s.2.1, keepE most s.1 (joinP g t.2)) else (keepS most s.1 (joinP g t.2), upd t.1 (joinP g t.2) s.2.1, 0)
def keepAll (most : Int) (g : Int × Int → Int) (ts : List Tch) (sets : List Int) : List Int × List Pr × Int := ts.foldl (keepStep most g) (sets, [], 0)
theorem keepAll_snoc (most : Int) (g : Int × Int → Int) (ts : List Tch) (sets : List Int) (t : Tch) : keepAll most g (ts ++ [t]) sets = keepStep most g (keepAll most g ts sets) t := by simp [keepAll]
theorem keepAll_bad {most : Int} {g : Int × Int → Int} {ts us : List Tch} {sets : List Int} (h : (keepAll most g ts sets).2.2 ≠ 0) : keepAll most g (ts ++ us) sets = keepAll most g ts sets := by
 have : ∀ (us : List Tch) (s : List Int × List Pr × Int), s.2.2 ≠ 0 → us.foldl (keepStep most g) s = s := by
  intro us
  induction us with
  | nil => intro s _; rfl
  | cons u us ih =>
   intro s hs
   have e : keepStep most g s u = s := by unfold keepStep; rw [if_pos (.inl hs)]
   rw [List.foldl_cons, e]; exact ih s hs
 unfold keepAll at h ⊢
 rw [List.foldl_append]; exact this us _ h
def rightAll (fr se : Int) (ts : List Tch) : Prop := ∀ t ∈ ts, rightT fr se t
instance (fr se : Int) (ts : List Tch) : Decidable (rightAll fr se ts) := by unfold rightAll; exact inferInstance
def applyE (F : Fl) (ts : List Tch) : Int := if rightAll F.fr F.se ts then (keepAll F.most F.g ts F.sets).2.2 else 2
def overP (g : Int × Int → Int) (now : List Pr) : Int × Int → Int := fun q => (lookK q now).getD (g q)
def applyF (F : Fl) (ts : List Tch) : Fl :=
 if rightAll F.fr F.se ts then { F with sets := (keepAll F.most F.g ts F.sets).1, g := if (keepAll F.most F.g ts F.sets).2.2 = 0 then overP F.g (keepAll F.most F.g ts F.sets).2.1 else F.g } else F
theorem overP_nil (g : Int × Int → Int) : overP g [] = g := by funext q; simp [overP, lookK_nil]
theorem overP_upd (g : Int × Int → Int) (now : List Pr) (p : Int × Int) (set : Int) : overP g (upd p set now) = putP (overP g now) p set := by
 funext q
 unfold overP putP
 rw [lookK_upd]
 by_cases h : q = p <;> simp [h]
def putStep (g : Int × Int → Int) (l : List Pr) (t : Tch) : List Pr := if t.1 = (0, 0) then l else refPut t.1 (joinP g t.2) l
def putAll (g : Int × Int → Int) (ts : List Tch) (l : List Pr) : List Pr := ts.foldl (putStep g) l
def refApplyE (R : Rf) (ts : List Tch) : Int := if rightAll R.fr R.se ts then (keepAll R.most (lookPr R.pairs) ts R.sets).2.2 else 2
def refApply (R : Rf) (ts : List Tch) : Rf :=
 if rightAll R.fr R.se ts then { R with sets := (keepAll R.most (lookPr R.pairs) ts R.sets).1, pairs := if (keepAll R.most (lookPr R.pairs) ts R.sets).2.2 = 0 then putAll (lookPr R.pairs) ts R.pairs else R.pairs } else R
theorem look_putAll (most : Int) (g : Int × Int → Int) (ts : List Tch) (sets : List Int) (l : List Pr) (hl : ∀ q, lookPr l q = g q) (h0 : (keepAll most g ts sets).2.2 = 0) (q : Int × Int) :
  lookPr (putAll g ts l) q = overP g (keepAll most g ts sets).2.1 q := by
 have : ∀ (ts us : List Tch) (l : List Pr), (keepAll most g (us ++ ts) sets).2.2 = 0 → (∀ q, lookPr l q = overP g (keepAll most g us sets).2.1 q) →
   ∀ q, lookPr (ts.foldl (putStep g) l) q = overP g (keepAll most g (us ++ ts) sets).2.1 q := by
  intro ts
  induction ts with
  | nil => intro us l h0 hl q; simpa using hl q
  | cons t ts ih =>
   intro us l h0 hl q
   have e : us ++ t :: ts = (us ++ [t]) ++ ts := by simp
   rw [e] at h0 ⊢
   have h1 : (keepAll most g (us ++ [t]) sets).2.2 = 0 := by
    by_cases hb : (keepAll most g (us ++ [t]) sets).2.2 = 0
    ·exact hb
    ·exfalso; rw [keepAll_bad hb] at h0; exact hb h0
   have h2 : (keepAll most g us sets).2.2 = 0 := by
    by_cases hb : (keepAll most g us sets).2.2 = 0
    ·exact hb
    ·exfalso; rw [keepAll_bad hb] at h1; exact hb h1
   rw [List.foldl_cons]
   refine ih (us ++ [t]) _ h0 (fun q => ?_) q
   rw [keepAll_snoc]
   rw [keepAll_snoc] at h1
   unfold keepStep at h1 ⊢
   unfold putStep
   by_cases ht : t.1 = (0, 0)
   ·rw [if_pos ht, if_pos (.inr ht)]; exact hl q
   ·have hn : ¬ ((keepAll most g us sets).2.2 ≠ 0 ∨ t.1 = (0, 0)) := by rintro (h | h); exact h h2; exact ht h
    rw [if_neg hn] at h1 ⊢
    rw [if_neg ht]
    by_cases hk : keepE most (keepAll most g us sets).1 (joinP g t.2) ≠ 0
    ·rw [if_pos hk] at h1; exact absurd h1 hk
    ·rw [if_neg hk]
     simp only []
     rw [overP_upd, look_refPut]
     unfold putP
     rw [hl q]
 exact this ts [] l h0 (fun q => by rw [show (keepAll most g [] sets).2.1 = [] from rfl, overP_nil]; exact hl q) q
theorem RelF.g {F : Fl} {R : Rf} (h : RelF F R) : lookPr R.pairs = F.g := funext h.look
theorem RelF.applyE {F : Fl} {R : Rf} (h : RelF F R) (ts : List Tch) : refApplyE R ts = applyE F ts := by
 unfold refApplyE Proofs.YtfcfkhbkkfpehaaGreat.applyE
 rw [h.fr, h.se, h.most, h.sets, h.g]
theorem RelF.apply {F : Fl} {R : Rf} (h : RelF F R) (ts : List Tch) : RelF (applyF F ts) (refApply R ts) := by
 unfold applyF refApply
 rw [h.fr, h.se, h.most, h.sets, h.g]
 by_cases hr : rightAll F.fr F.se ts
 ·rw [if_pos hr, if_pos hr]
  refine ⟨rfl, rfl, rfl, rfl, fun q => ?_⟩
  simp only []
  by_cases h0 : (keepAll F.most F.g ts F.sets).2.2 = 0
  ·rw [if_pos h0, if_pos h0]
   exact look_putAll F.most F.g ts F.sets R.pairs h.look h0 q
  ·rw [if_neg h0, if_neg h0]; exact h.look q
 ·rw [if_neg hr, if_neg hr]; exact h
end Go.Proofs.YtfcfkhbkkfpehaaGreat
end
section
/- Arguments that came in, opened: slices of structs as lists. -/
namespace Go.X
open Go Go.RowKit Go.ChangeShapes Go.WideShapes
theorem list_of {α : Type} {n : Nat} {Q : Nat → α → Prop} (h : ∀ i, i < n → ∃ x, Q i x) : ∃ l : List α, l.length = n ∧ ∀ (i : Nat) (x : α), l[i]? = some x → Q i x := by
 induction n with
 | zero => exact ⟨[], rfl, by simp⟩
 | succ n ih =>
  obtain ⟨l, hl, hq⟩ := ih (fun i hi => h i (by omega))
  obtain ⟨x, hx⟩ := h n (by omega)
  refine ⟨l ++ [x], by simp [hl], fun i y hy => ?_⟩
  by_cases hi : i < l.length
  ·rw [List.getElem?_append_left hi] at hy; exact hq i y hy
  ·rw [List.getElem?_append_right (by omega)] at hy
   have hi' : i - l.length = 0 := by
    have := (List.getElem?_eq_some_iff.1 hy).1
    simp at this; omega
   rw [hi'] at hy; simp at hy; subst hy
   have : i = n := by omega
   rw [this]; exact hx
section
variable {H : Type} {enc : TypeId × Value → H} {P : Program} {w : World} {base : Nat} {spare : Nat → Bool} {held : Bool}
theorem cellsAt_cells? {a : Addr} {n : Nat} {cs : List Value} (h : w.cells? base a n = some cs) : CellsAt w a 0 cs ∧ cs.length = n := by
 obtain ⟨_, h2, h3⟩ := World.cells?_some h
 refine ⟨?_, h2⟩
 have : ∀ (l : List Value) (i : Nat), (∀ k v, l[k]? = some v → w.cell? (a.add (i + k)) = some v) → CellsAt w a i l := by
  intro l
  induction l with
  | nil => intro i _; trivial
  | cons v l ih => intro i h; exact ⟨by simpa using h 0 v rfl, ih (i + 1) (fun k u hu => by rw [show i + 1 + k = i + (k + 1) by omega]; exact h (k + 1) u (by simpa using hu))⟩
 refine this cs 0 fun k v hk => ?_
 have hlt : k < n := by rw [← h2]; exact (List.getElem?_eq_some_iff.1 hk).1
 rw [Nat.zero_add, h3 k hlt, hk]
theorem open_slice {t e : TypeId} {fuel : Nat} {cs : List Value} {x : DataW H × List MemPlace} (ht : P.underlying t = some (.slice e)) (h : DataW.trod enc P w base spare held fuel t cs = some x) :
  ∃ (p : Option Addr) (len cap : Nat), cs = [.slice p len cap] ∧ len ≤ maxLen ∧ ∀ i, i < len → ∃ (a : Addr) (cs' : List Value) (n : Nat) (y : DataW H × List MemPlace), p = some a ∧ CellsAt w (a.add (i * P.cellsOf e)) 0 cs' ∧ cs'.length = P.cellsOf e ∧ DataW.trod enc P w base spare held n e cs' = some y := by
 rcases DataW.trod_slice ht h with ⟨h0, _⟩ | ⟨a, len, cap, elems, rest, n, _, rfl, rfl, hb, hl, hm, hlen, hel, _, _⟩
 ·exact ⟨none, 0, 0, h0, by simp [maxLen], fun i hi => absurd hi (by omega)⟩
 ·refine ⟨some a, len, cap, rfl, by omega, fun i hi => ?_⟩
  have h1 := hel i hi
  rw [List.getElem?_eq_getElem (by omega)] at h1
  obtain ⟨cs', hcs, hy⟩ := Option.bind_eq_some_iff.1 h1
  obtain ⟨k1, k2⟩ := cellsAt_cells? hcs
  exact ⟨a, cs', n, _, rfl, k1, k2, hy⟩
theorem wf_i64 {n : Int} (h : (Lit.int .i64 n).wf = true) : -9223372036854775808 ≤ n ∧ n ≤ 9223372036854775807 := by
 simp [Lit.wf, IntKind.min, IntKind.max, IntKind.bits, IntKind.signed] at h
 omega
theorem wf_u32 {n : Int} (h : (Lit.int .u32 n).wf = true) : 0 ≤ n ∧ n < 4294967296 := by
 simp [Lit.wf, IntKind.min, IntKind.max, IntKind.bits, IntKind.signed] at h
 omega
theorem all_below (hl : laidOutB P = true) {W W' : World} (hb : Below W.heap.size W W') : ∀ (ts : List TypeId) (vs : List Value) (ds : List (DataW H)) (ps : List MemPlace), (∀ t ∈ ts, P.readableRec t = true ∧ t < P.types.size) →
  DataW.TrodAll enc P W 0 (fun _ => true) true ts vs ds ps → (∀ x ∈ ps, x.block < W.heap.size) → DataW.TrodAll enc P W' 0 (fun b => decide (b < W.heap.size)) true ts vs ds ps
 | [], [], [], ps, _, h, _ => h
 | t :: ts, v :: vs, d :: ds, ps, ht, h, hlt => by
  obtain ⟨p, q, h1, h2, rfl⟩ := h
  exact ⟨p, q, Below.trod hl (ht t (.head _)).1 (ht t (.head _)).2 h1 hb (fun x hx => hlt x (List.mem_append.2 (.inl hx))), all_below hl hb ts vs ds q (fun t h => ht t (.tail _ h)) h2 (fun x hx => hlt x (List.mem_append.2 (.inr hx))), rfl⟩
 | [], [], _ :: _, _, _, h, _ => h.elim
 | [], _ :: _, _, _, _, h, _ => h.elim
 | _ :: _, [], _, _, _, h, _ => h.elim
 | _ :: _, _ :: _, [], _, _, h, _ => h.elim
end
end Go.X
end
section
/- Arguments that came in, opened: places, touches, marks. -/
namespace Go.Proofs.YtfcfkhbkkfpehaaGreat
open Go Go.RowKit Go.X
theorem len1 {α : Type} {l : List α} (h : l.length = 1) : ∃ a, l = [a] := by
 cases l with
 | nil => simp at h
 | cons a l => exact ⟨a, by rw [List.eq_nil_of_length_eq_zero (l := l) (by simpa using h)]⟩
theorem len2 {α : Type} {l : List α} (h : l.length = 2) : ∃ a b, l = [a, b] := by
 cases l with
 | nil => simp at h
 | cons a l => obtain ⟨b, rfl⟩ := len1 (l := l) (by simpa using h); exact ⟨a, b, rfl⟩
theorem len3 {α : Type} {l : List α} (h : l.length = 3) : ∃ a b c, l = [a, b, c] := by
 cases l with
 | nil => simp at h
 | cons a l => obtain ⟨b, c, rfl⟩ := len2 (l := l) (by simpa using h); exact ⟨a, b, c, rfl⟩
section
variable {H : Type} {enc : TypeId × Value → H} {w : World} {base : Nat} {spare : Nat → Bool} {held : Bool} {fuel : Nat} {x : DataW H × List MemPlace} {cs : List Value}
theorem cells56 : Tryz.prog.cellsOf 62 = 2 := by kernel_rfl
theorem cells81 : Tryz.prog.cellsOf 65 = 3 := by kernel_rfl
theorem cells3 : Tryz.prog.cellsOf 3 = 1 := by kernel_rfl
theorem cells54 : Tryz.prog.cellsOf 60 = 1 := by kernel_rfl
theorem cells22 : Tryz.prog.cellsOf 22 = 1 := by kernel_rfl
theorem cells47 : Tryz.prog.cellsOf 63 = 1 := by kernel_rfl
theorem un54 : Tryz.prog.underlying 60 = some (.int .i64) := by kernel_rfl
theorem un3 : Tryz.prog.underlying 3 = some (.int .i64) := by kernel_rfl
theorem un22 : Tryz.prog.underlying 22 = some (.int .u32) := by kernel_rfl
theorem open_place (h : DataW.trod enc Tryz.prog w base spare held fuel 62 cs = some x) : ∃ p : Int × Int, cs = [.int .i64 p.1, .int .i64 p.2] ∧ i64s p.1 ∧ i64s p.2 := by
 obtain ⟨xs, n, _, _, hl, hlen, hf⟩ := DataW.trod_struct Tryz.underlying62 h
 have h0 : DataW.trod enc Tryz.prog w base spare held n 60 ((cs.drop 0).take (Tryz.prog.cellsOf 60)) = xs[0]? := hf 0 _ rfl
 have h1 : DataW.trod enc Tryz.prog w base spare held n 3 ((cs.drop 1).take (Tryz.prog.cellsOf 3)) = xs[1]? := hf 1 _ rfl
 simp only [cells54, cells3] at h0 h1
 rw [cells56] at hl
 rw [List.getElem?_eq_getElem (by rw [hlen]; decide)] at h0 h1
 obtain ⟨a, e0, _, w0⟩ := DataW.trod_int un54 h0
 obtain ⟨b, e1, _, w1⟩ := DataW.trod_int un3 h1
 obtain ⟨c0, c1, rfl⟩ := len2 hl
 simp at e0 e1
 subst e0 e1
 exact ⟨(a, b), rfl, wf_i64 w0, wf_i64 w1⟩
def oldS (w : World) (i : Nat) : Prop := i < w.heap.size
theorem cellsAt_lt {a : Addr} {i : Nat} {c : Value} {cs : List Value} (h : CellsAt w a i (c :: cs)) : a.block < w.heap.size := by
 have := World.block_lt_of_cell? w _ h.1
 rwa [add_block] at this
theorem open_places (h : DataW.trod enc Tryz.prog w base spare held fuel 63 cs = some x) : ∃ p n c ps, cs = [.slice p n c] ∧ n ≤ maxLen ∧ PlacesAt w (oldS w) p n ps := by
 obtain ⟨p, n, c, rfl, hn, hel⟩ := open_slice Tryz.underlying63 h
 obtain ⟨l, hl, hq⟩ := list_of (Q := fun j (x : Int × Int) => i64s x.1 ∧ i64s x.2 ∧ ∃ a, p = some a ∧ oldS w a.block ∧ CellsAt w (a.add (j * 2)) 0 [.int .i64 x.1, .int .i64 x.2]) (n := n) (fun i hi => by
  obtain ⟨a, cs', m, y, ha, hc, _, hy⟩ := hel i hi
  obtain ⟨q, rfl, k1, k2⟩ := open_place hy
  rw [cells56] at hc
  exact ⟨q, k1, k2, a, ha, by have := cellsAt_lt hc; rwa [add_block] at this, hc⟩)
 exact ⟨p, n, c, l, rfl, hn, hl, hq⟩
theorem open_touch (h : DataW.trod enc Tryz.prog w base spare held fuel 65 cs = some x) : ∃ (t : Tch) (q : Option Addr) (qn qc : Nat), cs = [.int .i64 t.1.1, .int .i64 t.1.2, .slice q qn qc] ∧ i64s t.1.1 ∧ i64s t.1.2 ∧ qn ≤ maxLen ∧ PlacesAt w (oldS w) q qn t.2 := by
 obtain ⟨xs, n, _, _, hl, hlen, hf⟩ := DataW.trod_struct Tryz.underlying65 h
 have h0 : DataW.trod enc Tryz.prog w base spare held n 62 ((cs.drop 0).take (Tryz.prog.cellsOf 62)) = xs[0]? := hf 0 _ rfl
 have h1 : DataW.trod enc Tryz.prog w base spare held n 63 ((cs.drop 2).take (Tryz.prog.cellsOf 63)) = xs[1]? := hf 1 _ rfl
 simp only [cells56, cells47] at h0 h1
 rw [cells81] at hl
 rw [List.getElem?_eq_getElem (by rw [hlen]; decide)] at h0 h1
 obtain ⟨p, e0, k1, k2⟩ := open_place h0
 obtain ⟨q, qn, qc, ps, e1, hq, hps⟩ := open_places h1
 obtain ⟨c0, c1, c2, rfl⟩ := len3 hl
 simp at e0 e1
 obtain ⟨rfl, rfl⟩ := e0
 subst e1
 exact ⟨(p, ps), q, qn, qc, rfl, k1, k2, hq, hps⟩
theorem open_touches (h : DataW.trod enc Tryz.prog w base spare held fuel 27 cs = some x) : ∃ p n c ts, cs = [.slice p n c] ∧ n ≤ maxLen ∧ TouchesAt w (oldS w) p n ts ∧ ∀ t ∈ ts, t.2.length ≤ maxLen := by
 obtain ⟨p, n, c, rfl, hn, hel⟩ := open_slice Tryz.underlying27 h
 obtain ⟨l, hl, hq⟩ := list_of (Q := fun j (t : Tch) => (i64s t.1.1 ∧ i64s t.1.2 ∧ ∃ a q qn qc, p = some a ∧ oldS w a.block ∧ CellsAt w (a.add (j * 3)) 0 [.int .i64 t.1.1, .int .i64 t.1.2, .slice q qn qc] ∧ PlacesAt w (oldS w) q qn t.2) ∧ t.2.length ≤ maxLen) (n := n) (fun i hi => by
  obtain ⟨a, cs', m, y, ha, hc, _, hy⟩ := hel i hi
  obtain ⟨t, q, qn, qc, rfl, k1, k2, k3, k4⟩ := open_touch hy
  rw [cells81] at hc
  exact ⟨t, ⟨k1, k2, a, q, qn, qc, ha, by have := cellsAt_lt hc; rwa [add_block] at this, hc, k4⟩, by rw [k4.length]; exact k3⟩)
 refine ⟨p, n, c, l, rfl, hn, ⟨hl, fun j t ht => (hq j t ht).1⟩, fun t ht => ?_⟩
 obtain ⟨j, hj⟩ := List.getElem?_of_mem ht
 exact (hq j t hj).2
structure MarksAt (w : World) (S : Nat → Prop) (p : Option Addr) (n : Nat) (ms : List Pr) : Prop where
 length : ms.length = n
 each : ∀ (j : Nat) (x : Pr), ms[j]? = some x → i64s x.1.2 ∧ 0 ≤ x.2 ∧ x.2 < 4294967296 ∧ ∃ a, p = some a ∧ S a.block ∧ CellsAt w (a.add (j * 3)) 0 [.int .i64 x.1.1, .int .i64 x.1.2, .int .u32 x.2]
theorem MarksAt.chg {w w' : World} {S : Nat → Prop} {p : Option Addr} {n : Nat} {ps : List Pr} {f : List Nat} (h : MarksAt w S p n ps) (hc : Chg f w w') (hf : ∀ i ∈ f, ¬ S i) : MarksAt w' S p n ps :=
 ⟨h.length, fun j x hx => let ⟨h1, h2, h3, a, h4, h5, h6⟩ := h.each j x hx; ⟨h1, h2, h3, a, h4, h5, hc.cells (by rw [add_block]; exact fun hm => hf _ hm h5) h6⟩⟩
end
end Go.Proofs.YtfcfkhbkkfpehaaGreat
end
section
/- Policies: New, none, Strict, Stops; the laws' helpers known, broad, made. -/
namespace Go.Proofs.YtfcfkhbkkfpehaaGreat
open Go Go.RowKit Go.X
def u16 (n : Int) : Prop := 0 ≤ n ∧ n < 65536
theorem or_u16 {a b : Int} (ha : u16 a) (hb : u16 b) : u16 (bits .or .u32 a b) := by
 obtain ⟨a1, a2⟩ := ha
 obtain ⟨b1, b2⟩ := hb
 rw [u32_or a b a1 (by omega) b1 (by omega)]
 have : a.toNat ||| b.toNat < 2 ^ 16 := Nat.or_lt_two_pow (by omega) (by omega)
 exact ⟨by omega, by omega⟩
theorem joinP_u16 {g : Int × Int → Int} (hg : ∀ p, u16 (g p)) (ps : List (Int × Int)) : u16 (joinP g ps) := by
 unfold joinP
 have : ∀ (ps : List (Int × Int)) (s : Int), u16 s → u16 (ps.foldl (fun s p => bits .or .u32 s (g p)) s) := by
  intro ps
  induction ps with
  | nil => intro s h; exact h
  | cons p ps ih => intro s h; exact ih _ (or_u16 h (hg p))
 exact this ps 0 ⟨by omega, by omega⟩
structure PolAt (w : World) (b : Nat) (r : List Int) : Prop where
 heap : w.heap[b]? = some (.cells (r.map (Value.int .u32) ++ [Value.bool true]).toArray 109 (0, 0))
 length : r.length = 11
theorem PolAt.chg {w w' : World} {b : Nat} {r : List Int} {f : List Nat} (h : PolAt w b r) (hc : Chg f w w') (hf : b ∉ f) : PolAt w' b r := ⟨hc.obj hf h.heap, h.length⟩
theorem PolAt.lt {w : World} {b : Nat} {r : List Int} (h : PolAt w b r) : b < w.heap.size := lt_of_heap h.heap
theorem PolAt.at {w : World} {b : Nat} {r : List Int} (h : PolAt w b r) {i : Nat} {x : Int} (hx : r[i]? = some x) : w.cell? ⟨b, i, none⟩ = some (.int .u32 x) := by
 have hi : i < r.length := (List.getElem?_eq_some_iff.1 hx).1
 rw [cell_of h.heap]
 simp only [List.getElem?_toArray]
 rw [List.getElem?_append_left (by simpa using hi), List.getElem?_map, hx]; rfl
theorem PolAt.made {w : World} {b : Nat} {r : List Int} (h : PolAt w b r) : w.cell? ⟨b, 11, none⟩ = some (.bool true) := by
 rw [cell_of h.heap]
 simp only [List.getElem?_toArray]
 rw [List.getElem?_append_right (by simp [h.length])]; simp [h.length]
theorem touches_one {w : World} {b1 b2 : Nat} {p : Int × Int} {to : Int × Int} (h1 : w.heap[b1]? = some (.cells #[.int .i64 p.1, .int .i64 p.2] 62 (0, 0))) (h2 : w.heap[b2]? = some (.cells #[.int .i64 to.1, .int .i64 to.2, .slice (some (⟨b1, 0, none⟩ : Addr)) 1 1] 65 (0, 0)))
  (hp : i64s p.1 ∧ i64s p.2) (ht : i64s to.1 ∧ i64s to.2) : TouchesAt w (fun i => i = b1 ∨ i = b2) (some ⟨b2, 0, none⟩) 1 [(to, [p])] := by
 refine ⟨rfl, fun j t hj => ?_⟩
 cases j with
 | zero =>
  simp at hj; subst hj
  refine ⟨ht.1, ht.2, _, _, _, _, rfl, .inr rfl, by rw [Nat.zero_mul, add_at]; exact cellsAt_of h2, rfl, fun i x hi => ?_⟩
  cases i with
  | zero =>
   simp at hi; subst hi
   exact ⟨hp.1, hp.2, _, rfl, .inl rfl, by rw [Nat.zero_mul, add_at]; exact cellsAt_of h1⟩
  | succ i => simp at hi
 | succ j => simp at hj
end Go.Proofs.YtfcfkhbkkfpehaaGreat
end
section
/- Going over a map: the engine's rule for an entry; what the steps yield, by the kit's laws. -/
namespace Go.X
open Go Go.RowKit Go.MapKept Go.ChangeMaps
section
variable {P : Program} {N : Nat} {D : List Deferred} {E : Env} {w w' : World} {d : Option Nat} {T : TypeId} {p : String} {af : Array Edge} {g : Option (Nat × Bool)} {S : World → Prop} {v : Value}
theorem Rd.entry {x : Operand} {vx : Value} (hx : opd E x = some vx) (hl : ∀ w, S w → (Instr.entry vx).run P w = .ok v w) : Rd P N D E ⟨d, .entry x, T, p, af, g⟩ v S := fun a ha w hS => by
 simp [execOp, ha.eval hx, hl w hS]
end
section
variable {P : Program} {K V : Type} [DecidableEq K] {ke : K → Value} {ve : V → Value} {kt et T : TypeId} {w w' : World} {it m : Nat} {l done : List (K × V)}
def IterAt (w : World) (it m : Nat) (ke : K → Value) (ve : V → Value) (l done : List (K × V)) : Prop :=
 ∃ (es : Array MapEntry) (clk since c0 : Nat) (seen : Array Nat) (ds : List MapEntry), w.heap[it]? = some (.mapIter (some m) since seen c0) ∧ since ≤ c0 ∧ since ≤ clk ∧ w.heap[m]? = some (.map es clk) ∧ (∀ x ∈ es.toList, x.born < since) ∧
  es.toList.map (fun (e : MapEntry) => (e.key, e.val)) = l.map (fun (p : K × V) => (ke p.1, ve p.2)) ∧ (l.map Prod.fst).Nodup ∧ (es.toList.map (·.born)).Nodup ∧
  ds.map (·.born) = seen.toList ∧ (∀ d ∈ ds, d ∈ es.toList) ∧ ds.map (fun (e : MapEntry) => (e.key, e.val)) = done.map (fun (p : K × V) => (ke p.1, ve p.2)) ∧ (∀ x ∈ done, x ∈ l) ∧ (done.map Prod.fst).Nodup
theorem IterAt.chg {f : List Nat} (h : IterAt w it m ke ve l done) (hc : Chg f w w') (h1 : it ∉ f) (h2 : m ∉ f) : IterAt w' it m ke ve l done := by
 obtain ⟨es, clk, since, c0, seen, ds, a, b, b', c, rest⟩ := h
 exact ⟨es, clk, since, c0, seen, ds, hc.obj h1 a, b, b', hc.obj h2 c, rest⟩
theorem iter_range (h : MapIs w m ke ve l) (hm : P.underlying T = some (.map kt et)) :
  ∃ it w', (Instr.range T (.map (some m))).run P w = .ok (.pointer (some ⟨it, 0, none⟩)) w' ∧ Chg [] w w' ∧ it = w.heap.size ∧ IterAt w' it m ke ve l [] := by
 obtain ⟨es, clk, hb, he, hn, hbn, hbd⟩ := h
 refine ⟨w.heap.size, w.alloc (.mapIter (some m) clk #[] clk), ?_, Chg.alloc _ _, rfl, es, clk, clk, clk, #[], [], heap_new w _, Nat.le_refl _, Nat.le_refl _, (Chg.alloc w _).obj (by simp) hb, hbn, he, hn, hbd, rfl, by simp, rfl, by simp, by simp⟩
 simp [Instr.range, run_underlying hm, MapKept.run_getObj_map hb, newObj, Result.andThen]
 rfl
theorem iter_next (h : IterAt w it m ke ve l done) (hne : it ≠ m) (hinj : ∀ a b, ke a = ke b → a = b) (ty : TypeId) :
  ((Instr.next (.pointer (some ⟨it, 0, none⟩)) false ty).run P w = .ok (.tuple #[.bool false]) w ∧ ∀ x ∈ l, x ∈ done) ∨
  (∃ (k : K) (v : V) (w' : World), (k, v) ∈ l ∧ k ∉ done.map Prod.fst ∧ (Instr.next (.pointer (some ⟨it, 0, none⟩)) false ty).run P w = .ok (.tuple #[.bool true, ke k, ve v]) w' ∧ Chg [it] w w' ∧
   IterAt w' it m ke ve l (done ++ [(k, v)]) ∧ (Instr.entry (.pointer (some ⟨it, 0, none⟩))).run P w' = .ok (.tuple #[ke k, ve v]) w') := by
 obtain ⟨es, clk, since, c0, seen, ds, h1, h2, h2', h3, h4, h5, h6, h7, h8, h9, h10, h11, h12⟩ := h
 have keyuniq : ∀ e ∈ es.toList, ∀ e' ∈ es.toList, e.key = e'.key → e = e' := by
  intro e he e' he' hk
  obtain ⟨i, hi⟩ := List.getElem?_of_mem he
  obtain ⟨j, hj⟩ := List.getElem?_of_mem he'
  have pi : (l.map (fun (p : K × V) => (ke p.1, ve p.2)))[i]? = some (e.key, e.val) := by rw [← h5, List.getElem?_map, hi]; rfl
  have pj : (l.map (fun (p : K × V) => (ke p.1, ve p.2)))[j]? = some (e'.key, e'.val) := by rw [← h5, List.getElem?_map, hj]; rfl
  rw [List.getElem?_map] at pi pj
  cases li : l[i]? with
  | none => rw [li] at pi; cases pi
  | some a =>
   cases lj : l[j]? with
   | none => rw [lj] at pj; cases pj
   | some b =>
    rw [li] at pi; rw [lj] at pj
    simp at pi pj
    have hab : a.1 = b.1 := hinj _ _ (by rw [pi.1, pj.1, hk])
    have e1 : (l.map Prod.fst)[i]? = (l.map Prod.fst)[j]? := by simp [li, lj, hab]
    have hlt : i < (l.map Prod.fst).length := by have := (List.getElem?_eq_some_iff.1 li).1; simpa using this
    have := (List.getElem?_inj hlt h6).1 e1
    subst this
    rw [hi] at hj; cases hj; rfl
 rcases run_next_at (P := P) w ty it m since c0 seen es clk h1 h3 h4 h2 with ⟨k1, k2⟩ | ⟨e, he, w1, hw1, hrun⟩
 ·left
  refine ⟨k2, fun x hx => ?_⟩
  have hx' : (ke x.1, ve x.2) ∈ es.toList.map (fun (e : MapEntry) => (e.key, e.val)) := h5 ▸ List.mem_map.2 ⟨x, hx, rfl⟩
  obtain ⟨e, he, hee⟩ := List.mem_map.1 hx'
  have hseen : e.born ∈ seen.toList := by
   refine Classical.byContradiction fun hn => ?_
   have hl : e ∈ (leftOf es seen) := by
    unfold leftOf
    rw [Array.mem_filter]
    exact ⟨by simpa using he, by simpa using hn⟩
   have := Array.size_pos_of_mem hl
   omega
  rw [← h8] at hseen
  obtain ⟨d, hd, hde⟩ := List.mem_map.1 hseen
  have hdd : (d.key, d.val) ∈ done.map (fun (p : K × V) => (ke p.1, ve p.2)) := h10 ▸ List.mem_map.2 ⟨d, hd, rfl⟩
  obtain ⟨y, hy, hye⟩ := List.mem_map.1 hdd
  have hborn : d = e := by
   obtain ⟨i, hi⟩ := List.getElem?_of_mem (h9 d hd)
   obtain ⟨j, hj⟩ := List.getElem?_of_mem he
   have e1 : (es.toList.map (·.born))[i]? = (es.toList.map (·.born))[j]? := by rw [List.getElem?_map, List.getElem?_map, hi, hj]; simp [hde]
   have hlt : i < (es.toList.map (·.born)).length := by have := (List.getElem?_eq_some_iff.1 hi).1; simpa using this
   have := (List.getElem?_inj hlt h7).1 e1
   subst this
   rw [hi] at hj; cases hj; rfl
  have hk : y.1 = x.1 := hinj _ _ ((congrArg Prod.fst hye).trans (by rw [hborn]; exact congrArg Prod.fst hee))
  have hyl := h11 y hy
  have hxy : y = x := by
   have a1 : lookK y.1 l = some y.2 := (lookK_iff h6).2 hyl
   have a2 : lookK x.1 l = some x.2 := (lookK_iff h6).2 hx
   rw [hk, a2] at a1
   exact Prod.ext hk (by simpa using a1.symm)
  rw [← hxy]; exact hy
 ·right
  have he' : e ∈ es.toList ∧ e.born ∉ seen.toList := by
   unfold leftOf at he
   simpa using he
  have hm : (e.key, e.val) ∈ l.map (fun (p : K × V) => (ke p.1, ve p.2)) := h5 ▸ List.mem_map.2 ⟨e, he'.1, rfl⟩
  obtain ⟨⟨k, v⟩, hkl, hkv⟩ := List.mem_map.1 hm
  simp only [Prod.mk.injEq] at hkv
  obtain ⟨hk, hv⟩ := hkv
  have hnew : k ∉ done.map Prod.fst := by
   intro hmem
   obtain ⟨y, hy, rfl⟩ := List.mem_map.1 hmem
   have hyd : (ke y.1, ve y.2) ∈ ds.map (fun (e : MapEntry) => (e.key, e.val)) := h10 ▸ List.mem_map.2 ⟨y, hy, rfl⟩
   obtain ⟨d, hd, hde⟩ := List.mem_map.1 hyd
   have := keyuniq d (h9 d hd) e he'.1 ((congrArg Prod.fst hde).trans hk)
   subst this
   exact he'.2 (h8 ▸ List.mem_map.2 ⟨d, hd, rfl⟩)
  have hw1' : Chg [] w w1 := by rcases hw1 with rfl | rfl; exact Chg.refl _ _; exact Chg.drew _
  have hput : Chg [it] w1 (setBlock w1 it (.mapIter (some m) since (seen.push e.born) clk)) := Chg.put
  have hit1 := hw1'.obj (by simp) h1
  have hm1 := hw1'.obj (by simp) h3
  have hit2 : (setBlock w1 it (.mapIter (some m) since (seen.push e.born) clk)).heap[it]? = some (.mapIter (some m) since (seen.push e.born) clk) := (MapKept.heap_set hit1).1
  have hm2 := hput.obj (by simpa using Ne.symm hne) hm1
  refine ⟨k, v, _, hkl, hnew, by rw [hk, hv]; exact hrun, hw1'.nil.trans hput (fun _ h _ => h), ?_, ?_⟩
  ·refine ⟨es, clk, since, clk, seen.push e.born, ds ++ [e], hit2, h2', h2', hm2, h4, h5, h6, h7, by simp [h8], fun d hd => ?_, by simp [h10, hk, hv], fun x hx => ?_, ?_⟩
   ·rcases List.mem_append.1 hd with hd | hd
    ·exact h9 d hd
    ·simp at hd; rw [hd]; exact he'.1
   ·rcases List.mem_append.1 hx with hx | hx
    ·exact h11 x hx
    ·simp at hx; rw [hx]; exact hkl
   ·rw [List.map_append, List.nodup_append]
    refine ⟨h12, by simp, fun a ha b hb e => ?_⟩
    simp at hb; subst hb; subst e; exact hnew ha
  ·rw [hk, hv]
   exact run_entry_at _ it m since seen es clk e hit2 hm2 he'.1 h7
end
theorem nodup_sub_length {α : Type} : ∀ {a b : List α}, a.Nodup → (∀ x ∈ a, x ∈ b) → a.length ≤ b.length
 | [], _, _, _ => Nat.zero_le _
 | x :: a, b, h, hs => by
  obtain ⟨s, t, rfl⟩ := List.append_of_mem (hs x (.head _))
  have := nodup_sub_length (a := a) (b := s ++ t) (List.nodup_cons.1 h).2 (fun y hy => by
   have h1 := hs y (.tail _ hy)
   have hne : y ≠ x := fun e => (List.nodup_cons.1 h).1 (e ▸ hy)
   simp only [List.mem_append, List.mem_cons] at h1 ⊢
   rcases h1 with h1 | h1 | h1
   ·exact .inl h1
   ·exact absurd h1 hne
   ·exact .inr h1)
  simp at this ⊢; omega
def seenN (w : World) (it : Nat) : Nat := match w.heap[it]? with | some (.mapIter _ _ seen _) => seen.size | _ => 0
theorem IterAt.count {K V : Type} [DecidableEq K] {ke : K → Value} {ve : V → Value} {w : World} {it m : Nat} {l done : List (K × V)} (h : IterAt w it m ke ve l done) : seenN w it = done.length := by
 obtain ⟨es, clk, since, c0, seen, ds, h1, h2, h2', h3, h4, h5, h6, h7, h8, h9, h10, h11, h12⟩ := h
 unfold seenN
 rw [h1]
 have a := congrArg List.length h8
 have b := congrArg List.length h10
 simp at a b
 simp only []
 omega
theorem IterAt.more {K V : Type} [DecidableEq K] {ke : K → Value} {ve : V → Value} {w : World} {it m : Nat} {l done : List (K × V)} (h : IterAt w it m ke ve l done) {k : K} {v : V} (hk : (k, v) ∈ l) (hn : k ∉ done.map Prod.fst) : done.length < l.length := by
 obtain ⟨es, clk, since, c0, seen, ds, h1, h2, h2', h3, h4, h5, h6, h7, h8, h9, h10, h11, h12⟩ := h
 have := nodup_sub_length (a := k :: done.map Prod.fst) (b := l.map Prod.fst) (List.nodup_cons.2 ⟨hn, h12⟩) (fun x hx => by
  rcases List.mem_cons.1 hx with rfl | hx
  ·exact List.mem_map.2 ⟨_, hk, rfl⟩
  ·obtain ⟨y, hy, rfl⟩ := List.mem_map.1 hx
   exact List.mem_map.2 ⟨y, h11 y hy, rfl⟩)
 simp at this; omega
theorem IterAt.sub {K V : Type} [DecidableEq K] {ke : K → Value} {ve : V → Value} {w : World} {it m : Nat} {l done : List (K × V)} (h : IterAt w it m ke ve l done) : (∀ x ∈ done, x ∈ l) ∧ (done.map Prod.fst).Nodup ∧ (l.map Prod.fst).Nodup := by
 obtain ⟨es, clk, since, c0, seen, ds, h1, h2, h2', h3, h4, h5, h6, h7, h8, h9, h10, h11, h12⟩ := h
 exact ⟨h11, h12, h6⟩
theorem IterAt.end_look {K V : Type} [DecidableEq K] {ke : K → Value} {ve : V → Value} {w : World} {it m : Nat} {l done : List (K × V)} (h : IterAt w it m ke ve l done) (ha : ∀ x ∈ l, x ∈ done) (k : K) : lookK k done = lookK k l := by
 obtain ⟨h1, h2, h3⟩ := h.sub
 cases hd : lookK k done with
 | some v => exact ((lookK_iff h3).2 (h1 _ ((lookK_iff h2).1 hd))).symm
 | none =>
  cases hl : lookK k l with
  | none => rfl
  | some v => rw [(lookK_iff h2).2 (ha _ ((lookK_iff h3).1 hl))] at hd; cases hd
theorem mem_upd {K V : Type} [DecidableEq K] {k : K} {v : V} {l : List (K × V)} {x : K × V} (h : x ∈ upd k v l) : x = (k, v) ∨ x ∈ l := by
 unfold upd at h
 split at h
 ·obtain ⟨y, hy, e⟩ := List.mem_map.1 h
  split at e
  ·exact .inl e.symm
  ·exact .inr (e ▸ hy)
 ·rcases List.mem_append.1 h with h | h
  ·exact .inr h
  ·simp at h; exact .inl h
end Go.X
end
section
/- Boxes of a function's own, of which nobody else knows: what stands in them. -/
namespace Go.X
open Go Go.RowKit
structure Boxes (w : World) (l : List (Nat × List Value × TypeId)) : Prop where
 heap : ∀ x ∈ l, w.heap[x.1]? = some (.cells x.2.1.toArray x.2.2 (0, 0))
 nodup : (l.map (·.1)).Nodup
def Same (w w' : World) (l : List Nat) : Prop := ∀ b ∈ l, w'.heap[b]? = w.heap[b]?
theorem Same.of {f : List Nat} {w w' : World} {l : List Nat} (h : Chg f w w') (hl : ∀ b ∈ l, b < w.heap.size ∧ b ∉ f) : Same w w' l := fun b hb => h.block b (hl b hb).1 (hl b hb).2
theorem Same.chg {w w' : World} {l : List Nat} (h : Chg [] w w') (hl : ∀ b ∈ l, b < w.heap.size) : Same w w' l := Same.of h fun b hb => ⟨hl b hb, by simp⟩
theorem Same.refl (w : World) (l : List Nat) : Same w w l := fun _ _ => rfl
section
variable {w w' w1 w0 : World} {l l' : List (Nat × List Value × TypeId)} {b o i : Nat} {cs cs' vs : List Value} {T : TypeId} {v : Value} {M : List Nat} {x : Obj}
theorem Boxes.nil (w : World) : Boxes w [] := ⟨by simp, by simp⟩
theorem Boxes.at (h : Boxes w l) (hi : l[i]? = some (b, cs, T)) : w.heap[b]? = some (.cells cs.toArray T (0, 0)) := h.heap _ (List.mem_of_getElem? hi)
theorem Boxes.chg {f : List Nat} (h : Boxes w l) (hc : Chg f w w1) (hf : ∀ x ∈ l, x.1 ∉ f) : Boxes w1 l := ⟨fun x hx => hc.obj (hf x hx) (h.heap x hx), h.nodup⟩
theorem Boxes.grow (h : Boxes w l) (hw : w1 = World.alloc w x) : Boxes w1 l := h.chg (f := []) (by subst hw; exact Chg.alloc _ _) (by simp)
theorem Boxes.drew (h : Boxes w l) (hw : w1 = World.drew w) : Boxes w1 l := h.chg (f := []) (by subst hw; exact Chg.drew _) (by simp)
theorem Boxes.alloc (h : Boxes w l) (hb : b = World.size w) (hw : w1 = World.alloc w (.cells cs.toArray T)) : Boxes w1 ((b, cs, T) :: l) := by
 have h1 := h.grow hw
 refine ⟨fun y hy => ?_, ?_⟩
 ·rcases List.mem_cons.1 hy with rfl | hy
  ·subst hb hw; exact heap_new w _
  ·exact h1.heap y hy
 ·rw [List.map_cons, List.nodup_cons]
  refine ⟨fun hm => ?_, h.nodup⟩
  obtain ⟨y, hy, e⟩ := List.mem_map.1 hm
  have := lt_of_heap (h.heap y hy)
  subst hb
  change y.1 = w.heap.size at e
  omega
theorem Boxes.same (h : Boxes w l) (hs : Same w w1 (l.map (·.1))) : Boxes w1 l := ⟨fun x hx => (hs _ (List.mem_map.2 ⟨x, hx, rfl⟩)).trans (h.heap x hx), h.nodup⟩
theorem sel_nodup : ∀ (is : List Nat), is.Nodup → (l.map (·.1)).Nodup → ((is.filterMap (fun i => l[i]?)).map (·.1)).Nodup
 | [], _, _ => by simp
 | i :: is, hi, hl => by
  have ih := sel_nodup is (List.nodup_cons.1 hi).2 hl
  rw [List.filterMap_cons]
  cases hx : l[i]? with
  | none => exact ih
  | some x =>
   simp only [List.map_cons, List.nodup_cons]
   refine ⟨fun hm => ?_, ih⟩
   obtain ⟨y, hy, e⟩ := List.mem_map.1 hm
   obtain ⟨j, hj, hjy⟩ := List.mem_filterMap.1 hy
   have h1 : (l.map (·.1))[i]? = some x.1 := by simp [hx]
   have h2 : (l.map (·.1))[j]? = some x.1 := by simp [hjy, e]
   have hlt : i < (l.map (·.1)).length := (List.getElem?_eq_some_iff.1 h1).1
   have : i = j := (List.getElem?_inj hlt hl).1 (h1.trans h2.symm)
   subst this
   exact (List.nodup_cons.1 hi).1 hj
theorem Boxes.sel (h : Boxes w l) (is : List Nat) (hn : is.Nodup) (hl : is.filterMap (fun i => l[i]?) = l') : Boxes w l' := by
 subst hl
 refine ⟨fun x hx => ?_, sel_nodup is hn h.nodup⟩
 obtain ⟨j, _, hj⟩ := List.mem_filterMap.1 hx
 exact h.heap x (List.mem_of_getElem? hj)
theorem Boxes.put (h : Boxes w l) (hi : l[i]? = some (b, cs, T)) (hc : Chg [b] w w1) (hb : w1.heap[b]? = some (.cells cs'.toArray T (0, 0))) : Boxes w1 (l.set i (b, cs', T)) := by
 have hm : (l.set i (b, cs', T)).map (·.1) = l.map (·.1) := by
  rw [List.map_set]
  apply List.ext_getElem?
  intro j
  rw [List.getElem?_set]
  split
  ·rename_i e; subst e
   split
   ·simp [hi]
   ·rename_i hlt
    rw [List.getElem?_eq_none (by omega)]
  ·rfl
 refine ⟨fun x hx => ?_, by rw [hm]; exact h.nodup⟩
 obtain ⟨j, hj⟩ := List.getElem?_of_mem hx
 rw [List.getElem?_set] at hj
 split at hj
 ·split at hj
  ·cases hj; exact hb
  ·cases hj
 ·rename_i hne
  have hx' := h.heap x (List.mem_of_getElem? hj)
  refine hc.obj (fun hm => ?_) hx'
  simp at hm
  have h1 : (l.map (·.1))[j]? = some b := by simp [hj, hm]
  have h2 : (l.map (·.1))[i]? = some b := by simp [hi]
  have hlt : i < (l.map (·.1)).length := (List.getElem?_eq_some_iff.1 h2).1
  exact hne ((List.getElem?_inj hlt h.nodup).1 (h2.trans h1.symm))
theorem Boxes.store (h : Boxes w l) (hi : l[i]? = some (b, cs, T)) (hc : cs.take o ++ vs ++ cs.drop (o + vs.length) = cs') (hl : l.set i (b, cs', T) = l') (hle : Nat.ble (o + vs.length) cs.length = true) (hw : w1 = setCells w ⟨b, o, none⟩ 0 vs) : Boxes w1 l' := by
 subst hl hw hc
 have hle' := Nat.le_of_ble_eq_true hle
 refine h.put hi (Chg.setCells ⟨b, o, none⟩ vs 0 w) ?_
 have h1 := h.at hi
 have e : cs = cs.take o ++ (cs.drop o).take vs.length ++ cs.drop (o + vs.length) := by
  rw [← List.drop_drop, List.append_assoc, List.take_append_drop, List.take_append_drop]
 have ho : (cs.take o).length = o := by rw [List.length_take]; omega
 have := setCells_mid (w := w) (b := b) (t := T) (pre := cs.take o) (zs := (cs.drop o).take vs.length) (post := cs.drop (o + vs.length)) (vs := vs) (by rw [List.length_take, List.length_drop]; omega) (by rw [← e]; exact h1)
 rwa [ho] at this
theorem Boxes.store1 (h : Boxes w l) (hi : l[i]? = some (b, cs, T)) (hc : cs.take o ++ [v] ++ cs.drop (o + 1) = cs') (hl : l.set i (b, cs', T) = l') (hle : Nat.ble (o + 1) cs.length = true) (hw : w1 = World.setCell w ⟨b, o, none⟩ v) : Boxes w1 l' :=
 h.store (vs := [v]) hi hc hl hle (by rw [hw]; simp only [setCells, add_at, Nat.add_zero])
theorem box_cell {fr : Nat × Nat} (h : w.heap[b]? = some (.cells cs.toArray T fr)) (hv : cs[o]? = some v) : w.cell? ⟨b, o, none⟩ = some v := by
 rw [cell_of h]; simpa using hv
theorem box_cells {fr : Nat × Nat} (h : w.heap[b]? = some (.cells cs.toArray T fr)) (hv : (cs.drop o).take vs.length = vs) : CellsAt w ⟨b, o, none⟩ 0 vs := by
 have : ∀ (vs : List Value) (k : Nat), (∀ j v, vs[j]? = some v → cs[o + k + j]? = some v) → CellsAt w ⟨b, o, none⟩ k vs := by
  intro vs
  induction vs with
  | nil => intro k _; trivial
  | cons v vs ih =>
   intro k hk
   refine ⟨by rw [add_at]; exact box_cell h (by simpa using hk 0 v rfl), ih (k + 1) fun j u hj => ?_⟩
   have := hk (j + 1) u (by simpa using hj)
   rwa [show o + k + (j + 1) = o + (k + 1) + j by omega] at this
 refine this vs 0 fun j v hj => ?_
 rw [← hv, List.getElem?_take] at hj
 split at hj
 ·rw [List.getElem?_drop] at hj; simpa using hj
 ·cases hj
theorem sil_lo (h : Chg M w0 w) (hb : b = World.size w) : w0.heap.size ≤ b := by subst hb; exact h.size
theorem sil_alloc (h : Chg M w0 w) (hw : w1 = World.alloc w x) : Chg M w0 w1 := by subst hw; exact h.trans (g := []) (Chg.alloc _ _) (by simp)
theorem sil_drew (h : Chg M w0 w) (hw : w1 = World.drew w) : Chg M w0 w1 := by subst hw; exact h.trans (g := []) (Chg.drew _) (by simp)
theorem sil_cN {q : Addr} (hw : w1 = setCells w q 0 vs) : Chg [q.block] w w1 := by subst hw; exact Chg.setCells _ _ _ _
theorem sil_c1 {q : Addr} (hw : w1 = World.setCell w q v) : Chg [q.block] w w1 := by subst hw; exact Chg.setCell _ _ _
theorem sil_new (h : Chg M w0 w) (hc : Chg [b] w w1) (hb : w0.heap.size ≤ b) : Chg M w0 w1 := h.trans hc (fun i hi hlt => by simp at hi; omega)
theorem sil_more (h : Chg M w0 w) (hc : Chg [b] w w1) : Chg (M ++ [b]) w0 w1 := (h.mono (fun i hi _ => List.mem_append_left _ hi)).trans hc (fun i hi _ => by simp at hi; simp [hi])
theorem equalIn_map_nil {P : Program} (d : Nat) {t k e : TypeId} (m : Option Nat) (h : P.underlying t = some (.map k e)) (w : World) : (Op.equalIn (d + 1) t (.map m) (.map none)).run P w = .ok m.isNone w := by
 cases m <;> simp [Op.equalIn, run_underlying h]
theorem map_nil_eq {P : Program} {T : TypeId} {x y : Operand} (hT : (match P.underlying T with | some (.map _ _) => true | _ => false) = true) (m : Option Nat) (w : World) :
  ((do eqGuard .eql T x y (.map m) (.map none); binOp .eql T (.map m) (.map none) : Sem Value)).run P w = .ok (.bool (Option.isNone m)) w := by
 have h1 : (eqGuard .eql T x y (.map m) (.map none)).run P w = .ok () w := by simp [eqGuard]
 simp only [Sem.run_bind, h1, Result.andThen_ok]
 cases hu : P.underlying T with
 | none => rw [hu] at hT; cases hT
 | some u =>
  rw [hu] at hT
  cases u with
  | map k e =>
   simp only [binOp]
   have : (Op.equal T (.map m) (.map none)).run P w = .ok m.isNone w := by
    exact equalIn_map_nil 9999 m hu w
   simp [this]
  | _ => cases hT
end
section
variable {P : Program} {N : Nat} {D : List Deferred} {E : Env} {w w' : World} {d : Option Nat} {T : TypeId} {p : String} {af : Array Edge} {g : Option (Nat × Bool)} {S : World → Prop} {v : Value}
theorem Rd.makeInterface {t : TypeId} {x : Operand} {vx : Value} (hx : opd E x = some vx) (hr : ∀ w, (Instr.makeInterface t vx).run P w = .ok v w) : Rd P N D E ⟨d, .makeInterface t x, T, p, af, g⟩ v S := fun a ha w _ => by
 simp [execOp, ha.eval hx, hr]
theorem Rd.typeAssert {t u : TypeId} {ok : Bool} {x : Operand} {vx : Value} (hx : opd E x = some vx) (hr : ∀ w, (Instr.typeAssert vx t u ok).run P w = .ok v w) : Rd P N D E ⟨d, .typeAssert x t u ok, T, p, af, g⟩ v S := fun a ha w _ => by
 simp [execOp, ha.eval hx, hr]
theorem Vl.extern {f : Nat} {args : Array Operand} {ts : Array TypeId} {vs : List Value} (hx : opdL E args.toList = some vs) (hr : (callFunc f vs.toArray).run P w = .ok (.value v) w') :
  Vl P N D E ⟨d, .call ⟨.value (.func f), args, ts⟩, T, p, af, g⟩ w v w' := fun a ha => by
 have h1 : args.map a.eval = vs.toArray := opdL_map ha hx
 simp [execOp, resolve, Act.eval, Deferred.ofValue, invoke, h1, hr]
end
end Go.X
end
