import Derived.Test.YtkfncibmfcdokaaProg
import Derived.Test.YtkfncibmfcdokaaXRun
set_option linter.unusedVariables false
set_option linter.unusedSimpArgs false
namespace Go.Proofs.Ytkfncibmfcdokaa
open Go.X

def z181 : List Value := List.replicate 1 (Value.int .i64 0) ++ List.replicate 64 (Value.int .u32 0)
/- (*pomander/shadow.Shadow).none -/
def V_shadow_Shadow_none (s1 : Option Addr) (w : World) (R : Bool → World → Prop) : Prop :=
  ∃ J1 : Bool → World → Prop, (∀ (b1 : Bool) (w1 : World), J1 b1 w1 → R b1 w1) ∧ (((Option.isNone s1) = false → ∃ a1 : Addr, s1 = some a1 ∧ (∃ (t1 : Int), w.cell? a1 = some (.int .i64 t1) ∧ (J1 (t1 == 0) w))) ∧ ((Option.isNone s1) = true → J1 true w))
set_option maxRecDepth 100000 in
theorem ok_shadow_Shadow_none (s1 : Option Addr) (w : World) (R : Bool → World → Prop) (h : V_shadow_Shadow_none s1 w R) : Calls Try.prog 90 #[.pointer s1] w (fun e w' => ∃ (r1 : Bool), e = .returned (.bool r1) ∧ R r1 w') := by
  unfold V_shadow_Shadow_none at h
  refine enter (N := 12) Try.func90 rfl rfl ?_
  refine CW.seq ?_
  refine CW.region fun L hL => ?_
  refine LW.rd hL rfl (Wants.free rfl) rfl (Rd.assign (v := .bool false) rfl) ?_
  refine LW.nil hL rfl ?_
  refine NW.then ?_
  refine CW.seq ?_
  refine CW.region fun L hL => ?_
  refine LW.rd hL rfl (Wants.free rfl) rfl (Rd.move (v := .pointer s1) rfl) ?_
  refine LW.rd hL rfl (Wants.free rfl) rfl (Rd.bin (v := .bool (Option.isNone s1)) rfl rfl (fun w => ptr_nil_eq (by kernel_rfl) s1 w)) ?_
  refine LW.rd hL rfl (Wants.free rfl) rfl (Rd.move (v := .bool (Option.isNone s1)) rfl) ?_
  obtain ⟨J1, hJ1, h1_J1, h0_J1⟩ := h
  suffices K1 : ∀ (b1 : Bool) (w1 : World), J1 b1 w1 → L 9 [(2, .bool false), (11, .bool b1)] w1 by
    rcases Bool.eq_false_or_eq_true (Option.isNone s1) with hb1 | hb1
    · have h := h0_J1 hb1
      refine LW.skip hL rfl (Skips.on rfl rfl rfl rfl rfl hb1) rfl ?_
      refine LW.skip hL rfl (Skips.on rfl rfl rfl rfl rfl hb1) rfl ?_
      refine LW.skip hL rfl (Skips.on rfl rfl rfl rfl rfl hb1) rfl ?_
      refine LW.skip hL rfl (Skips.on rfl rfl rfl rfl rfl hb1) rfl ?_
      refine LW.skip hL rfl (Skips.on rfl rfl rfl rfl rfl hb1) rfl ?_
      refine LW.rd hL rfl (Wants.free rfl) rfl (Rd.pickT rfl hb1 rfl) ?_
      exact LW.sub hL (by exact ⟨rfl, rfl, trivial⟩) (K1 true w h)
    · have h := h1_J1 hb1
      refine LW.rd hL rfl (Wants.on rfl rfl rfl rfl rfl hb1) rfl (Rd.move (v := .pointer s1) rfl) ?_
      obtain ⟨a1, ha1, h⟩ := h
      refine LW.rd hL rfl (Wants.on rfl rfl rfl rfl rfl hb1) rfl (Rd.nil (q := a1) (by rw [← ha1]; rfl)) ?_
      refine LW.rd hL rfl (Wants.on rfl rfl rfl rfl rfl hb1) rfl (Rd.fa (v := .pointer (some a1)) rfl (fun _ => by kernel_rfl)) ?_
      obtain ⟨t1, hc1, h⟩ := h
      refine LW.rd hL rfl (Wants.on rfl rfl rfl rfl rfl hb1) rfl (Rd.ld (v := .int .i64 t1) rfl (by kernel_rfl) (eqs hc1)) ?_
      refine LW.rd hL rfl (Wants.on rfl rfl rfl rfl rfl hb1) rfl (Rd.bin (v := .bool (t1 == 0)) rfl rfl (fun w => by kernel_rfl)) ?_
      refine LW.rd hL rfl (Wants.free rfl) rfl (Rd.pickF rfl hb1 rfl) ?_
      exact LW.sub hL (by exact ⟨rfl, rfl, trivial⟩) (K1 (t1 == 0) w h)
  intro b1 w1 h_
  have h := hJ1 b1 w1 h_; clear h_
  refine LW.rd hL rfl (Wants.free rfl) rfl (Rd.assign (v := .bool b1) rfl) ?_
  refine LW.nil hL rfl ?_
  refine NW.then ?_
  refine CW.ret ?_
  exact res1 rfl rfl ⟨b1, rfl, h⟩

/- (*pomander/shadow.Shadow).Size -/
def V_shadow_Shadow_Size (s1 : Option Addr) (w : World) (R : Int → World → Prop) : Prop :=
  Calls Try.prog 90 #[.pointer s1] w fun e w1 => ∃ (r2 : Bool), e = .returned (.bool r2) ∧ ((r2 = true → R 0 w1) ∧ (r2 = false → ∃ a1 : Addr, s1 = some a1 ∧ (∃ (t1 : Int), w1.cell? a1 = some (.int .i64 t1) ∧ (R (IntKind.wrap .i64 (t1 * 64)) w1))))
set_option maxRecDepth 100000 in
theorem ok_shadow_Shadow_Size (s1 : Option Addr) (w : World) (R : Int → World → Prop) (h : V_shadow_Shadow_Size s1 w R) : Calls Try.prog 54 #[.pointer s1] w (fun e w' => ∃ (r1 : Int), e = .returned (.int .i64 r1) ∧ R r1 w') := by
  unfold V_shadow_Shadow_Size at h
  refine enter (N := 10) Try.func54 rfl rfl ?_
  refine CW.seq ?_
  refine CW.region fun L hL => ?_
  refine LW.rd hL rfl (Wants.free rfl) rfl (Rd.assign (v := .int .i64 0) rfl) ?_
  refine LW.nil hL rfl ?_
  refine NW.then ?_
  refine CW.seq ?_
  refine CW.seq ?_
  refine CW.region fun L hL => ?_
  refine LW.rd hL rfl (Wants.free rfl) rfl (Rd.move (v := .pointer s1) rfl) ?_
  refine LW.call hL rfl (Wants.free rfl) rfl (Cl.fn (f := 90) rfl Try.func90 (by kernel_rfl) rfl) h (fun e w1 h_ => ?_)
  clear h
  obtain ⟨r2, rfl, h⟩ := h_
  refine ⟨_, rfl, ?_⟩
  refine LW.nil hL rfl ?_
  refine NW.then ?_
  refine CW.cond rfl (fun hb1 => ?_) (fun hb1 => ?_)
  · replace h := h.1 hb1
    refine CW.seq ?_
    refine CW.region fun L hL => ?_
    refine LW.rd hL rfl (Wants.free rfl) rfl (Rd.assign (v := .int .i64 0) rfl) ?_
    refine LW.nil hL rfl ?_
    refine NW.then ?_
    refine CW.ret ?_
    refine RW.then ?_
    exact res1 rfl rfl ⟨0, rfl, h⟩
  · replace h := h.2 hb1
    refine CW.skip ?_
    refine NW.then ?_
    refine CW.seq ?_
    refine CW.region fun L hL => ?_
    refine LW.rd hL rfl (Wants.free rfl) rfl (Rd.move (v := .pointer s1) rfl) ?_
    obtain ⟨a1, ha1, h⟩ := h
    refine LW.rd hL rfl (Wants.free rfl) rfl (Rd.nil (q := a1) (by rw [← ha1]; rfl)) ?_
    refine LW.rd hL rfl (Wants.free rfl) rfl (Rd.fa (v := .pointer (some a1)) rfl (fun _ => by kernel_rfl)) ?_
    obtain ⟨t1, hc1, h⟩ := h
    refine LW.rd hL rfl (Wants.free rfl) rfl (Rd.ld (v := .int .i64 t1) rfl (by kernel_rfl) (eqs hc1)) ?_
    refine LW.rd hL rfl (Wants.free rfl) rfl (Rd.bin (v := .int .i64 (IntKind.wrap .i64 (t1 * 64))) rfl rfl (fun w => by kernel_rfl)) ?_
    refine LW.rd hL rfl (Wants.free rfl) rfl (Rd.assign (v := .int .i64 (IntKind.wrap .i64 (t1 * 64))) rfl) ?_
    refine LW.nil hL rfl ?_
    refine NW.then ?_
    refine CW.ret ?_
    exact res1 rfl rfl ⟨IntKind.wrap .i64 (t1 * 64), rfl, h⟩

/- (*pomander/shadow.Shadow).get -/
def V_shadow_Shadow_get (s1 : Option Addr) (at1 : Int) (w : World) (R : Int → World → Prop) : Prop :=
  ∃ a1 : Addr, s1 = some a1 ∧ (∃ (t1 : Option Nat), w.cell? (a1.add 1) = some (.map t1) ∧ (∃ (v1 : Option Addr) (ok1 : Bool), (Instr.lookup 173 (.map t1) (.int .i64 (IntKind.wrap .i64 (at1.tdiv 64))) true).run Try.prog w = .ok (.tuple #[.pointer v1, .bool ok1]) w ∧ (((!ok1) = true → R 0 w) ∧ ((!ok1) = false → ∃ a2 : Addr, v1 = some a2 ∧ (0 ≤ at1.tmod 64 ∧ at1.tmod 64 < 64 ∧ (∃ (t2 : Int), w.cell? ((a2.add 1).add ((at1.tmod 64).toNat * 1)) = some (.int .u32 t2) ∧ (R t2 w)))))))
set_option maxRecDepth 100000 in
theorem ok_shadow_Shadow_get (s1 : Option Addr) (at1 : Int) (w : World) (R : Int → World → Prop) (h : V_shadow_Shadow_get s1 at1 w R) : Calls Try.prog 87 #[.pointer s1, .int .i64 at1] w (fun e w' => ∃ (r1 : Int), e = .returned (.int .u32 r1) ∧ R r1 w') := by
  unfold V_shadow_Shadow_get at h
  refine enter (N := 26) Try.func87 rfl rfl ?_
  refine CW.seq ?_
  refine CW.region fun L hL => ?_
  refine LW.rd hL rfl (Wants.free rfl) rfl (Rd.assign (v := .int .u32 0) rfl) ?_
  refine LW.nil hL rfl ?_
  refine NW.then ?_
  refine CW.seq ?_
  refine CW.region fun L hL => ?_
  refine LW.rd hL rfl (Wants.free rfl) rfl (Rd.move (v := .pointer s1) rfl) ?_
  obtain ⟨a1, ha1, h⟩ := h
  refine LW.rd hL rfl (Wants.free rfl) rfl (Rd.nil (q := a1) (by rw [← ha1]; rfl)) ?_
  refine LW.rd hL rfl (Wants.free rfl) rfl (Rd.fa (v := .pointer (some (a1.add 1))) rfl (fun _ => by kernel_rfl)) ?_
  obtain ⟨t1, hc1, h⟩ := h
  refine LW.rd hL rfl (Wants.free rfl) rfl (Rd.ld (v := .map t1) rfl (by kernel_rfl) (eqs hc1)) ?_
  refine LW.rd hL rfl (Wants.free rfl) rfl (Rd.move (v := .int .i64 at1) rfl) ?_
  refine LW.rd hL rfl (Wants.free rfl) rfl (Rd.bin (v := .int .i64 (IntKind.wrap .i64 (at1.tdiv 64))) rfl rfl (fun w => by kernel_rfl)) ?_
  obtain ⟨v1, ok1, hl1, h⟩ := h
  refine LW.rd hL rfl (Wants.free rfl) rfl (Rd.lookup (v := .tuple #[.pointer v1, .bool ok1]) rfl rfl (fun _ e => e ▸ hl1)) ?_
  refine LW.rd hL rfl (Wants.free rfl) rfl (Rd.move (v := .tuple #[.pointer v1, .bool ok1]) rfl) ?_
  refine LW.rd hL rfl (Wants.free rfl) rfl (Rd.extract (v := .pointer v1) rfl rfl) ?_
  refine LW.rd hL rfl (Wants.free rfl) rfl (Rd.extract (v := .bool ok1) rfl rfl) ?_
  refine LW.rd hL rfl (Wants.free rfl) rfl (Rd.assign (v := .pointer v1) rfl) ?_
  refine LW.rd hL rfl (Wants.free rfl) rfl (Rd.assign (v := .bool ok1) rfl) ?_
  refine LW.nil hL rfl ?_
  refine NW.then ?_
  refine CW.seq ?_
  refine CW.seq ?_
  refine CW.region fun L hL => ?_
  refine LW.rd hL rfl (Wants.free rfl) rfl (Rd.move (v := .bool ok1) rfl) ?_
  refine LW.rd hL rfl (Wants.free rfl) rfl (Rd.un (v := .bool (!ok1)) rfl (fun _ => by kernel_rfl)) ?_
  refine LW.nil hL rfl ?_
  refine NW.then ?_
  refine CW.cond rfl (fun hb1 => ?_) (fun hb1 => ?_)
  · replace h := h.1 hb1
    refine CW.seq ?_
    refine CW.region fun L hL => ?_
    refine LW.rd hL rfl (Wants.free rfl) rfl (Rd.assign (v := .int .u32 0) rfl) ?_
    refine LW.nil hL rfl ?_
    refine NW.then ?_
    refine CW.ret ?_
    refine RW.then ?_
    exact res1 rfl rfl ⟨0, rfl, h⟩
  · replace h := h.2 hb1
    refine CW.skip ?_
    refine NW.then ?_
    refine CW.seq ?_
    refine CW.region fun L hL => ?_
    refine LW.rd hL rfl (Wants.free rfl) rfl (Rd.move (v := .pointer v1) rfl) ?_
    refine LW.rd hL rfl (Wants.free rfl) rfl (Rd.move (v := .int .i64 at1) rfl) ?_
    refine LW.rd hL rfl (Wants.free rfl) rfl (Rd.bin (v := .int .i64 (at1.tmod 64)) rfl rfl (fun w => by kernel_rfl)) ?_
    obtain ⟨a2, ha2, h⟩ := h
    refine LW.rd hL rfl (Wants.free rfl) rfl (Rd.nil (q := a2) (by rw [← ha2]; rfl)) ?_
    refine LW.rd hL rfl (Wants.free rfl) rfl (Rd.fa (v := .pointer (some (a2.add 1))) rfl (fun _ => by kernel_rfl)) ?_
    obtain ⟨hi1, hi2, h⟩ := h
    refine LW.rd hL rfl (Wants.free rfl) rfl (Rd.iaA (sz := 1) rfl rfl Try.underlying179 (by kernel_rfl) hi1 hi2) ?_
    obtain ⟨t2, hc2, h⟩ := h
    refine LW.rd hL rfl (Wants.free rfl) rfl (Rd.ld (v := .int .u32 t2) rfl (by kernel_rfl) (eqs hc2)) ?_
    refine LW.rd hL rfl (Wants.free rfl) rfl (Rd.assign (v := .int .u32 t2) rfl) ?_
    refine LW.nil hL rfl ?_
    refine NW.then ?_
    refine CW.ret ?_
    exact res1 rfl rfl ⟨t2, rfl, h⟩

/- (*pomander/shadow.Shadow).put -/
def V_shadow_Shadow_put (s1 : Option Addr) (at1 : Int) (set1 : Int) (w : World) (R : World → Prop) : Prop :=
  ∃ a1 : Addr, s1 = some a1 ∧ (∃ (t1 : Option Nat), w.cell? (a1.add 1) = some (.map t1) ∧ (∃ (v1 : Option Addr) (ok1 : Bool), (Instr.lookup 173 (.map t1) (.int .i64 (IntKind.wrap .i64 (at1.tdiv 64))) true).run Try.prog w = .ok (.tuple #[.pointer v1, .bool ok1]) w ∧ (∃ J1 : (Option Addr) → World → Prop, (∀ (s2 : (Option Addr)) (w1 : World), J1 s2 w1 → ∃ J2 : Unit → World → Prop, (∀ (s3 : Unit) (w2 : World), J2 s3 w2 → ∃ J3 : Unit → World → Prop, (∀ (s4 : Unit) (w3 : World), J3 s4 w3 → ∃ a2 : Addr, s2 = some a2 ∧ (0 ≤ at1.tmod 64 ∧ at1.tmod 64 < 64 ∧ ((∃ o : Value, w3.cell? ((a2.add 1).add ((at1.tmod 64).toNat * 1)) = some o) ∧ w3.frozen? ((a2.add 1).add ((at1.tmod 64).toNat * 1)) = false ∧ ∀ w4 : World, w4 = World.setCell w3 ((a2.add 1).add ((at1.tmod 64).toNat * 1)) (.int .u32 set1) → (∃ a3 : Addr, s2 = some a3 ∧ (∃ (t2 : Int), w4.cell? a3 = some (.int .i64 t2) ∧ (((t2 == 0) = true → ∃ a4 : Addr, s1 = some a4 ∧ (∃ (t3 : Option Nat), w4.cell? (a4.add 1) = some (.map t3) ∧ (∃ w5 : World, (Builtin.delete_ #[173, 3] 0 #[.map t3, .int .i64 (IntKind.wrap .i64 (at1.tdiv 64))]).run Try.prog w4 = .ok (.tuple #[]) w5 ∧ (R w5)))) ∧ ((t2 == 0) = false → R w4))))))) ∧ (((!(set1 == 0)) = true → ∃ a5 : Addr, s2 = some a5 ∧ (∃ (t4 : Int), w2.cell? a5 = some (.int .i64 t4) ∧ (∃ a6 : Addr, s2 = some a6 ∧ ((∃ o : Value, w2.cell? a6 = some o) ∧ w2.frozen? a6 = false ∧ ∀ w6 : World, w6 = World.setCell w2 a6 (.int .i64 (IntKind.wrap .i64 (t4 + 1))) → (J3 () w6))))) ∧ ((!(set1 == 0)) = false → J3 () w2))) ∧ (∃ a7 : Addr, s2 = some a7 ∧ (0 ≤ at1.tmod 64 ∧ at1.tmod 64 < 64 ∧ (∃ (t5 : Int), w1.cell? ((a7.add 1).add ((at1.tmod 64).toNat * 1)) = some (.int .u32 t5) ∧ (((!(t5 == 0)) = true → ∃ a8 : Addr, s2 = some a8 ∧ (∃ (t6 : Int), w1.cell? a8 = some (.int .i64 t6) ∧ (∃ a9 : Addr, s2 = some a9 ∧ ((∃ o : Value, w1.cell? a9 = some o) ∧ w1.frozen? a9 = false ∧ ∀ w7 : World, w7 = World.setCell w1 a9 (.int .i64 (IntKind.wrap .i64 (t6 - 1))) → (J2 () w7))))) ∧ ((!(t5 == 0)) = false → J2 () w1)))))) ∧ (((!ok1) = true → ((set1 == 0) = true → R w) ∧ ((set1 == 0) = false → ∀ b1 : Nat, b1 = World.size w → ∀ w8 : World, w8 = World.alloc w (.cells z181.toArray 181) → (∃ a10 : Addr, s1 = some a10 ∧ (∃ (t7 : Option Nat), w8.cell? (a10.add 1) = some (.map t7) ∧ (∃ w9 : World, (Instr.mapUpdate 173 (.map t7) (.int .i64 (IntKind.wrap .i64 (at1.tdiv 64))) (.pointer (some ⟨b1, 0, none⟩))).run Try.prog w8 = .ok () w9 ∧ (J1 (some ⟨b1, 0, none⟩) w9)))))) ∧ ((!ok1) = false → J1 v1 w)))))
set_option maxRecDepth 100000 in
theorem ok_shadow_Shadow_put (s1 : Option Addr) (at1 : Int) (set1 : Int) (w : World) (R : World → Prop) (h : V_shadow_Shadow_put s1 at1 set1 w R) : Calls Try.prog 92 #[.pointer s1, .int .i64 at1, .int .u32 set1] w (fun e w' => e = .returned (.tuple #[]) ∧ R w') := by
  unfold V_shadow_Shadow_put at h
  refine enter (N := 79) Try.func92 rfl rfl ?_
  refine CW.seq ?_
  refine CW.region fun L hL => ?_
  refine LW.rd hL rfl (Wants.free rfl) rfl (Rd.move (v := .int .i64 at1) rfl) ?_
  refine LW.rd hL rfl (Wants.free rfl) rfl (Rd.bin (v := .int .i64 (IntKind.wrap .i64 (at1.tdiv 64))) rfl rfl (fun w => by kernel_rfl)) ?_
  refine LW.rd hL rfl (Wants.free rfl) rfl (Rd.move (v := .int .i64 at1) rfl) ?_
  refine LW.rd hL rfl (Wants.free rfl) rfl (Rd.bin (v := .int .i64 (at1.tmod 64)) rfl rfl (fun w => by kernel_rfl)) ?_
  refine LW.rd hL rfl (Wants.free rfl) rfl (Rd.assign (v := .int .i64 (IntKind.wrap .i64 (at1.tdiv 64))) rfl) ?_
  refine LW.rd hL rfl (Wants.free rfl) rfl (Rd.assign (v := .int .i64 (at1.tmod 64)) rfl) ?_
  refine LW.nil hL rfl ?_
  refine NW.then ?_
  refine CW.seq ?_
  refine CW.region fun L hL => ?_
  refine LW.rd hL rfl (Wants.free rfl) rfl (Rd.move (v := .pointer s1) rfl) ?_
  obtain ⟨a1, ha1, h⟩ := h
  refine LW.rd hL rfl (Wants.free rfl) rfl (Rd.nil (q := a1) (by rw [← ha1]; rfl)) ?_
  refine LW.rd hL rfl (Wants.free rfl) rfl (Rd.fa (v := .pointer (some (a1.add 1))) rfl (fun _ => by kernel_rfl)) ?_
  obtain ⟨t1, hc1, h⟩ := h
  refine LW.rd hL rfl (Wants.free rfl) rfl (Rd.ld (v := .map t1) rfl (by kernel_rfl) (eqs hc1)) ?_
  refine LW.rd hL rfl (Wants.free rfl) rfl (Rd.move (v := .int .i64 (IntKind.wrap .i64 (at1.tdiv 64))) rfl) ?_
  obtain ⟨v1, ok1, hl1, h⟩ := h
  refine LW.rd hL rfl (Wants.free rfl) rfl (Rd.lookup (v := .tuple #[.pointer v1, .bool ok1]) rfl rfl (fun _ e => e ▸ hl1)) ?_
  refine LW.rd hL rfl (Wants.free rfl) rfl (Rd.move (v := .tuple #[.pointer v1, .bool ok1]) rfl) ?_
  refine LW.rd hL rfl (Wants.free rfl) rfl (Rd.extract (v := .pointer v1) rfl rfl) ?_
  refine LW.rd hL rfl (Wants.free rfl) rfl (Rd.extract (v := .bool ok1) rfl rfl) ?_
  refine LW.rd hL rfl (Wants.free rfl) rfl (Rd.assign (v := .pointer v1) rfl) ?_
  refine LW.rd hL rfl (Wants.free rfl) rfl (Rd.assign (v := .bool ok1) rfl) ?_
  refine LW.nil hL rfl ?_
  refine NW.then ?_
  obtain ⟨J1, hJ1, h⟩ := h
  refine CW.cut (S := (Option Addr)) (fun s2 => [(0, .pointer s1), (2, .int .u32 set1), (6, .int .i64 (IntKind.wrap .i64 (at1.tdiv 64))), (7, .int .i64 (at1.tmod 64)), (8, .pointer s2)]) J1 (fun s2 w1 h_ => ?_) ?_
  · replace h := hJ1 s2 w1 h_; clear h_
    obtain ⟨J2, hJ2, h⟩ := h
    refine CW.cut (S := Unit) (fun s3 => [(0, .pointer s1), (2, .int .u32 set1), (6, .int .i64 (IntKind.wrap .i64 (at1.tdiv 64))), (7, .int .i64 (at1.tmod 64)), (8, .pointer s2)]) J2 (fun s3 w2 h_ => ?_) ?_
    · replace h := hJ2 s3 w2 h_; clear h_
      obtain ⟨J3, hJ3, h⟩ := h
      refine CW.cut (S := Unit) (fun s4 => [(0, .pointer s1), (2, .int .u32 set1), (6, .int .i64 (IntKind.wrap .i64 (at1.tdiv 64))), (7, .int .i64 (at1.tmod 64)), (8, .pointer s2)]) J3 (fun s4 w3 h_ => ?_) ?_
      · replace h := hJ3 s4 w3 h_; clear h_
        refine CW.seq ?_
        refine CW.region fun L hL => ?_
        refine LW.rd hL rfl (Wants.free rfl) rfl (Rd.move (v := .pointer s2) rfl) ?_
        refine LW.rd hL rfl (Wants.free rfl) rfl (Rd.move (v := .int .i64 (at1.tmod 64)) rfl) ?_
        refine LW.rd hL rfl (Wants.free rfl) rfl (Rd.move (v := .int .u32 set1) rfl) ?_
        obtain ⟨a2, ha2, h⟩ := h
        refine LW.rd hL rfl (Wants.free rfl) rfl (Rd.nil (q := a2) (by rw [← ha2]; rfl)) ?_
        refine LW.rd hL rfl (Wants.free rfl) rfl (Rd.fa (v := .pointer (some (a2.add 1))) rfl (fun _ => by kernel_rfl)) ?_
        obtain ⟨hi1, hi2, h⟩ := h
        refine LW.rd hL rfl (Wants.free rfl) rfl (Rd.iaA (sz := 1) rfl rfl Try.underlying179 (by kernel_rfl) hi1 hi2) ?_
        obtain ⟨⟨o_w4, ho1⟩, hf1, h⟩ := h
        obtain ⟨w4, hw_w4⟩ : ∃ w4, w4 = World.setCell w3 ((a2.add 1).add ((at1.tmod 64).toNat * 1)) (.int .u32 set1) := ⟨_, rfl⟩
        replace h := h w4 hw_w4
        refine LW.eff hL rfl (Wants.free rfl) rfl (stE hw_w4 (Ef.st rfl rfl rfl (by kernel_rfl) ho1 hf1)) ?_
        refine LW.nil hL rfl ?_
        refine NW.then ?_
        refine CW.seq ?_
        refine CW.region fun L hL => ?_
        refine LW.rd hL rfl (Wants.free rfl) rfl (Rd.move (v := .pointer s2) rfl) ?_
        obtain ⟨a3, ha3, h⟩ := h
        refine LW.rd hL rfl (Wants.free rfl) rfl (Rd.nil (q := a3) (by rw [← ha3]; rfl)) ?_
        refine LW.rd hL rfl (Wants.free rfl) rfl (Rd.fa (v := .pointer (some a3)) rfl (fun _ => by kernel_rfl)) ?_
        refine LW.rd hL rfl (Wants.free rfl) rfl (Rd.fa (v := .pointer (some a3)) rfl (fun _ => by kernel_rfl)) ?_
        obtain ⟨t2, hc2, h⟩ := h
        refine LW.rd hL rfl (Wants.free rfl) rfl (Rd.ld (v := .int .i64 t2) rfl (by kernel_rfl) (eqs hc2)) ?_
        refine LW.rd hL rfl (Wants.free rfl) rfl (Rd.bin (v := .bool (t2 == 0)) rfl rfl (fun w => by kernel_rfl)) ?_
        refine LW.nil hL rfl ?_
        refine NW.then ?_
        refine CW.cond rfl (fun hb1 => ?_) (fun hb1 => ?_)
        · replace h := h.1 hb1
          refine CW.region fun L hL => ?_
          refine LW.rd hL rfl (Wants.free rfl) rfl (Rd.move (v := .pointer s1) rfl) ?_
          obtain ⟨a4, ha4, h⟩ := h
          refine LW.rd hL rfl (Wants.free rfl) rfl (Rd.nil (q := a4) (by rw [← ha4]; rfl)) ?_
          refine LW.rd hL rfl (Wants.free rfl) rfl (Rd.fa (v := .pointer (some (a4.add 1))) rfl (fun _ => by kernel_rfl)) ?_
          obtain ⟨t3, hc3, h⟩ := h
          refine LW.rd hL rfl (Wants.free rfl) rfl (Rd.ld (v := .map t3) rfl (by kernel_rfl) (eqs hc3)) ?_
          refine LW.rd hL rfl (Wants.free rfl) rfl (Rd.move (v := .int .i64 (IntKind.wrap .i64 (at1.tdiv 64))) rfl) ?_
          obtain ⟨w5, hd1, h⟩ := h
          refine LW.val hL rfl (Wants.free rfl) rfl (Vl.builtin (v := .tuple #[]) rfl (valB hd1)) ?_
          refine LW.nil hL rfl ?_
          exact res0n rfl (by exact ⟨rfl, h⟩)
        · replace h := h.2 hb1
          refine CW.skip ?_
          exact res0n rfl (by exact ⟨rfl, h⟩)
      · skip
        refine CW.seq ?_
        refine CW.region fun L hL => ?_
        refine LW.rd hL rfl (Wants.free rfl) rfl (Rd.move (v := .int .u32 set1) rfl) ?_
        refine LW.rd hL rfl (Wants.free rfl) rfl (Rd.bin (v := .bool (!(set1 == 0))) rfl rfl (fun w => by kernel_rfl)) ?_
        refine LW.nil hL rfl ?_
        refine NW.then ?_
        refine CW.cond rfl (fun hb2 => ?_) (fun hb2 => ?_)
        · replace h := h.1 hb2
          refine CW.region fun L hL => ?_
          refine LW.rd hL rfl (Wants.free rfl) rfl (Rd.move (v := .pointer s2) rfl) ?_
          obtain ⟨a5, ha5, h⟩ := h
          refine LW.rd hL rfl (Wants.free rfl) rfl (Rd.nil (q := a5) (by rw [← ha5]; rfl)) ?_
          refine LW.rd hL rfl (Wants.free rfl) rfl (Rd.fa (v := .pointer (some a5)) rfl (fun _ => by kernel_rfl)) ?_
          refine LW.rd hL rfl (Wants.free rfl) rfl (Rd.fa (v := .pointer (some a5)) rfl (fun _ => by kernel_rfl)) ?_
          obtain ⟨t4, hc4, h⟩ := h
          refine LW.rd hL rfl (Wants.free rfl) rfl (Rd.ld (v := .int .i64 t4) rfl (by kernel_rfl) (eqs hc4)) ?_
          refine LW.rd hL rfl (Wants.free rfl) rfl (Rd.bin (v := .int .i64 (IntKind.wrap .i64 (t4 + 1))) rfl rfl (fun w => by kernel_rfl)) ?_
          obtain ⟨a6, ha6, h⟩ := h
          refine LW.rd hL rfl (Wants.free rfl) rfl (Rd.nil (q := a6) (by rw [← ha6]; rfl)) ?_
          refine LW.rd hL rfl (Wants.free rfl) rfl (Rd.fa (v := .pointer (some a6)) rfl (fun _ => by kernel_rfl)) ?_
          refine LW.rd hL rfl (Wants.free rfl) rfl (Rd.fa (v := .pointer (some a6)) rfl (fun _ => by kernel_rfl)) ?_
          obtain ⟨⟨o_w6, ho2⟩, hf2, h⟩ := h
          obtain ⟨w6, hw_w6⟩ : ∃ w6, w6 = World.setCell w2 a6 (.int .i64 (IntKind.wrap .i64 (t4 + 1))) := ⟨_, rfl⟩
          replace h := h w6 hw_w6
          refine LW.eff hL rfl (Wants.free rfl) rfl (stE hw_w6 (Ef.st rfl rfl rfl (by kernel_rfl) ho2 hf2)) ?_
          refine LW.nil hL rfl ?_
          exact NW.cut (Ek := fun s4 => [(0, .pointer s1), (2, .int .u32 set1), (6, .int .i64 (IntKind.wrap .i64 (at1.tdiv 64))), (7, .int .i64 (at1.tmod 64)), (8, .pointer s2)]) () ⟨rfl, rfl, rfl, rfl, rfl, trivial⟩ h
        · replace h := h.2 hb2
          refine CW.skip ?_
          exact NW.cut (Ek := fun s4 => [(0, .pointer s1), (2, .int .u32 set1), (6, .int .i64 (IntKind.wrap .i64 (at1.tdiv 64))), (7, .int .i64 (at1.tmod 64)), (8, .pointer s2)]) () ⟨rfl, rfl, rfl, rfl, rfl, trivial⟩ h
    · skip
      refine CW.seq ?_
      refine CW.region fun L hL => ?_
      refine LW.rd hL rfl (Wants.free rfl) rfl (Rd.move (v := .pointer s2) rfl) ?_
      refine LW.rd hL rfl (Wants.free rfl) rfl (Rd.move (v := .int .i64 (at1.tmod 64)) rfl) ?_
      obtain ⟨a7, ha7, h⟩ := h
      refine LW.rd hL rfl (Wants.free rfl) rfl (Rd.nil (q := a7) (by rw [← ha7]; rfl)) ?_
      refine LW.rd hL rfl (Wants.free rfl) rfl (Rd.fa (v := .pointer (some (a7.add 1))) rfl (fun _ => by kernel_rfl)) ?_
      obtain ⟨hi3, hi4, h⟩ := h
      refine LW.rd hL rfl (Wants.free rfl) rfl (Rd.iaA (sz := 1) rfl rfl Try.underlying179 (by kernel_rfl) hi3 hi4) ?_
      obtain ⟨t5, hc5, h⟩ := h
      refine LW.rd hL rfl (Wants.free rfl) rfl (Rd.ld (v := .int .u32 t5) rfl (by kernel_rfl) (eqs hc5)) ?_
      refine LW.rd hL rfl (Wants.free rfl) rfl (Rd.bin (v := .bool (!(t5 == 0))) rfl rfl (fun w => by kernel_rfl)) ?_
      refine LW.nil hL rfl ?_
      refine NW.then ?_
      refine CW.cond rfl (fun hb3 => ?_) (fun hb3 => ?_)
      · replace h := h.1 hb3
        refine CW.region fun L hL => ?_
        refine LW.rd hL rfl (Wants.free rfl) rfl (Rd.move (v := .pointer s2) rfl) ?_
        obtain ⟨a8, ha8, h⟩ := h
        refine LW.rd hL rfl (Wants.free rfl) rfl (Rd.nil (q := a8) (by rw [← ha8]; rfl)) ?_
        refine LW.rd hL rfl (Wants.free rfl) rfl (Rd.fa (v := .pointer (some a8)) rfl (fun _ => by kernel_rfl)) ?_
        refine LW.rd hL rfl (Wants.free rfl) rfl (Rd.fa (v := .pointer (some a8)) rfl (fun _ => by kernel_rfl)) ?_
        obtain ⟨t6, hc6, h⟩ := h
        refine LW.rd hL rfl (Wants.free rfl) rfl (Rd.ld (v := .int .i64 t6) rfl (by kernel_rfl) (eqs hc6)) ?_
        refine LW.rd hL rfl (Wants.free rfl) rfl (Rd.bin (v := .int .i64 (IntKind.wrap .i64 (t6 - 1))) rfl rfl (fun w => by kernel_rfl)) ?_
        obtain ⟨a9, ha9, h⟩ := h
        refine LW.rd hL rfl (Wants.free rfl) rfl (Rd.nil (q := a9) (by rw [← ha9]; rfl)) ?_
        refine LW.rd hL rfl (Wants.free rfl) rfl (Rd.fa (v := .pointer (some a9)) rfl (fun _ => by kernel_rfl)) ?_
        refine LW.rd hL rfl (Wants.free rfl) rfl (Rd.fa (v := .pointer (some a9)) rfl (fun _ => by kernel_rfl)) ?_
        obtain ⟨⟨o_w7, ho3⟩, hf3, h⟩ := h
        obtain ⟨w7, hw_w7⟩ : ∃ w7, w7 = World.setCell w1 a9 (.int .i64 (IntKind.wrap .i64 (t6 - 1))) := ⟨_, rfl⟩
        replace h := h w7 hw_w7
        refine LW.eff hL rfl (Wants.free rfl) rfl (stE hw_w7 (Ef.st rfl rfl rfl (by kernel_rfl) ho3 hf3)) ?_
        refine LW.nil hL rfl ?_
        exact NW.cut (Ek := fun s3 => [(0, .pointer s1), (2, .int .u32 set1), (6, .int .i64 (IntKind.wrap .i64 (at1.tdiv 64))), (7, .int .i64 (at1.tmod 64)), (8, .pointer s2)]) () ⟨rfl, rfl, rfl, rfl, rfl, trivial⟩ h
      · replace h := h.2 hb3
        refine CW.skip ?_
        exact NW.cut (Ek := fun s3 => [(0, .pointer s1), (2, .int .u32 set1), (6, .int .i64 (IntKind.wrap .i64 (at1.tdiv 64))), (7, .int .i64 (at1.tmod 64)), (8, .pointer s2)]) () ⟨rfl, rfl, rfl, rfl, rfl, trivial⟩ h
  · skip
    refine CW.seq ?_
    refine CW.region fun L hL => ?_
    refine LW.rd hL rfl (Wants.free rfl) rfl (Rd.move (v := .bool ok1) rfl) ?_
    refine LW.rd hL rfl (Wants.free rfl) rfl (Rd.un (v := .bool (!ok1)) rfl (fun _ => by kernel_rfl)) ?_
    refine LW.nil hL rfl ?_
    refine NW.then ?_
    refine CW.cond rfl (fun hb4 => ?_) (fun hb4 => ?_)
    · replace h := h.1 hb4
      refine CW.seq ?_
      refine CW.seq ?_
      refine CW.region fun L hL => ?_
      refine LW.rd hL rfl (Wants.free rfl) rfl (Rd.move (v := .int .u32 set1) rfl) ?_
      refine LW.rd hL rfl (Wants.free rfl) rfl (Rd.bin (v := .bool (set1 == 0)) rfl rfl (fun w => by kernel_rfl)) ?_
      refine LW.nil hL rfl ?_
      refine NW.then ?_
      refine CW.cond rfl (fun hb5 => ?_) (fun hb5 => ?_)
      · replace h := h.1 hb5
        refine CW.ret ?_
        refine RW.then ?_
        refine RW.then ?_
        exact res0 rfl ⟨rfl, h⟩
      · replace h := h.2 hb5
        refine CW.skip ?_
        refine NW.then ?_
        refine CW.seq ?_
        refine CW.region fun L hL => ?_
        refine LW.rd hL rfl (Wants.free rfl) rfl (Rd.build (v := .agg (z181).toArray) rfl (fun _ => by kernel_rfl)) ?_
        obtain ⟨b1, hb_b1⟩ : ∃ b1, b1 = World.size w := ⟨_, rfl⟩
        obtain ⟨w8, hw_w8⟩ : ∃ w8, w8 = World.alloc w (.cells z181.toArray 181) := ⟨_, rfl⟩
        replace h := h b1 hb_b1 w8 hw_w8
        refine LW.val hL rfl (Wants.free rfl) rfl (boxE hb_b1 hw_w8 (Vl.box (v := .agg (z181).toArray) rfl)) ?_
        refine LW.rd hL rfl (Wants.free rfl) rfl (Rd.assign (v := .pointer (some ⟨b1, 0, none⟩)) rfl) ?_
        refine LW.nil hL rfl ?_
        refine NW.then ?_
        refine CW.region fun L hL => ?_
        refine LW.rd hL rfl (Wants.free rfl) rfl (Rd.move (v := .pointer s1) rfl) ?_
        obtain ⟨a10, ha10, h⟩ := h
        refine LW.rd hL rfl (Wants.free rfl) rfl (Rd.nil (q := a10) (by rw [← ha10]; rfl)) ?_
        refine LW.rd hL rfl (Wants.free rfl) rfl (Rd.fa (v := .pointer (some (a10.add 1))) rfl (fun _ => by kernel_rfl)) ?_
        obtain ⟨t7, hc7, h⟩ := h
        refine LW.rd hL rfl (Wants.free rfl) rfl (Rd.ld (v := .map t7) rfl (by kernel_rfl) (eqs hc7)) ?_
        refine LW.rd hL rfl (Wants.free rfl) rfl (Rd.move (v := .int .i64 (IntKind.wrap .i64 (at1.tdiv 64))) rfl) ?_
        refine LW.rd hL rfl (Wants.free rfl) rfl (Rd.move (v := .pointer (some ⟨b1, 0, none⟩)) rfl) ?_
        obtain ⟨w9, hm1, h⟩ := h
        refine LW.eff hL rfl (Wants.free rfl) rfl (Ef.mapUpdate rfl rfl rfl hm1) ?_
        refine LW.nil hL rfl ?_
        exact NW.cut (Ek := fun s2 => [(0, .pointer s1), (2, .int .u32 set1), (6, .int .i64 (IntKind.wrap .i64 (at1.tdiv 64))), (7, .int .i64 (at1.tmod 64)), (8, .pointer s2)]) (some ⟨b1, 0, none⟩) ⟨rfl, rfl, rfl, rfl, rfl, trivial⟩ h
    · replace h := h.2 hb4
      refine CW.skip ?_
      exact NW.cut (Ek := fun s2 => [(0, .pointer s1), (2, .int .u32 set1), (6, .int .i64 (IntKind.wrap .i64 (at1.tdiv 64))), (7, .int .i64 (at1.tmod 64)), (8, .pointer s2)]) v1 ⟨rfl, rfl, rfl, rfl, rfl, trivial⟩ h

/- (*pomander/shadow.Shadow).through -/
def V_shadow_Shadow_through (s1 : Option Addr) (at1 : Int) (n1 : Int) (on1 : Value) (w : World) (R : Int → World → Prop) : Prop :=
  Calls Try.prog 90 #[.pointer s1] w fun e w1 => ∃ (r2 : Bool), e = .returned (.bool r2) ∧ ((r2 = true → R 1 w1) ∧ (r2 = false → ∃ J1 : Bool → World → Prop, (∀ (b1 : Bool) (w2 : World), J1 b1 w2 → ∃ J2 : Bool → World → Prop, (∀ (b2 : Bool) (w4 : World), J2 b2 w4 → (b2 = true → R 4 w4) ∧ (b2 = false → ∃ (I1 : Int → World → Prop) (m1 : Int → World → Nat), I1 0 w4 ∧ ∀ (s2 : Int) (w6 : World), I1 s2 w6 → ((decide (s2 < n1)) = true → CallsV Try.prog on1 #[.int .i64 (IntKind.wrap .i64 (at1 + s2))] w6 fun e w7 => e = .returned (.tuple #[]) ∧ ((I1 (IntKind.wrap .i64 (s2 + 1)) w7 ∧ m1 (IntKind.wrap .i64 (s2 + 1)) w7 < m1 s2 w6))) ∧ ((decide (s2 < n1)) = false → R 0 w6))) ∧ ((b1 = false → Calls Try.prog 54 #[.pointer s1] w2 fun e w5 => ∃ (r4 : Int), e = .returned (.int .i64 r4) ∧ (J2 (decide (n1 > (IntKind.wrap .i64 (r4 - at1)))) w5)) ∧ (b1 = true → J2 true w2))) ∧ (((decide (at1 < 0) || decide (n1 < 0)) = false → Calls Try.prog 54 #[.pointer s1] w1 fun e w3 => ∃ (r3 : Int), e = .returned (.int .i64 r3) ∧ (J1 (decide (at1 > r3)) w3)) ∧ ((decide (at1 < 0) || decide (n1 < 0)) = true → J1 true w1))))
set_option maxRecDepth 100000 in
theorem ok_shadow_Shadow_through (s1 : Option Addr) (at1 : Int) (n1 : Int) (on1 : Value) (w : World) (R : Int → World → Prop) (h : V_shadow_Shadow_through s1 at1 n1 on1 w R) : Calls Try.prog 85 #[.pointer s1, .int .i64 at1, .int .i64 n1, on1] w (fun e w' => ∃ (r1 : Int), e = .returned (.int .i64 r1) ∧ R r1 w') := by
  unfold V_shadow_Shadow_through at h
  refine enter (N := 44) Try.func85 rfl rfl ?_
  refine CW.seq ?_
  refine CW.region fun L hL => ?_
  refine LW.rd hL rfl (Wants.free rfl) rfl (Rd.assign (v := .int .i64 0) rfl) ?_
  refine LW.nil hL rfl ?_
  refine NW.then ?_
  refine CW.seq ?_
  refine CW.block ?_
  refine CW.seq ?_
  refine CW.region fun L hL => ?_
  refine LW.rd hL rfl (Wants.free rfl) rfl (Rd.move (v := .pointer s1) rfl) ?_
  refine LW.call hL rfl (Wants.free rfl) rfl (Cl.fn (f := 90) rfl Try.func90 (by kernel_rfl) rfl) h (fun e w1 h_ => ?_)
  clear h
  obtain ⟨r2, rfl, h⟩ := h_
  refine ⟨_, rfl, ?_⟩
  refine LW.rd hL rfl (Wants.free rfl) rfl (Rd.assign (v := .bool r2) rfl) ?_
  refine LW.nil hL rfl ?_
  refine NW.then ?_
  refine CW.cond rfl (fun hb1 => ?_) (fun hb1 => ?_)
  · replace h := h.1 hb1
    refine CW.seq ?_
    refine CW.region fun L hL => ?_
    refine LW.rd hL rfl (Wants.free rfl) rfl (Rd.assign (v := .int .i64 1) rfl) ?_
    refine LW.nil hL rfl ?_
    refine NW.then ?_
    refine CW.ret ?_
    refine RW.block ?_
    refine RW.then ?_
    exact res1 rfl rfl ⟨1, rfl, h⟩
  · replace h := h.2 hb1
    refine CW.seq ?_
    refine CW.region fun L hL => ?_
    refine LW.rd hL rfl (Wants.free rfl) rfl (Rd.move (v := .int .i64 at1) rfl) ?_
    refine LW.rd hL rfl (Wants.free rfl) rfl (Rd.bin (v := .bool (decide (at1 < 0))) rfl rfl (fun w => by kernel_rfl)) ?_
    refine LW.rd hL rfl (Wants.free rfl) rfl (Rd.move (v := .bool (decide (at1 < 0))) rfl) ?_
    suffices K1 : L 6 [(0, .pointer s1), (1, .int .i64 at1), (2, .int .i64 n1), (3, on1), (8, .int .i64 0), (19, .bool (decide (at1 < 0) || decide (n1 < 0)))] w1 by
      rcases Bool.eq_false_or_eq_true (decide (at1 < 0)) with hb3 | hb3
      · skip
        refine LW.skip hL rfl (Skips.on rfl rfl rfl rfl rfl hb3) rfl ?_
        refine LW.skip hL rfl (Skips.on rfl rfl rfl rfl rfl hb3) rfl ?_
        refine LW.rd hL rfl (Wants.free rfl) rfl (Rd.pickT rfl hb3 rfl) ?_
        exact LW.sub hL (by exact ⟨rfl, rfl, rfl, rfl, rfl, (by rw [hb3]; rfl), trivial⟩) K1
      · skip
        refine LW.rd hL rfl (Wants.on rfl rfl rfl rfl rfl hb3) rfl (Rd.move (v := .int .i64 n1) rfl) ?_
        refine LW.rd hL rfl (Wants.on rfl rfl rfl rfl rfl hb3) rfl (Rd.bin (v := .bool (decide (n1 < 0))) rfl rfl (fun w => by kernel_rfl)) ?_
        refine LW.rd hL rfl (Wants.free rfl) rfl (Rd.pickF rfl hb3 rfl) ?_
        exact LW.sub hL (by exact ⟨rfl, rfl, rfl, rfl, rfl, (by rw [hb3]; rfl), trivial⟩) K1
    refine LW.rd hL rfl (Wants.free rfl) rfl (Rd.move (v := .bool (decide (at1 < 0) || decide (n1 < 0))) rfl) ?_
    obtain ⟨J1, hJ1, h1_J1, h0_J1⟩ := h
    suffices K2 : ∀ (b1 : Bool) (w2 : World), J1 b1 w2 → L 12 [(0, .pointer s1), (1, .int .i64 at1), (2, .int .i64 n1), (3, on1), (8, .int .i64 0), (25, .bool b1)] w2 by
      rcases Bool.eq_false_or_eq_true (decide (at1 < 0) || decide (n1 < 0)) with hb4 | hb4
      · have h := h0_J1 hb4
        refine LW.skip hL rfl (Skips.on rfl rfl rfl rfl rfl hb4) rfl ?_
        refine LW.skip hL rfl (Skips.on rfl rfl rfl rfl rfl hb4) rfl ?_
        refine LW.skip hL rfl (Skips.on rfl rfl rfl rfl rfl hb4) rfl ?_
        refine LW.skip hL rfl (Skips.on rfl rfl rfl rfl rfl hb4) rfl ?_
        refine LW.rd hL rfl (Wants.free rfl) rfl (Rd.pickT rfl hb4 rfl) ?_
        exact LW.sub hL (by exact ⟨rfl, rfl, rfl, rfl, rfl, rfl, trivial⟩) (K2 true w1 h)
      · have h := h1_J1 hb4
        refine LW.rd hL rfl (Wants.on rfl rfl rfl rfl rfl hb4) rfl (Rd.move (v := .int .i64 at1) rfl) ?_
        refine LW.rd hL rfl (Wants.on rfl rfl rfl rfl rfl hb4) rfl (Rd.move (v := .pointer s1) rfl) ?_
        refine LW.call hL rfl (Wants.on rfl rfl rfl rfl rfl hb4) rfl (Cl.fn (f := 54) rfl Try.func54 (by kernel_rfl) rfl) h (fun e w3 h_ => ?_)
        clear h
        obtain ⟨r3, rfl, h⟩ := h_
        refine ⟨_, rfl, ?_⟩
        refine LW.rd hL rfl (Wants.on rfl rfl rfl rfl rfl hb4) rfl (Rd.bin (v := .bool (decide (at1 > r3))) rfl rfl (fun w => by kernel_rfl)) ?_
        refine LW.rd hL rfl (Wants.free rfl) rfl (Rd.pickF rfl hb4 rfl) ?_
        exact LW.sub hL (by exact ⟨rfl, rfl, rfl, rfl, rfl, rfl, trivial⟩) (K2 (decide (at1 > r3)) w3 h)
    intro b1 w2 h_
    have h := hJ1 b1 w2 h_; clear h_
    refine LW.rd hL rfl (Wants.free rfl) rfl (Rd.move (v := .bool b1) rfl) ?_
    obtain ⟨J2, hJ2, h1_J2, h0_J2⟩ := h
    suffices K3 : ∀ (b2 : Bool) (w4 : World), J2 b2 w4 → L 20 [(1, .int .i64 at1), (2, .int .i64 n1), (3, on1), (8, .int .i64 0), (33, .bool b2)] w4 by
      rcases Bool.eq_false_or_eq_true b1 with hb5 | hb5
      · have h := h0_J2 hb5
        refine LW.skip hL rfl (Skips.on rfl rfl rfl rfl rfl hb5) rfl ?_
        refine LW.skip hL rfl (Skips.on rfl rfl rfl rfl rfl hb5) rfl ?_
        refine LW.skip hL rfl (Skips.on rfl rfl rfl rfl rfl hb5) rfl ?_
        refine LW.skip hL rfl (Skips.on rfl rfl rfl rfl rfl hb5) rfl ?_
        refine LW.skip hL rfl (Skips.on rfl rfl rfl rfl rfl hb5) rfl ?_
        refine LW.skip hL rfl (Skips.on rfl rfl rfl rfl rfl hb5) rfl ?_
        refine LW.rd hL rfl (Wants.free rfl) rfl (Rd.pickT rfl hb5 rfl) ?_
        exact LW.sub hL (by exact ⟨rfl, rfl, rfl, rfl, rfl, trivial⟩) (K3 true w2 h)
      · have h := h1_J2 hb5
        refine LW.rd hL rfl (Wants.on rfl rfl rfl rfl rfl hb5) rfl (Rd.move (v := .int .i64 n1) rfl) ?_
        refine LW.rd hL rfl (Wants.on rfl rfl rfl rfl rfl hb5) rfl (Rd.move (v := .pointer s1) rfl) ?_
        refine LW.call hL rfl (Wants.on rfl rfl rfl rfl rfl hb5) rfl (Cl.fn (f := 54) rfl Try.func54 (by kernel_rfl) rfl) h (fun e w5 h_ => ?_)
        clear h
        obtain ⟨r4, rfl, h⟩ := h_
        refine ⟨_, rfl, ?_⟩
        refine LW.rd hL rfl (Wants.on rfl rfl rfl rfl rfl hb5) rfl (Rd.move (v := .int .i64 at1) rfl) ?_
        refine LW.rd hL rfl (Wants.on rfl rfl rfl rfl rfl hb5) rfl (Rd.bin (v := .int .i64 (IntKind.wrap .i64 (r4 - at1))) rfl rfl (fun w => by kernel_rfl)) ?_
        refine LW.rd hL rfl (Wants.on rfl rfl rfl rfl rfl hb5) rfl (Rd.bin (v := .bool (decide (n1 > (IntKind.wrap .i64 (r4 - at1))))) rfl rfl (fun w => by kernel_rfl)) ?_
        refine LW.rd hL rfl (Wants.free rfl) rfl (Rd.pickF rfl hb5 rfl) ?_
        exact LW.sub hL (by exact ⟨rfl, rfl, rfl, rfl, rfl, trivial⟩) (K3 (decide (n1 > (IntKind.wrap .i64 (r4 - at1)))) w5 h)
    intro b2 w4 h_
    have h := hJ2 b2 w4 h_; clear h_
    refine LW.rd hL rfl (Wants.free rfl) rfl (Rd.assign (v := .bool b2) rfl) ?_
    refine LW.nil hL rfl ?_
    refine NW.then ?_
    refine CW.cond rfl (fun hb6 => ?_) (fun hb6 => ?_)
    · replace h := h.1 hb6
      refine CW.seq ?_
      refine CW.region fun L hL => ?_
      refine LW.rd hL rfl (Wants.free rfl) rfl (Rd.assign (v := .int .i64 4) rfl) ?_
      refine LW.nil hL rfl ?_
      refine NW.then ?_
      refine CW.ret ?_
      refine RW.block ?_
      refine RW.then ?_
      exact res1 rfl rfl ⟨4, rfl, h⟩
    · replace h := h.2 hb6
      refine CW.skip ?_
      refine NW.block ?_
      refine NW.then ?_
      refine CW.seq ?_
      refine CW.seq ?_
      refine CW.region fun L hL => ?_
      refine LW.rd hL rfl (Wants.free rfl) rfl (Rd.move (v := .int .i64 n1) rfl) ?_
      refine LW.rd hL rfl (Wants.free rfl) rfl (Rd.move (v := .int .i64 0) rfl) ?_
      refine LW.nil hL rfl ?_
      refine NW.then ?_
      refine CW.block ?_
      obtain ⟨I1, m1, hI1, h⟩ := h
      refine CW.loop (S := Int) (fun s2 => [(1, .int .i64 at1), (3, on1), (8, .int .i64 0), (34, .int .i64 n1), (35, .int .i64 s2)]) I1 m1 0 ⟨rfl, rfl, rfl, rfl, rfl, trivial⟩ hI1 (fun s2 w6 hI1 => ?_)
      replace h := h s2 w6 hI1
      refine CW.seq ?_
      refine CW.region fun L hL => ?_
      refine LW.rd hL rfl (Wants.free rfl) rfl (Rd.bin (v := .bool (decide (s2 < n1))) rfl rfl (fun w => by kernel_rfl)) ?_
      refine LW.nil hL rfl ?_
      refine NW.then ?_
      refine CW.seq ?_
      refine CW.cond rfl (fun hb7 => ?_) (fun hb7 => ?_)
      · replace h := h.1 hb7
        refine CW.skip ?_
        refine NW.then ?_
        refine CW.seq ?_
        refine CW.block ?_
        refine CW.seq ?_
        refine CW.region fun L hL => ?_
        refine LW.rd hL rfl (Wants.free rfl) rfl (Rd.move (v := .int .i64 s2) rfl) ?_
        refine LW.rd hL rfl (Wants.free rfl) rfl (Rd.assign (v := .int .i64 s2) rfl) ?_
        refine LW.nil hL rfl ?_
        refine NW.then ?_
        refine CW.region fun L hL => ?_
        refine LW.rd hL rfl (Wants.free rfl) rfl (Rd.move (v := on1) rfl) ?_
        refine LW.rd hL rfl (Wants.free rfl) rfl (Rd.move (v := .int .i64 at1) rfl) ?_
        refine LW.rd hL rfl (Wants.free rfl) rfl (Rd.move (v := .int .i64 s2) rfl) ?_
        refine LW.rd hL rfl (Wants.free rfl) rfl (Rd.bin (v := .int .i64 (IntKind.wrap .i64 (at1 + s2))) rfl rfl (fun w => by kernel_rfl)) ?_
        obtain ⟨f1, cap_f1, fn_f1, he_f1, hf_f1, hn_f1, hb_f1, h⟩ := h
        refine LW.call hL rfl (Wants.free rfl) rfl (Cl.fv (f := f1) (cap := cap_f1) (by rw [← he_f1]; rfl) rfl hf_f1 hn_f1 hb_f1) h (fun e w7 h_ => ?_)
        clear h
        obtain ⟨rfl, h⟩ := h_
        refine ⟨_, rfl, ?_⟩
        refine LW.nil hL rfl ?_
        refine NW.block ?_
        refine NW.then ?_
        refine CW.region fun L hL => ?_
        refine LW.rd hL rfl (Wants.free rfl) rfl (Rd.bin (v := .int .i64 (IntKind.wrap .i64 (s2 + 1))) rfl rfl (fun w => by kernel_rfl)) ?_
        refine LW.rd hL rfl (Wants.free rfl) rfl (Rd.move (v := .int .i64 (IntKind.wrap .i64 (s2 + 1))) rfl) ?_
        refine LW.nil hL rfl ?_
        exact NW.loop (Ek := fun s2 => [(1, .int .i64 at1), (3, on1), (8, .int .i64 0), (34, .int .i64 n1), (35, .int .i64 s2)]) (IntKind.wrap .i64 (s2 + 1)) ⟨rfl, rfl, rfl, rfl, rfl, trivial⟩ h
      · replace h := h.2 hb7
        refine CW.exit ?_
        refine XW.then ?_
        refine XW.then ?_
        refine XW.hit ?_
        refine NW.then ?_
        refine CW.seq ?_
        refine CW.region fun L hL => ?_
        refine LW.rd hL rfl (Wants.free rfl) rfl (Rd.assign (v := .int .i64 0) rfl) ?_
        refine LW.nil hL rfl ?_
        refine NW.then ?_
        refine CW.ret ?_
        exact res1 rfl rfl ⟨0, rfl, h⟩

/- (*pomander/shadow.Shadow).Union$1 -/
def V_shadow_Shadow_Union_1 (at1 : Int) (cap1 : Addr) (cap2 : Addr) (w : World) (R : World → Prop) : Prop :=
  ∀ w1 : World, w1 = World.drew w → ∃ (t1 : Int), w1.cell? cap1 = some (.int .u32 t1) ∧ (∃ (t2 : Option Addr), w1.cell? cap2 = some (.pointer t2) ∧ (Calls Try.prog 87 #[.pointer t2, .int .i64 at1] w1 fun e w2 => ∃ (r1 : Int), e = .returned (.int .u32 r1) ∧ ((w2.cell? cap1 = some (.int .u32 t1) ∧ w2.cell? cap2 = some (.pointer t2) ∧ True) ∧ ((∃ o : Value, w2.cell? cap1 = some o) ∧ w2.frozen? cap1 = false ∧ ∀ w3 : World, w3 = World.setCell w2 cap1 (.int .u32 (bits .or .u32 t1 r1)) → (R w3)))))
set_option maxRecDepth 100000 in
theorem ok_shadow_Shadow_Union_1 (at1 : Int) (cap1 : Addr) (cap2 : Addr) (w : World) (R : World → Prop) (h : V_shadow_Shadow_Union_1 at1 cap1 cap2 w R) : Calls Try.prog 86 #[.int .i64 at1, .pointer (some cap1), .pointer (some cap2)] w (fun e w' => e = .returned (.tuple #[]) ∧ R w') := by
  unfold V_shadow_Shadow_Union_1 at h
  refine enter (N := 9) Try.func86 rfl rfl ?_
  replace h := h _ rfl
  obtain ⟨t1, hc1, h⟩ := h
  obtain ⟨t2, hc2, h⟩ := h
  refine CW.drawn (fun w => w.cell? cap1 = some (.int .u32 t1) ∧ w.cell? cap2 = some (.pointer t2) ∧ True) 5 (by kernel_rfl) fun H hH => ?_
  generalize World.drew _ = w1 at *
  have hS1 : w1.cell? cap1 = some (.int .u32 t1) ∧ w1.cell? cap2 = some (.pointer t2) ∧ True := ⟨hc1, hc2, trivial⟩
  refine HW.take (i := 0) hH rfl (by kernel_rfl) (by kernel_rfl) (Wants.free rfl) rfl (fun _ => hS1) (Rd.ld (v := .int .u32 t1) rfl (by kernel_rfl) (fun w h => h.1)) ?_
  refine HW.take (i := 1) hH rfl (by kernel_rfl) (by kernel_rfl) (Wants.free rfl) rfl (fun _ => hS1) (Rd.ld (v := .pointer t2) rfl (by kernel_rfl) (fun w h => h.2.1)) ?_
  refine HW.pure (i := 2) hH rfl (by kernel_rfl) (Wants.free rfl) rfl (fun _ => hS1) (Rd.move (v := .int .i64 at1) rfl) ?_
  refine HW.call (i := 3) hH (by kernel_rfl) rfl (Wants.free rfl) rfl (Cl.fn (f := 87) rfl Try.func87 (by kernel_rfl) rfl) h (fun e w2 h_ => ?_)
  clear h
  obtain ⟨r1, rfl, hS2, h⟩ := h_
  refine ⟨_, rfl, (fun _ => hS2), ?_⟩
  refine HW.pure (i := 4) hH rfl (by kernel_rfl) (Wants.free rfl) rfl (fun _ => hS2) (Rd.bin (v := .int .u32 (bits .or .u32 t1 r1)) rfl rfl (fun w => by kernel_rfl)) ?_
  obtain ⟨⟨o_w3, ho1⟩, hf1, h⟩ := h
  obtain ⟨w3, hw_w3⟩ : ∃ w3, w3 = World.setCell w2 cap1 (.int .u32 (bits .or .u32 t1 r1)) := ⟨_, rfl⟩
  replace h := h w3 hw_w3
  refine HW.eff (i := 5) hH (by kernel_rfl) rfl (Wants.free rfl) rfl (stE hw_w3 (Ef.st rfl rfl rfl (by kernel_rfl) ho1 hf1)) (fun hc => by cases hc) ?_
  refine HW.done hH (by kernel_rfl) ?_
  exact res0n rfl (by exact ⟨rfl, h⟩)

/- (*pomander/shadow.Shadow).Fill$1 -/
def V_shadow_Shadow_Fill_1 (at1 : Int) (cap1 : Addr) (cap2 : Addr) (w : World) (R : World → Prop) : Prop :=
  ∃ (t1 : Option Addr), w.cell? cap1 = some (.pointer t1) ∧ (∃ (t2 : Int), w.cell? cap2 = some (.int .u32 t2) ∧ (Calls Try.prog 92 #[.pointer t1, .int .i64 at1, .int .u32 t2] w fun e w1 => e = .returned (.tuple #[]) ∧ (R w1)))
set_option maxRecDepth 100000 in
theorem ok_shadow_Shadow_Fill_1 (at1 : Int) (cap1 : Addr) (cap2 : Addr) (w : World) (R : World → Prop) (h : V_shadow_Shadow_Fill_1 at1 cap1 cap2 w R) : Calls Try.prog 91 #[.int .i64 at1, .pointer (some cap1), .pointer (some cap2)] w (fun e w' => e = .returned (.tuple #[]) ∧ R w') := by
  unfold V_shadow_Shadow_Fill_1 at h
  refine enter (N := 8) Try.func91 rfl rfl ?_
  refine CW.region fun L hL => ?_
  obtain ⟨t1, hc1, h⟩ := h
  refine LW.rd hL rfl (Wants.free rfl) rfl (Rd.ld (v := .pointer t1) rfl (by kernel_rfl) (eqs hc1)) ?_
  refine LW.rd hL rfl (Wants.free rfl) rfl (Rd.move (v := .int .i64 at1) rfl) ?_
  obtain ⟨t2, hc2, h⟩ := h
  refine LW.rd hL rfl (Wants.free rfl) rfl (Rd.ld (v := .int .u32 t2) rfl (by kernel_rfl) (eqs hc2)) ?_
  refine LW.call hL rfl (Wants.free rfl) rfl (Cl.fn (f := 92) rfl Try.func92 (by kernel_rfl) rfl) h (fun e w1 h_ => ?_)
  clear h
  obtain ⟨rfl, h⟩ := h_
  refine ⟨_, rfl, ?_⟩
  refine LW.nil hL rfl ?_
  exact res0n rfl (by exact ⟨rfl, h⟩)

/- (*pomander/shadow.Shadow).Union -/
def V_shadow_Shadow_Union (s1 : Option Addr) (at1 : Int) (n1 : Int) (w : World) (R : Int → Int → World → Prop) : Prop :=
  ∀ b1 : Nat, b1 = World.size w → ∀ w1 : World, w1 = World.alloc w (.cells #[.pointer s1] 90) → (∀ b2 : Nat, b2 = World.size w1 → ∀ w2 : World, w2 = World.alloc w1 (.cells #[.int .u32 0] 22) → ((∃ o : Value, w2.cell? ⟨b2, 0, none⟩ = some o) ∧ w2.frozen? ⟨b2, 0, none⟩ = false ∧ ∀ w3 : World, w3 = World.setCell w2 ⟨b2, 0, none⟩ (.int .u32 0) → (∃ (t1 : Option Addr), w3.cell? ⟨b1, 0, none⟩ = some (.pointer t1) ∧ (Calls Try.prog 85 #[.pointer t1, .int .i64 at1, .int .i64 n1, .func (.func 86) #[] #[.pointer (some ⟨b2, 0, none⟩), .pointer (some ⟨b1, 0, none⟩)]] w3 fun e w4 => ∃ (r3 : Int), e = .returned (.int .i64 r3) ∧ (∃ (t2 : Int), w4.cell? ⟨b2, 0, none⟩ = some (.int .u32 t2) ∧ (R t2 r3 w4))))))
set_option maxRecDepth 100000 in
theorem ok_shadow_Shadow_Union (s1 : Option Addr) (at1 : Int) (n1 : Int) (w : World) (R : Int → Int → World → Prop) (h : V_shadow_Shadow_Union s1 at1 n1 w R) : Calls Try.prog 46 #[.pointer s1, .int .i64 at1, .int .i64 n1] w (fun e w' => ∃ (r1 : Int) (r2 : Int), e = .returned (.tuple #[.int .u32 r1, .int .i64 r2]) ∧ R r1 r2 w') := by
  unfold V_shadow_Shadow_Union at h
  refine enter (N := 17) Try.func46 rfl rfl ?_
  refine CW.seq ?_
  refine CW.region fun L hL => ?_
  obtain ⟨b1, hb_b1⟩ : ∃ b1, b1 = World.size w := ⟨_, rfl⟩
  obtain ⟨w1, hw_w1⟩ : ∃ w1, w1 = World.alloc w (.cells #[.pointer s1] 90) := ⟨_, rfl⟩
  replace h := h b1 hb_b1 w1 hw_w1
  refine LW.val hL rfl (Wants.free rfl) rfl (boxE hb_b1 hw_w1 (Vl.box (v := .pointer s1) rfl)) ?_
  refine LW.rd hL rfl (Wants.free rfl) rfl (Rd.assign (v := .int .u32 0) rfl) ?_
  refine LW.rd hL rfl (Wants.free rfl) rfl (Rd.assign (v := .int .i64 0) rfl) ?_
  refine LW.nil hL rfl ?_
  refine NW.then ?_
  refine CW.seq ?_
  refine CW.region fun L hL => ?_
  obtain ⟨b2, hb_b2⟩ : ∃ b2, b2 = World.size w1 := ⟨_, rfl⟩
  obtain ⟨w2, hw_w2⟩ : ∃ w2, w2 = World.alloc w1 (.cells #[.int .u32 0] 22) := ⟨_, rfl⟩
  replace h := h b2 hb_b2 w2 hw_w2
  refine LW.val hL rfl (Wants.free rfl) rfl (boxE hb_b2 hw_w2 (Vl.alloc (z := .int .u32 0) (by kernel_rfl))) ?_
  obtain ⟨⟨o_w3, ho1⟩, hf1, h⟩ := h
  obtain ⟨w3, hw_w3⟩ : ∃ w3, w3 = World.setCell w2 ⟨b2, 0, none⟩ (.int .u32 0) := ⟨_, rfl⟩
  replace h := h w3 hw_w3
  refine LW.eff hL rfl (Wants.free rfl) rfl (stE hw_w3 (Ef.st rfl rfl rfl (by kernel_rfl) ho1 hf1)) ?_
  refine LW.nil hL rfl ?_
  refine NW.then ?_
  refine CW.seq ?_
  refine CW.region fun L hL => ?_
  obtain ⟨t1, hc1, h⟩ := h
  refine LW.rd hL rfl (Wants.free rfl) rfl (Rd.ld (v := .pointer t1) rfl (by kernel_rfl) (eqs hc1)) ?_
  refine LW.rd hL rfl (Wants.free rfl) rfl (Rd.move (v := .int .i64 at1) rfl) ?_
  refine LW.rd hL rfl (Wants.free rfl) rfl (Rd.move (v := .int .i64 n1) rfl) ?_
  refine LW.rd hL rfl (Wants.free rfl) rfl (Rd.makeFunc rfl) ?_
  refine LW.call hL rfl (Wants.free rfl) rfl (Cl.fn (f := 85) rfl Try.func85 (by kernel_rfl) rfl) h (fun e w4 h_ => ?_)
  clear h
  obtain ⟨r3, rfl, h⟩ := h_
  refine ⟨_, rfl, ?_⟩
  refine LW.rd hL rfl (Wants.free rfl) rfl (Rd.assign (v := .int .i64 r3) rfl) ?_
  refine LW.nil hL rfl ?_
  refine NW.then ?_
  refine CW.seq ?_
  refine CW.region fun L hL => ?_
  obtain ⟨t2, hc2, h⟩ := h
  refine LW.rd hL rfl (Wants.free rfl) rfl (Rd.ld (v := .int .u32 t2) rfl (by kernel_rfl) (eqs hc2)) ?_
  refine LW.rd hL rfl (Wants.free rfl) rfl (Rd.move (v := .int .i64 r3) rfl) ?_
  refine LW.rd hL rfl (Wants.free rfl) rfl (Rd.assign (v := .int .u32 t2) rfl) ?_
  refine LW.rd hL rfl (Wants.free rfl) rfl (Rd.assign (v := .int .i64 r3) rfl) ?_
  refine LW.nil hL rfl ?_
  refine NW.then ?_
  refine CW.ret ?_
  exact res2 rfl rfl rfl ⟨t2, r3, rfl, h⟩

/- (*pomander/shadow.Shadow).Fill -/
def V_shadow_Shadow_Fill (s1 : Option Addr) (at1 : Int) (n1 : Int) (set1 : Int) (w : World) (R : Int → World → Prop) : Prop :=
  ∀ b1 : Nat, b1 = World.size w → ∀ w1 : World, w1 = World.alloc w (.cells #[.pointer s1] 90) → (∀ b2 : Nat, b2 = World.size w1 → ∀ w2 : World, w2 = World.alloc w1 (.cells #[.int .u32 set1] 22) → (∃ (t1 : Option Addr), w2.cell? ⟨b1, 0, none⟩ = some (.pointer t1) ∧ (Calls Try.prog 90 #[.pointer t1] w2 fun e w3 => ∃ (r2 : Bool), e = .returned (.bool r2) ∧ (∃ J1 : Bool → World → Prop, (∀ (b3 : Bool) (w4 : World), J1 b3 w4 → (b3 = true → R 2 w4) ∧ (b3 = false → ∃ (t3 : Option Addr), w4.cell? ⟨b1, 0, none⟩ = some (.pointer t3) ∧ (Calls Try.prog 85 #[.pointer t3, .int .i64 at1, .int .i64 n1, .func (.func 91) #[] #[.pointer (some ⟨b1, 0, none⟩), .pointer (some ⟨b2, 0, none⟩)]] w4 fun e w5 => ∃ (r3 : Int), e = .returned (.int .i64 r3) ∧ (R r3 w5)))) ∧ (((!r2) = true → ∃ (t2 : Int), w3.cell? ⟨b2, 0, none⟩ = some (.int .u32 t2) ∧ (J1 (!((Int.fdiv t2 65536) == 0)) w3)) ∧ ((!r2) = false → J1 false w3))))))
set_option maxRecDepth 100000 in
theorem ok_shadow_Shadow_Fill (s1 : Option Addr) (at1 : Int) (n1 : Int) (set1 : Int) (w : World) (R : Int → World → Prop) (h : V_shadow_Shadow_Fill s1 at1 n1 set1 w R) : Calls Try.prog 49 #[.pointer s1, .int .i64 at1, .int .i64 n1, .int .u32 set1] w (fun e w' => ∃ (r1 : Int), e = .returned (.int .i64 r1) ∧ R r1 w') := by
  unfold V_shadow_Shadow_Fill at h
  refine enter (N := 22) Try.func49 rfl rfl ?_
  refine CW.seq ?_
  refine CW.region fun L hL => ?_
  obtain ⟨b1, hb_b1⟩ : ∃ b1, b1 = World.size w := ⟨_, rfl⟩
  obtain ⟨w1, hw_w1⟩ : ∃ w1, w1 = World.alloc w (.cells #[.pointer s1] 90) := ⟨_, rfl⟩
  replace h := h b1 hb_b1 w1 hw_w1
  refine LW.val hL rfl (Wants.free rfl) rfl (boxE hb_b1 hw_w1 (Vl.box (v := .pointer s1) rfl)) ?_
  obtain ⟨b2, hb_b2⟩ : ∃ b2, b2 = World.size w1 := ⟨_, rfl⟩
  obtain ⟨w2, hw_w2⟩ : ∃ w2, w2 = World.alloc w1 (.cells #[.int .u32 set1] 22) := ⟨_, rfl⟩
  replace h := h b2 hb_b2 w2 hw_w2
  refine LW.val hL rfl (Wants.free rfl) rfl (boxE hb_b2 hw_w2 (Vl.box (v := .int .u32 set1) rfl)) ?_
  refine LW.rd hL rfl (Wants.free rfl) rfl (Rd.assign (v := .int .i64 0) rfl) ?_
  refine LW.nil hL rfl ?_
  refine NW.then ?_
  refine CW.seq ?_
  refine CW.seq ?_
  refine CW.region fun L hL => ?_
  obtain ⟨t1, hc1, h⟩ := h
  refine LW.rd hL rfl (Wants.free rfl) rfl (Rd.ld (v := .pointer t1) rfl (by kernel_rfl) (eqs hc1)) ?_
  refine LW.call hL rfl (Wants.free rfl) rfl (Cl.fn (f := 90) rfl Try.func90 (by kernel_rfl) rfl) h (fun e w3 h_ => ?_)
  clear h
  obtain ⟨r2, rfl, h⟩ := h_
  refine ⟨_, rfl, ?_⟩
  refine LW.rd hL rfl (Wants.free rfl) rfl (Rd.un (v := .bool (!r2)) rfl (fun _ => by kernel_rfl)) ?_
  refine LW.rd hL rfl (Wants.free rfl) rfl (Rd.move (v := .bool (!r2)) rfl) ?_
  obtain ⟨J1, hJ1, h1_J1, h0_J1⟩ := h
  suffices K1 : ∀ (b3 : Bool) (w4 : World), J1 b3 w4 → L 8 [(1, .int .i64 at1), (2, .int .i64 n1), (4, .pointer (some ⟨b1, 0, none⟩)), (7, .pointer (some ⟨b2, 0, none⟩)), (8, .int .i64 0), (16, .bool b3)] w4 by
    rcases Bool.eq_false_or_eq_true (!r2) with hb1 | hb1
    · have h := h1_J1 hb1
      obtain ⟨t2, hc2, h⟩ := h
      refine LW.rd hL rfl (Wants.on rfl rfl rfl rfl rfl hb1) rfl (Rd.ld (v := .int .u32 t2) rfl (by kernel_rfl) (eqs hc2)) ?_
      refine LW.rd hL rfl (Wants.on rfl rfl rfl rfl rfl hb1) rfl (Rd.bin (v := .int .u32 (Int.fdiv t2 65536)) rfl rfl (fun w => by kernel_rfl)) ?_
      refine LW.rd hL rfl (Wants.on rfl rfl rfl rfl rfl hb1) rfl (Rd.bin (v := .bool (!((Int.fdiv t2 65536) == 0))) rfl rfl (fun w => by kernel_rfl)) ?_
      refine LW.rd hL rfl (Wants.free rfl) rfl (Rd.pickT rfl hb1 rfl) ?_
      exact LW.sub hL (by exact ⟨rfl, rfl, rfl, rfl, rfl, rfl, trivial⟩) (K1 (!((Int.fdiv t2 65536) == 0)) w3 h)
    · have h := h0_J1 hb1
      refine LW.skip hL rfl (Skips.on rfl rfl rfl rfl rfl hb1) rfl ?_
      refine LW.skip hL rfl (Skips.on rfl rfl rfl rfl rfl hb1) rfl ?_
      refine LW.skip hL rfl (Skips.on rfl rfl rfl rfl rfl hb1) rfl ?_
      refine LW.rd hL rfl (Wants.free rfl) rfl (Rd.pickF rfl hb1 rfl) ?_
      exact LW.sub hL (by exact ⟨rfl, rfl, rfl, rfl, rfl, rfl, trivial⟩) (K1 false w3 h)
  intro b3 w4 h_
  have h := hJ1 b3 w4 h_; clear h_
  refine LW.nil hL rfl ?_
  refine NW.then ?_
  refine CW.cond rfl (fun hb2 => ?_) (fun hb2 => ?_)
  · replace h := h.1 hb2
    refine CW.seq ?_
    refine CW.region fun L hL => ?_
    refine LW.rd hL rfl (Wants.free rfl) rfl (Rd.assign (v := .int .i64 2) rfl) ?_
    refine LW.nil hL rfl ?_
    refine NW.then ?_
    refine CW.ret ?_
    refine RW.then ?_
    exact res1 rfl rfl ⟨2, rfl, h⟩
  · replace h := h.2 hb2
    refine CW.skip ?_
    refine NW.then ?_
    refine CW.seq ?_
    refine CW.region fun L hL => ?_
    obtain ⟨t3, hc3, h⟩ := h
    refine LW.rd hL rfl (Wants.free rfl) rfl (Rd.ld (v := .pointer t3) rfl (by kernel_rfl) (eqs hc3)) ?_
    refine LW.rd hL rfl (Wants.free rfl) rfl (Rd.move (v := .int .i64 at1) rfl) ?_
    refine LW.rd hL rfl (Wants.free rfl) rfl (Rd.move (v := .int .i64 n1) rfl) ?_
    refine LW.rd hL rfl (Wants.free rfl) rfl (Rd.makeFunc rfl) ?_
    refine LW.call hL rfl (Wants.free rfl) rfl (Cl.fn (f := 85) rfl Try.func85 (by kernel_rfl) rfl) h (fun e w5 h_ => ?_)
    clear h
    obtain ⟨r3, rfl, h⟩ := h_
    refine ⟨_, rfl, ?_⟩
    refine LW.rd hL rfl (Wants.free rfl) rfl (Rd.assign (v := .int .i64 r3) rfl) ?_
    refine LW.nil hL rfl ?_
    refine NW.then ?_
    refine CW.ret ?_
    exact res1 rfl rfl ⟨r3, rfl, h⟩

/- (*pomander/shadow.Shadow).Get -/
def V_shadow_Shadow_Get (s1 : Option Addr) (at1 : Int) (w : World) (R : Int → Int → World → Prop) : Prop :=
  Calls Try.prog 46 #[.pointer s1, .int .i64 at1, .int .i64 1] w fun e w1 => ∃ (r3 : Int) (r4 : Int), e = .returned (.tuple #[.int .u32 r3, .int .i64 r4]) ∧ (R r3 r4 w1)
set_option maxRecDepth 100000 in
theorem ok_shadow_Shadow_Get (s1 : Option Addr) (at1 : Int) (w : World) (R : Int → Int → World → Prop) (h : V_shadow_Shadow_Get s1 at1 w R) : Calls Try.prog 42 #[.pointer s1, .int .i64 at1] w (fun e w' => ∃ (r1 : Int) (r2 : Int), e = .returned (.tuple #[.int .u32 r1, .int .i64 r2]) ∧ R r1 r2 w') := by
  unfold V_shadow_Shadow_Get at h
  refine enter (N := 11) Try.func42 rfl rfl ?_
  refine CW.seq ?_
  refine CW.region fun L hL => ?_
  refine LW.rd hL rfl (Wants.free rfl) rfl (Rd.assign (v := .int .u32 0) rfl) ?_
  refine LW.rd hL rfl (Wants.free rfl) rfl (Rd.assign (v := .int .i64 0) rfl) ?_
  refine LW.nil hL rfl ?_
  refine NW.then ?_
  refine CW.seq ?_
  refine CW.region fun L hL => ?_
  refine LW.rd hL rfl (Wants.free rfl) rfl (Rd.move (v := .pointer s1) rfl) ?_
  refine LW.rd hL rfl (Wants.free rfl) rfl (Rd.move (v := .int .i64 at1) rfl) ?_
  refine LW.call hL rfl (Wants.free rfl) rfl (Cl.fn (f := 46) rfl Try.func46 (by kernel_rfl) rfl) h (fun e w1 h_ => ?_)
  clear h
  obtain ⟨r3, r4, rfl, h⟩ := h_
  refine ⟨_, rfl, ?_⟩
  refine LW.rd hL rfl (Wants.free rfl) rfl (Rd.extract (v := .int .u32 r3) rfl rfl) ?_
  refine LW.rd hL rfl (Wants.free rfl) rfl (Rd.extract (v := .int .i64 r4) rfl rfl) ?_
  refine LW.rd hL rfl (Wants.free rfl) rfl (Rd.assign (v := .int .u32 r3) rfl) ?_
  refine LW.rd hL rfl (Wants.free rfl) rfl (Rd.assign (v := .int .i64 r4) rfl) ?_
  refine LW.nil hL rfl ?_
  refine NW.then ?_
  refine CW.ret ?_
  exact res2 rfl rfl rfl ⟨r3, r4, rfl, h⟩

/- (*pomander/shadow.Shadow).Set -/
def V_shadow_Shadow_Set (s1 : Option Addr) (at1 : Int) (set1 : Int) (w : World) (R : Int → World → Prop) : Prop :=
  Calls Try.prog 49 #[.pointer s1, .int .i64 at1, .int .i64 1, .int .u32 set1] w fun e w1 => ∃ (r2 : Int), e = .returned (.int .i64 r2) ∧ (R r2 w1)
set_option maxRecDepth 100000 in
theorem ok_shadow_Shadow_Set (s1 : Option Addr) (at1 : Int) (set1 : Int) (w : World) (R : Int → World → Prop) (h : V_shadow_Shadow_Set s1 at1 set1 w R) : Calls Try.prog 52 #[.pointer s1, .int .i64 at1, .int .u32 set1] w (fun e w' => ∃ (r1 : Int), e = .returned (.int .i64 r1) ∧ R r1 w') := by
  unfold V_shadow_Shadow_Set at h
  refine enter (N := 11) Try.func52 rfl rfl ?_
  refine CW.seq ?_
  refine CW.region fun L hL => ?_
  refine LW.rd hL rfl (Wants.free rfl) rfl (Rd.assign (v := .int .i64 0) rfl) ?_
  refine LW.nil hL rfl ?_
  refine NW.then ?_
  refine CW.seq ?_
  refine CW.region fun L hL => ?_
  refine LW.rd hL rfl (Wants.free rfl) rfl (Rd.move (v := .pointer s1) rfl) ?_
  refine LW.rd hL rfl (Wants.free rfl) rfl (Rd.move (v := .int .i64 at1) rfl) ?_
  refine LW.rd hL rfl (Wants.free rfl) rfl (Rd.move (v := .int .u32 set1) rfl) ?_
  refine LW.call hL rfl (Wants.free rfl) rfl (Cl.fn (f := 49) rfl Try.func49 (by kernel_rfl) rfl) h (fun e w1 h_ => ?_)
  clear h
  obtain ⟨r2, rfl, h⟩ := h_
  refine ⟨_, rfl, ?_⟩
  refine LW.rd hL rfl (Wants.free rfl) rfl (Rd.assign (v := .int .i64 r2) rfl) ?_
  refine LW.nil hL rfl ?_
  refine NW.then ?_
  refine CW.ret ?_
  exact res1 rfl rfl ⟨r2, rfl, h⟩

/- pomander/shadow.New -/
def V_shadow_New (pages1 : Int) (w : World) (R : (Option Addr) → Int → World → Prop) : Prop :=
  ((decide (pages1 < 1) || decide (pages1 > 32)) = true → R none 2 w) ∧ ((decide (pages1 < 1) || decide (pages1 > 32)) = false → ∀ b1 : Nat, b1 = World.size w → ∀ w1 : World, w1 = World.alloc w (.map #[] 0) → (∀ b2 : Nat, b2 = World.size w1 → ∀ w2 : World, w2 = World.alloc w1 (.cells #[.int .i64 pages1, .map (some b1)] 176) → (R (some ⟨b2, 0, none⟩) 0 w2)))
set_option maxRecDepth 100000 in
theorem ok_shadow_New (pages1 : Int) (w : World) (R : (Option Addr) → Int → World → Prop) (h : V_shadow_New pages1 w R) : Calls Try.prog 51 #[.int .i64 pages1] w (fun e w' => ∃ (r1 : Option Addr) (r2 : Int), e = .returned (.tuple #[.pointer r1, .int .i64 r2]) ∧ R r1 r2 w') := by
  unfold V_shadow_New at h
  refine enter (N := 14) Try.func51 rfl rfl ?_
  refine CW.seq ?_
  refine CW.region fun L hL => ?_
  refine LW.rd hL rfl (Wants.free rfl) rfl (Rd.assign (v := .pointer none) rfl) ?_
  refine LW.rd hL rfl (Wants.free rfl) rfl (Rd.assign (v := .int .i64 0) rfl) ?_
  refine LW.nil hL rfl ?_
  refine NW.then ?_
  refine CW.seq ?_
  refine CW.seq ?_
  refine CW.region fun L hL => ?_
  refine LW.rd hL rfl (Wants.free rfl) rfl (Rd.move (v := .int .i64 pages1) rfl) ?_
  refine LW.rd hL rfl (Wants.free rfl) rfl (Rd.bin (v := .bool (decide (pages1 < 1))) rfl rfl (fun w => by kernel_rfl)) ?_
  refine LW.rd hL rfl (Wants.free rfl) rfl (Rd.move (v := .bool (decide (pages1 < 1))) rfl) ?_
  suffices K1 : L 6 [(0, .int .i64 pages1), (2, .pointer none), (3, .int .i64 0), (9, .bool (decide (pages1 < 1) || decide (pages1 > 32)))] w by
    rcases Bool.eq_false_or_eq_true (decide (pages1 < 1)) with hb2 | hb2
    · skip
      refine LW.skip hL rfl (Skips.on rfl rfl rfl rfl rfl hb2) rfl ?_
      refine LW.skip hL rfl (Skips.on rfl rfl rfl rfl rfl hb2) rfl ?_
      refine LW.rd hL rfl (Wants.free rfl) rfl (Rd.pickT rfl hb2 rfl) ?_
      exact LW.sub hL (by exact ⟨rfl, rfl, rfl, (by rw [hb2]; rfl), trivial⟩) K1
    · skip
      refine LW.rd hL rfl (Wants.on rfl rfl rfl rfl rfl hb2) rfl (Rd.move (v := .int .i64 pages1) rfl) ?_
      refine LW.rd hL rfl (Wants.on rfl rfl rfl rfl rfl hb2) rfl (Rd.bin (v := .bool (decide (pages1 > 32))) rfl rfl (fun w => by kernel_rfl)) ?_
      refine LW.rd hL rfl (Wants.free rfl) rfl (Rd.pickF rfl hb2 rfl) ?_
      exact LW.sub hL (by exact ⟨rfl, rfl, rfl, (by rw [hb2]; rfl), trivial⟩) K1
  refine LW.nil hL rfl ?_
  refine NW.then ?_
  refine CW.cond rfl (fun hb3 => ?_) (fun hb3 => ?_)
  · replace h := h.1 hb3
    refine CW.seq ?_
    refine CW.region fun L hL => ?_
    refine LW.rd hL rfl (Wants.free rfl) rfl (Rd.assign (v := .pointer none) rfl) ?_
    refine LW.rd hL rfl (Wants.free rfl) rfl (Rd.assign (v := .int .i64 2) rfl) ?_
    refine LW.nil hL rfl ?_
    refine NW.then ?_
    refine CW.ret ?_
    refine RW.then ?_
    exact res2 rfl rfl rfl ⟨none, 2, rfl, h⟩
  · replace h := h.2 hb3
    refine CW.skip ?_
    refine NW.then ?_
    refine CW.seq ?_
    refine CW.region fun L hL => ?_
    refine LW.rd hL rfl (Wants.free rfl) rfl (Rd.move (v := .int .i64 pages1) rfl) ?_
    obtain ⟨b1, hb_b1⟩ : ∃ b1, b1 = World.size w := ⟨_, rfl⟩
    obtain ⟨w1, hw_w1⟩ : ∃ w1, w1 = World.alloc w (.map #[] 0) := ⟨_, rfl⟩
    replace h := h b1 hb_b1 w1 hw_w1
    refine LW.val hL rfl (Wants.free rfl) rfl (mapE hb_b1 hw_w1 Vl.makeMap) ?_
    refine LW.rd hL rfl (Wants.free rfl) rfl (Rd.build (v := .agg #[.int .i64 pages1, .map (some b1)]) rfl (fun _ => by kernel_rfl)) ?_
    obtain ⟨b2, hb_b2⟩ : ∃ b2, b2 = World.size w1 := ⟨_, rfl⟩
    obtain ⟨w2, hw_w2⟩ : ∃ w2, w2 = World.alloc w1 (.cells #[.int .i64 pages1, .map (some b1)] 176) := ⟨_, rfl⟩
    replace h := h b2 hb_b2 w2 hw_w2
    refine LW.val hL rfl (Wants.free rfl) rfl (boxE hb_b2 hw_w2 (Vl.box (v := .agg #[.int .i64 pages1, .map (some b1)]) rfl)) ?_
    refine LW.rd hL rfl (Wants.free rfl) rfl (Rd.assign (v := .pointer (some ⟨b2, 0, none⟩)) rfl) ?_
    refine LW.rd hL rfl (Wants.free rfl) rfl (Rd.assign (v := .int .i64 0) rfl) ?_
    refine LW.nil hL rfl ?_
    refine NW.then ?_
    refine CW.ret ?_
    exact res2 rfl rfl rfl ⟨some ⟨b2, 0, none⟩, 0, rfl, h⟩

end Go.Proofs.Ytkfncibmfcdokaa
