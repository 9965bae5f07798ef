/- Texts of the claim, merged: XChain14 XHchain XBytes14 XChainW XRef1 XRef2 XRef3 XRef4 XOpen XOpen2 XOpen14 XStep. -/
import Derived.Test.YtfcfkhbkkfpehaaDoorXC2
import Derived.Test.YtfcfkhbkkfpehaaDoorProg
import Derived.WalkKit
import Derived.ProofKit
import Derived.OpenShut
import Derived.ChangeOld
import Derived.Carry
import Derived.Test.YtfcfkhbkkfpehaaDoorRows
set_option linter.unusedSectionVars false
set_option linter.unusedSimpArgs false
set_option linter.unusedVariables false
section
/- QueryChain, in plain Lean: along a chain all came from the first one. -/
namespace Go.Proofs.YtfcfkhbkkfpehaaDoor
open Go Go.RowKit Go.X Go.XR
def stC (gs : List Int) : Nat → Int
 | 0 => 0
 | k + 1 => stC gs k + 1 + gs.getD (k + 1) 0
def frC (l : List Pl) (k : Nat) : List Pl := if k = 2 then [l.getD 0 (0, 0), l.getD 1 (0, 0)] else [l.getD (k - 1) (0, 0)]
def noC (l : List Pl) (gs : List Int) (k : Nat) : Nt := (stC gs k, l.getD k (0, 0), frC l k)
def nsC (l : List Pl) (gs : List Int) (i : Nat) : List Nt := (List.range i).map (fun k => noC l gs (k + 1))
theorem nsC_snoc (l : List Pl) (gs : List Int) (i : Nat) : nsC l gs (i + 1) = nsC l gs i ++ [noC l gs (i + 1)] := by simp [nsC, List.range_succ]
theorem mem_nsC {l : List Pl} {gs : List Int} {i : Nat} {n : Nt} : n ∈ nsC l gs i ↔ ∃ k, 1 ≤ k ∧ k ≤ i ∧ n = noC l gs k := by
 unfold nsC
 rw [List.mem_map]
 constructor
 ·rintro ⟨k, hk, rfl⟩
  exact ⟨k + 1, by omega, by simp at hk; omega, rfl⟩
 ·rintro ⟨k, h1, h2, rfl⟩
  exact ⟨k - 1, by simp; omega, by rw [show k - 1 + 1 = k by omega]⟩
section
variable {l : List Pl} {gs : List Int} (hg : ∀ g ∈ gs, 0 ≤ g ∧ g ≤ 255)
include hg
theorem getD_gs (k : Nat) : 0 ≤ gs.getD k 0 ∧ gs.getD k 0 ≤ 255 := by
 rw [List.getD_eq_getElem?_getD]
 cases h : gs[k]? with
 | none => simp
 | some g => exact hg g (List.mem_of_getElem? h)
theorem stC_lt (k : Nat) : stC gs k < stC gs (k + 1) := by
 have := getD_gs hg (k + 1)
 simp only [stC]; omega
theorem stC_mono {j k : Nat} (h : j < k) : stC gs j < stC gs k := by
 induction k with
 | zero => omega
 | succ k ih =>
  have := stC_lt hg k
  by_cases e : j = k
  ·subst e; exact this
  ·have := ih (by omega); omega
theorem stC_le (k : Nat) : 0 ≤ stC gs k ∧ stC gs k ≤ 256 * k := by
 induction k with
 | zero => simp [stC]
 | succ k ih =>
  have := getD_gs hg (k + 1)
  simp only [stC]; omega
end
def unlike (l : List Pl) : Prop := ∀ (i k : Nat) (x y : Pl), k < i → l[i]? = some x → l[k]? = some y → y ≠ x
theorem unlike_inj {l : List Pl} (h : unlike l) {i k : Nat} (hi : i < l.length) (hk : k < l.length) (he : l.getD i (0, 0) = l.getD k (0, 0)) : i = k := by
 rw [List.getD_eq_getElem?_getD, List.getD_eq_getElem?_getD, List.getElem?_eq_getElem hi, List.getElem?_eq_getElem hk] at he
 simp at he
 rcases Nat.lt_trichotomy i k with h' | h' | h'
 ·exact absurd he (h k i _ _ h' (List.getElem?_eq_getElem hk) (List.getElem?_eq_getElem hi))
 ·exact h'
 ·exact absurd he.symm (h i k _ _ h' (List.getElem?_eq_getElem hi) (List.getElem?_eq_getElem hk))
theorem bef_none_of {ns : List Nt} {u : Wh} (h : ∀ n ∈ ns, n.2.1 = u.1 → ¬ n.1 < u.2) : bef (ofPl ns u.1) u.2 = none := by
 cases hb : bef (ofPl ns u.1) u.2 with
 | none => rfl
 | some n =>
  obtain ⟨h1, h2, h3⟩ := bef_some hb
  exact absurd h3 (h n h1 h2)
theorem bef_ne_none {ns : List Nt} {u : Wh} {n : Nt} (h1 : n ∈ ns) (h2 : n.2.1 = u.1) (h3 : n.1 < u.2) : bef (ofPl ns u.1) u.2 ≠ none := fun hb => by
 unfold bef ofPl at hb
 rw [List.find?_eq_none] at hb
 exact hb n (by rw [List.mem_reverse, List.mem_filter]; exact ⟨h1, by simpa using h2⟩) (by simpa using h3)
section
variable {l : List Pl} {gs : List Int} {i : Nat} (hg : ∀ g ∈ gs, 0 ≤ g ∧ g ≤ 255) (hu : unlike l) (hi : i < l.length)
include hg hu hi
theorem chain_bef {m : Nat} (h1 : 1 ≤ m) (h2 : m ≤ i) {s : Int} (hs : stC gs m < s) : bef (ofPl (nsC l gs i) (l.getD m (0, 0))) s = some (noC l gs m) := by
 cases hb : bef (ofPl (nsC l gs i) (l.getD m (0, 0))) s with
 | none => exact absurd hb (bef_ne_none (u := (l.getD m (0, 0), s)) (mem_nsC.2 ⟨m, h1, h2, rfl⟩) rfl hs)
 | some n =>
  obtain ⟨k1, k2, k3⟩ := bef_some (u := (l.getD m (0, 0), s)) hb
  obtain ⟨k, e1, e2, rfl⟩ := mem_nsC.1 k1
  have : k = m := unlike_inj hu (by omega) (by omega) k2
  subst this; rfl
theorem chain_bef0 (s : Int) : bef (ofPl (nsC l gs i) (l.getD 0 (0, 0))) s = none := by
 refine bef_none_of (u := (l.getD 0 (0, 0), s)) fun n hn he => ?_
 obtain ⟨k, e1, e2, rfl⟩ := mem_nsC.1 hn
 have : k = 0 := unlike_inj hu (by omega) (by omega) he
 omega
theorem chain_kids {m : Nat} (h1 : 1 ≤ m) (h2 : m ≤ i) {s : Int} (hs : stC gs m < s) : kids (nsC l gs i) (l.getD m (0, 0), s) = (frC l m).map (fun q => (q, stC gs m)) := by
 unfold kids
 rw [chain_bef hg hu hi h1 h2 hs]
 rfl
theorem mem_frC {m : Nat} {q : Pl} (h1 : 1 ≤ m) (h : q ∈ frC l m) : ∃ k, k < m ∧ q = l.getD k (0, 0) := by
 unfold frC at h
 split at h
 ·simp at h
  rcases h with rfl | rfl
  ·exact ⟨0, by omega, by simp⟩
  ·exact ⟨1, by omega, by simp⟩
 ·simp at h
  subst h
  exact ⟨m - 1, by omega, by simp⟩
theorem chain_reach {k : Nat} (hk : k ≤ i) {s : Int} (hs : k = 0 ∨ stC gs k < s) {u : Wh} (h : Reach (nsC l gs i) (l.getD k (0, 0), s) u) : ∃ m, m ≤ i ∧ u.1 = l.getD m (0, 0) ∧ (m = 0 ∨ stC gs m < u.2) := by
 induction h with
 | refl => exact ⟨k, hk, rfl, hs⟩
 | @step b c _ hc ih =>
  obtain ⟨m, h1, h2, h3⟩ := ih
  obtain ⟨b1, b2⟩ := b
  simp only [] at h2 h3
  subst h2
  rcases h3 with rfl | h3
  ·unfold kids at hc
   rw [show bef (ofPl (nsC l gs i) (l.getD 0 (0, 0), b2).1) (l.getD 0 (0, 0), b2).2 = none from chain_bef0 hg hu hi b2] at hc
   simp at hc
  ·by_cases hm : m = 0
   ·subst hm
    unfold kids at hc
    rw [show bef (ofPl (nsC l gs i) (l.getD 0 (0, 0), b2).1) (l.getD 0 (0, 0), b2).2 = none from chain_bef0 hg hu hi b2] at hc
    simp at hc
   ·rw [chain_kids hg hu hi (by omega) h1 h3] at hc
    obtain ⟨q, hq, rfl⟩ := List.mem_map.1 hc
    obtain ⟨k', hk', rfl⟩ := mem_frC hg hu hi (by omega) hq
    exact ⟨k', by omega, rfl, .inr (stC_mono hg hk')⟩
theorem chain_there : ∀ (k : Nat), k ≤ i → ∀ s, k = 0 ∨ stC gs k < s → isRoot (nsC l gs i) (l.getD k (0, 0), s) (l.getD 0 (0, 0))
 | 0, _, s, _ => ⟨_, .refl, rfl, chain_bef0 hg hu hi s⟩
 | k + 1, hk, s, hs => by
  have hs' : stC gs (k + 1) < s := hs.resolve_left (by omega)
  obtain ⟨u, h1, h2, h3⟩ := chain_there k (by omega) (stC gs (k + 1)) (.inr (stC_lt hg k))
  refine ⟨u, ?_, h2, h3⟩
  refine (Reach.step .refl ?_).trans h1
  rw [chain_kids hg hu hi (by omega) hk hs']
  refine List.mem_map.2 ⟨l.getD k (0, 0), ?_, rfl⟩
  unfold frC
  split
  ·rename_i e
   obtain rfl : k = 1 := by omega
   simp
  ·simp
theorem chain_root (h1 : 1 ≤ i) (q : Pl) : isRoot (nsC l gs i) (l.getD i (0, 0), stC gs i + 1) q ↔ q = l.getD 0 (0, 0) := by
 constructor
 ·rintro ⟨u, hr, rfl, hb⟩
  obtain ⟨m, k1, k2, k3⟩ := chain_reach hg hu hi (Nat.le_refl _) (.inr (by omega)) hr
  rcases k3 with rfl | k3
  ·exact k2
  ·by_cases hm : m = 0
   ·subst hm; exact k2
   ·rw [k2, chain_bef hg hu hi (by omega) k1 k3] at hb
    cases hb
 ·rintro rfl
  exact chain_there hg hu hi i (Nat.le_refl _) _ (.inr (by omega))
theorem chain_self (h1 : 1 ≤ i) (q : Pl) : isRoot (nsC l gs i) (l.getD i (0, 0), stC gs i) q ↔ q = l.getD i (0, 0) := by
 have hn : bef (ofPl (nsC l gs i) (l.getD i (0, 0))) (stC gs i) = none := by
  refine bef_none_of (u := (l.getD i (0, 0), stC gs i)) fun n hn he => ?_
  obtain ⟨k, e1, e2, rfl⟩ := mem_nsC.1 hn
  have : k = i := unlike_inj hu (by omega) (by omega) he
  subst this
  exact Int.lt_irrefl _
 have hk : kids (nsC l gs i) (l.getD i (0, 0), stC gs i) = [] := by unfold kids; rw [hn]
 constructor
 ·rintro ⟨u, hr, rfl, hb⟩
  have : ∀ u, Reach (nsC l gs i) (l.getD i (0, 0), stC gs i) u → u = (l.getD i (0, 0), stC gs i) := by
   intro u hr
   induction hr with
   | refl => rfl
   | step _ hc ih => rw [ih, hk] at hc; simp at hc
  rw [this u hr]
 ·rintro rfl
  exact ⟨_, .refl, rfl, hn⟩
end
end Go.Proofs.YtfcfkhbkkfpehaaDoor
end
section
namespace Go.Proofs.YtfcfkhbkkfpehaaDoor
open Go Go.X
/- pomander/pomanderlaw14.QueryChain -/
def W_pomanderlaw14_QueryChain (l1 : Option Addr) (l1n : Nat) (l1c : Nat) (gaps1 : Option Addr) (gaps1n : Nat) (gaps1c : Nat) (w : World) (R : Bool → World → Prop) : Prop :=
 ((((decide ((l1n : Int) < 3) || decide ((l1n : Int) > 12)) || decide ((gaps1n : Int) < (l1n : Int))) || decide ((gaps1n : Int) > 20)) = true → Calls Tryd.prog 7 #[] w fun e w1 => ∃ (r2 : Bool), e = .returned (.bool r2) ∧ (R r2 w1)) ∧ ((((decide ((l1n : Int) < 3) || decide ((l1n : Int) > 12)) || decide ((gaps1n : Int) < (l1n : Int))) || decide ((gaps1n : Int) > 20)) = false → ∃ (I1 : Bool → Int → World → Prop) (m1 : Bool → Int → World → Nat), I1 false 0 w ∧ ∀ (x1 : Bool) (i1 : Int) (w2 : World), I1 x1 i1 w2 → ((decide (i1 < (l1n : Int))) = true → ∃ (I2 : Bool → Int → World → Prop) (m2 : Bool → Int → World → Nat), I2 x1 0 w2 ∧ ∀ (x2 : Bool) (k1 : Int) (w3 : World), I2 x2 k1 w3 → ((decide (k1 < i1)) = true → ∃ a1 : Addr, l1 = some a1 ∧ (0 : Int) ≤ k1 ∧ k1 < (l1n : Int) ∧ (∀ (w4 : World), Chg [] w3 w4 → (∃ (t1 : Int) (t2 : Int), CellsAt w4 (a1.add (Int.toNat k1 * 2)) 0 [.int .i64 t1, .int .i64 t2] ∧ (∃ a2 : Addr, l1 = some a2 ∧ (0 : Int) ≤ i1 ∧ i1 < (l1n : Int) ∧ (∃ (t3 : Int) (t4 : Int), CellsAt w4 (a2.add (Int.toNat i1 * 2)) 0 [.int .i64 t3, .int .i64 t4] ∧ (∃ J1 : Bool → World → Prop, (∀ (b1 : Bool) (w5 : World), J1 b1 w5 → ∃ J2 : Bool → World → Prop, (∀ (b2 : Bool) (w6 : World), J2 b2 w6 → (b2 = true → Calls Tryd.prog 7 #[] w6 fun e w7 => ∃ (r3 : Bool), e = .returned (.bool r3) ∧ (R r3 w7)) ∧ (b2 = false → (I2 x2 (IntKind.wrap .i64 (k1 + 1)) w6 ∧ m2 x2 (IntKind.wrap .i64 (k1 + 1)) w6 < m2 x2 k1 w3))) ∧ ((b1 = false → ∃ (t7 : Int) (t8 : Int), CellsAt w5 (a1.add (Int.toNat k1 * 2)) 0 [.int .i64 t7, .int .i64 t8] ∧ (J2 ((t7 == 0) && (t8 == 0)) w5)) ∧ (b1 = true → J2 true w5))) ∧ ((((t1 == t3) && (t2 == t4)) = false → ∃ (t5 : Int) (t6 : Int), CellsAt w4 (a2.add (Int.toNat i1 * 2)) 0 [.int .i64 t5, .int .i64 t6] ∧ (J1 ((t5 == 0) && (t6 == 0)) w4)) ∧ (((t1 == t3) && (t2 == t4)) = true → J1 true w4)))))))) ∧ ((decide (k1 < i1)) = false → (I1 x2 (IntKind.wrap .i64 (i1 + 1)) w3 ∧ m1 x2 (IntKind.wrap .i64 (i1 + 1)) w3 < m1 x1 i1 w2))) ∧ ((decide (i1 < (l1n : Int))) = false → Calls Tryd.prog 8 #[] w2 fun e w8 => ∃ (r4 : Option Addr), e = .returned (.pointer r4) ∧ (∃ (I3 : Bool → Int → Int → World → Prop) (m3 : Bool → Int → Int → World → Nat), I3 x1 0 1 w8 ∧ ∀ (x3 : Bool) (step1 : Int) (i2 : Int) (w9 : World), I3 x3 step1 i2 w9 → ((decide (i2 < (l1n : Int))) = true → ∃ a3 : Addr, gaps1 = some a3 ∧ (0 : Int) ≤ i2 ∧ i2 < (gaps1n : Int) ∧ (∃ (t9 : Int), w9.cell? (a3.add (Int.toNat i2 * 1)) = some (.int .u8 t9) ∧ (∃ a4 : Addr, l1 = some a4 ∧ (0 : Int) ≤ IntKind.wrap .i64 (i2 - 1) ∧ IntKind.wrap .i64 (i2 - 1) < (l1n : Int) ∧ (∃ (t10 : Int) (t11 : Int), CellsAt w9 (a4.add (Int.toNat (IntKind.wrap .i64 (i2 - 1)) * 2)) 0 [.int .i64 t10, .int .i64 t11] ∧ (∀ b3 : Nat, b3 = World.size w9 → ∀ w10 : World, w10 = World.alloc w9 (.cells #[.int .i64 t10, .int .i64 t11] 27) → (∃ J3 : (Option Addr) → Nat → Nat → World → Prop, (∀ (from1 : Option Addr) (from1n : Nat) (from1c : Nat) (w11 : World), J3 from1 from1n from1c w11 → ∃ a5 : Addr, l1 = some a5 ∧ (0 : Int) ≤ i2 ∧ i2 < (l1n : Int) ∧ (∃ (t12 : Int) (t13 : Int), CellsAt w11 (a5.add (Int.toNat i2 * 2)) 0 [.int .i64 t12, .int .i64 t13] ∧ (∀ b4 : Nat, b4 = World.size w11 → ∀ w12 : World, w12 = World.alloc w11 (.cells #[.int .i64 t12, .int .i64 t13, .slice from1 from1n from1c] 33) → (Calls Tryd.prog 9 #[.pointer r4, .int .i64 (IntKind.wrap .i64 ((IntKind.wrap .i64 (step1 + 1)) + (IntKind.wrap .i64 t9))), .slice (some (⟨b4, 0, none⟩ : Addr)) 1 1] w12 fun e w13 => ∃ (r5 : Int), e = .returned (.int .i64 r5) ∧ (((!(r5 == 0)) = true → R false w13) ∧ ((!(r5 == 0)) = false → ∃ (t14 : Int) (t15 : Int), CellsAt w13 (a5.add (Int.toNat i2 * 2)) 0 [.int .i64 t14, .int .i64 t15] ∧ (Calls Tryd.prog 10 #[.pointer r4, .agg #[.int .i64 t14, .int .i64 t15], .int .i64 (IntKind.wrap .i64 ((IntKind.wrap .i64 ((IntKind.wrap .i64 (step1 + 1)) + (IntKind.wrap .i64 t9))) + 1))] w13 fun e w14 => ∃ (r6 : Option Addr) (r6n : Nat) (r6c : Nat), e = .returned (.slice r6 r6n r6c) ∧ (∀ (w15 : World), Chg [] w14 w15 → (∃ a6 : Addr, l1 = some a6 ∧ (0 : Int) ≤ 0 ∧ 0 < (l1n : Int) ∧ (∃ (t16 : Int) (t17 : Int), CellsAt w15 (a6.add (Int.toNat 0 * 2)) 0 [.int .i64 t16, .int .i64 t17] ∧ (∃ (t18 : Int) (t19 : Int), CellsAt w15 (a5.add (Int.toNat i2 * 2)) 0 [.int .i64 t18, .int .i64 t19] ∧ (∃ J4 : Bool → World → Prop, (∀ (b5 : Bool) (w16 : World), J4 b5 w16 → ∃ J5 : Bool → World → Prop, (∀ (b6 : Bool) (w17 : World), J5 b6 w17 → ∃ J6 : Bool → World → Prop, (∀ (b7 : Bool) (w19 : World), J6 b7 w19 → (b7 = true → R false w19) ∧ (b7 = false → (I3 x3 (IntKind.wrap .i64 ((IntKind.wrap .i64 (step1 + 1)) + (IntKind.wrap .i64 t9))) (IntKind.wrap .i64 (i2 + 1)) w19 ∧ m3 x3 (IntKind.wrap .i64 ((IntKind.wrap .i64 (step1 + 1)) + (IntKind.wrap .i64 t9))) (IntKind.wrap .i64 (i2 + 1)) w19 < m3 x3 step1 i2 w9))) ∧ ((b6 = false → Calls Tryd.prog 10 #[.pointer r4, .agg #[.int .i64 t18, .int .i64 t19], .int .i64 (IntKind.wrap .i64 ((IntKind.wrap .i64 (step1 + 1)) + (IntKind.wrap .i64 t9)))] w17 fun e w20 => ∃ (r8 : Option Addr) (r8n : Nat) (r8c : Nat), e = .returned (.slice r8 r8n r8c) ∧ ((CellsAt w20 (a6.add (Int.toNat 0 * 2)) 0 [.int .i64 t16, .int .i64 t17] ∧ CellsAt w20 (a5.add (Int.toNat i2 * 2)) 0 [.int .i64 t18, .int .i64 t19]) ∧ (∃ a8 : Addr, r8 = some a8 ∧ (0 : Int) ≤ 0 ∧ 0 < (r8n : Int) ∧ (∃ (t22 : Int) (t23 : Int), CellsAt w20 (a8.add (Int.toNat 0 * 2)) 0 [.int .i64 t22, .int .i64 t23] ∧ (J6 (!((t22 == t18) && (t23 == t19))) w20))))) ∧ (b6 = true → J6 true w17))) ∧ ((b5 = false → Calls Tryd.prog 10 #[.pointer r4, .agg #[.int .i64 t18, .int .i64 t19], .int .i64 (IntKind.wrap .i64 ((IntKind.wrap .i64 (step1 + 1)) + (IntKind.wrap .i64 t9)))] w16 fun e w18 => ∃ (r7 : Option Addr) (r7n : Nat) (r7c : Nat), e = .returned (.slice r7 r7n r7c) ∧ ((CellsAt w18 (a6.add (Int.toNat 0 * 2)) 0 [.int .i64 t16, .int .i64 t17] ∧ CellsAt w18 (a5.add (Int.toNat i2 * 2)) 0 [.int .i64 t18, .int .i64 t19]) ∧ (J5 (!((r7n : Int) == 1)) w18))) ∧ (b5 = true → J5 true w16))) ∧ (((!((r6n : Int) == 1)) = false → ∃ a7 : Addr, r6 = some a7 ∧ (0 : Int) ≤ 0 ∧ 0 < (r6n : Int) ∧ (∃ (t20 : Int) (t21 : Int), CellsAt w15 (a7.add (Int.toNat 0 * 2)) 0 [.int .i64 t20, .int .i64 t21] ∧ (J4 (!((t20 == t16) && (t21 == t17))) w15))) ∧ ((!((r6n : Int) == 1)) = true → J4 true w15)))))))))))))) ∧ (((i2 == 2) = true → ∃ a9 : Addr, l1 = some a9 ∧ (0 : Int) ≤ 0 ∧ 0 < (l1n : Int) ∧ (∀ (w21 : World), Chg [] w10 w21 → (∃ (t24 : Int) (t25 : Int), CellsAt w21 (a9.add (Int.toNat 0 * 2)) 0 [.int .i64 t24, .int .i64 t25] ∧ (∃ a10 : Addr, l1 = some a10 ∧ (0 : Int) ≤ 1 ∧ 1 < (l1n : Int) ∧ (∃ (t26 : Int) (t27 : Int), CellsAt w21 (a10.add (Int.toNat 1 * 2)) 0 [.int .i64 t26, .int .i64 t27] ∧ (∀ b8 : Nat, b8 = World.size w21 → ∀ w22 : World, w22 = World.alloc w21 (.cells #[.int .i64 t24, .int .i64 t25, .int .i64 t26, .int .i64 t27] 27) → (J3 (some (⟨b8, 0, none⟩ : Addr)) 2 2 w22))))))) ∧ ((i2 == 2) = false → J3 (some (⟨b3, 0, none⟩ : Addr)) 1 1 w10)))))))) ∧ ((decide (i2 < (l1n : Int))) = false → Calls Tryd.prog 7 #[] w9 fun e w23 => ∃ (r9 : Bool), e = .returned (.bool r9) ∧ (R r9 w23)))))
set_option maxRecDepth 100000 in
theorem go_pomanderlaw14_QueryChain (l1 : Option Addr) (l1n : Nat) (l1c : Nat) (gaps1 : Option Addr) (gaps1n : Nat) (gaps1c : Nat) (w : World) (R : Bool → World → Prop) (h : W_pomanderlaw14_QueryChain l1 l1n l1c gaps1 gaps1n gaps1c w R) : Calls Tryd.prog 3 #[.slice l1 l1n l1c, .slice gaps1 gaps1n gaps1c] w (fun e w' => ∃ (r1 : Bool), e = .returned (.bool r1) ∧ R r1 w') := by
 unfold W_pomanderlaw14_QueryChain at h
 refine enter (N := 159) Tryd.func3 rfl rfl ?_
 refine CW.seq ?_
 refine CW.region fun L hL => ?_
 refine LW.rd hL rfl (Wants.free rfl) rfl (Rd.assign (v := .bool false) rfl) ?_
 refine LW.nil hL rfl ?_
 refine NW.then ?_
 refine CW.seq ?_
 refine CW.seq ?_
 refine CW.region fun L hL => ?_
 refine LW.rd hL rfl (Wants.free rfl) rfl (Rd.move (v := .slice l1 l1n l1c) rfl) ?_
 refine LW.rd hL rfl (Wants.free rfl) rfl (Rd.builtin (v := .int .i64 (l1n : Int)) rfl (fun _ _ => by kernel_rfl)) ?_
 refine LW.rd hL rfl (Wants.free rfl) rfl (Rd.bin (v := .bool (decide ((l1n : Int) < 3))) rfl rfl (fun w => by kernel_rfl)) ?_
 refine LW.rd hL rfl (Wants.free rfl) rfl (Rd.move (v := .bool (decide ((l1n : Int) < 3))) rfl) ?_
 suffices K1 : L 8 [(0, .slice l1 l1n l1c), (1, .slice gaps1 gaps1n gaps1c), (4, .bool false), (19, .bool (decide ((l1n : Int) < 3) || decide ((l1n : Int) > 12)))] w by
  rcases Bool.eq_false_or_eq_true (decide ((l1n : Int) < 3)) with hb2 | hb2
  ·skip
   refine LW.skip hL rfl (Skips.on rfl rfl rfl rfl rfl hb2) rfl ?_
   refine LW.skip hL rfl (Skips.on rfl rfl rfl rfl rfl hb2) rfl ?_
   refine LW.skip hL rfl (Skips.on rfl rfl rfl rfl rfl hb2) rfl ?_
   refine LW.rd hL rfl (Wants.free rfl) rfl (Rd.pickT rfl hb2 rfl) ?_
   exact LW.sub hL (by exact ⟨rfl, rfl, rfl, (by rw [hb2]; rfl), trivial⟩) K1
  ·skip
   refine LW.rd hL rfl (Wants.on rfl rfl rfl rfl rfl hb2) rfl (Rd.move (v := .slice l1 l1n l1c) rfl) ?_
   refine LW.rd hL rfl (Wants.on rfl rfl rfl rfl rfl hb2) rfl (Rd.builtin (v := .int .i64 (l1n : Int)) rfl (fun _ _ => by kernel_rfl)) ?_
   refine LW.rd hL rfl (Wants.on rfl rfl rfl rfl rfl hb2) rfl (Rd.bin (v := .bool (decide ((l1n : Int) > 12))) rfl rfl (fun w => by kernel_rfl)) ?_
   refine LW.rd hL rfl (Wants.free rfl) rfl (Rd.pickF rfl hb2 rfl) ?_
   exact LW.sub hL (by exact ⟨rfl, rfl, rfl, (by rw [hb2]; rfl), trivial⟩) K1
 refine LW.rd hL rfl (Wants.free rfl) rfl (Rd.move (v := .bool (decide ((l1n : Int) < 3) || decide ((l1n : Int) > 12))) rfl) ?_
 suffices K2 : L 15 [(0, .slice l1 l1n l1c), (1, .slice gaps1 gaps1n gaps1c), (4, .bool false), (26, .bool ((decide ((l1n : Int) < 3) || decide ((l1n : Int) > 12)) || decide ((gaps1n : Int) < (l1n : Int))))] w by
  rcases Bool.eq_false_or_eq_true (decide ((l1n : Int) < 3) || decide ((l1n : Int) > 12)) with hb4 | hb4
  ·skip
   refine LW.skip hL rfl (Skips.on rfl rfl rfl rfl rfl hb4) rfl ?_
   refine LW.skip hL rfl (Skips.on rfl rfl rfl rfl rfl hb4) rfl ?_
   refine LW.skip hL rfl (Skips.on rfl rfl rfl rfl rfl hb4) rfl ?_
   refine LW.skip hL rfl (Skips.on rfl rfl rfl rfl rfl hb4) rfl ?_
   refine LW.skip hL rfl (Skips.on rfl rfl rfl rfl rfl hb4) rfl ?_
   refine LW.rd hL rfl (Wants.free rfl) rfl (Rd.pickT rfl hb4 rfl) ?_
   exact LW.sub hL (by exact ⟨rfl, rfl, rfl, (by rw [hb4]; rfl), trivial⟩) K2
  ·skip
   refine LW.rd hL rfl (Wants.on rfl rfl rfl rfl rfl hb4) rfl (Rd.move (v := .slice gaps1 gaps1n gaps1c) rfl) ?_
   refine LW.rd hL rfl (Wants.on rfl rfl rfl rfl rfl hb4) rfl (Rd.builtin (v := .int .i64 (gaps1n : Int)) rfl (fun _ _ => by kernel_rfl)) ?_
   refine LW.rd hL rfl (Wants.on rfl rfl rfl rfl rfl hb4) rfl (Rd.move (v := .slice l1 l1n l1c) rfl) ?_
   refine LW.rd hL rfl (Wants.on rfl rfl rfl rfl rfl hb4) rfl (Rd.builtin (v := .int .i64 (l1n : Int)) rfl (fun _ _ => by kernel_rfl)) ?_
   refine LW.rd hL rfl (Wants.on rfl rfl rfl rfl rfl hb4) rfl (Rd.bin (v := .bool (decide ((gaps1n : Int) < (l1n : Int)))) rfl rfl (fun w => by kernel_rfl)) ?_
   refine LW.rd hL rfl (Wants.free rfl) rfl (Rd.pickF rfl hb4 rfl) ?_
   exact LW.sub hL (by exact ⟨rfl, rfl, rfl, (by rw [hb4]; rfl), trivial⟩) K2
 refine LW.rd hL rfl (Wants.free rfl) rfl (Rd.move (v := .bool ((decide ((l1n : Int) < 3) || decide ((l1n : Int) > 12)) || decide ((gaps1n : Int) < (l1n : Int)))) rfl) ?_
 suffices K3 : L 20 [(0, .slice l1 l1n l1c), (1, .slice gaps1 gaps1n gaps1c), (4, .bool false), (31, .bool (((decide ((l1n : Int) < 3) || decide ((l1n : Int) > 12)) || decide ((gaps1n : Int) < (l1n : Int))) || decide ((gaps1n : Int) > 20)))] w by
  rcases Bool.eq_false_or_eq_true ((decide ((l1n : Int) < 3) || decide ((l1n : Int) > 12)) || decide ((gaps1n : Int) < (l1n : Int))) with hb6 | hb6
  ·skip
   refine LW.skip hL rfl (Skips.on rfl rfl rfl rfl rfl hb6) rfl ?_
   refine LW.skip hL rfl (Skips.on rfl rfl rfl rfl rfl hb6) rfl ?_
   refine LW.skip hL rfl (Skips.on rfl rfl rfl rfl rfl hb6) rfl ?_
   refine LW.rd hL rfl (Wants.free rfl) rfl (Rd.pickT rfl hb6 rfl) ?_
   exact LW.sub hL (by exact ⟨rfl, rfl, rfl, (by rw [hb6]; rfl), trivial⟩) K3
  ·skip
   refine LW.rd hL rfl (Wants.on rfl rfl rfl rfl rfl hb6) rfl (Rd.move (v := .slice gaps1 gaps1n gaps1c) rfl) ?_
   refine LW.rd hL rfl (Wants.on rfl rfl rfl rfl rfl hb6) rfl (Rd.builtin (v := .int .i64 (gaps1n : Int)) rfl (fun _ _ => by kernel_rfl)) ?_
   refine LW.rd hL rfl (Wants.on rfl rfl rfl rfl rfl hb6) rfl (Rd.bin (v := .bool (decide ((gaps1n : Int) > 20))) rfl rfl (fun w => by kernel_rfl)) ?_
   refine LW.rd hL rfl (Wants.free rfl) rfl (Rd.pickF rfl hb6 rfl) ?_
   exact LW.sub hL (by exact ⟨rfl, rfl, rfl, (by rw [hb6]; rfl), trivial⟩) K3
 refine LW.nil hL rfl ?_
 refine NW.then ?_
 refine CW.cond rfl (fun hb7 => ?_) (fun hb7 => ?_)
 ·replace h := h.1 hb7
  refine CW.seq ?_
  refine CW.region fun L hL => ?_
  refine LW.call hL rfl (Wants.free rfl) rfl (Cl.fn (f := 7) rfl Tryd.func7 (by kernel_rfl) rfl) h (fun e w1 h_ => ?_)
  clear h
  obtain ⟨r2, rfl, h⟩ := h_
  refine ⟨_, rfl, ?_⟩
  refine LW.rd hL rfl (Wants.free rfl) rfl (Rd.assign (v := .bool r2) rfl) ?_
  refine LW.nil hL rfl ?_
  refine NW.then ?_
  refine CW.ret ?_
  refine RW.then ?_
  exact res1 rfl rfl ⟨r2, rfl, h⟩
 ·replace h := h.2 hb7
  refine CW.skip ?_
  refine NW.then ?_
  refine CW.seq ?_
  refine CW.seq ?_
  refine CW.region fun L hL => ?_
  refine LW.rd hL rfl (Wants.free rfl) rfl (Rd.assign (v := .int .i64 0) rfl) ?_
  refine LW.nil hL rfl ?_
  refine NW.then ?_
  refine CW.block ?_
  obtain ⟨I1, m1, hI1, h⟩ := h
  refine CW.loop (S := Bool × Int) (fun s1 => [(0, .slice l1 l1n l1c), (1, .slice gaps1 gaps1n gaps1c), (4, .bool s1.1), (5, .int .i64 s1.2)]) (fun s1 w2 => I1 s1.1 s1.2 w2) (fun s1 w2 => m1 s1.1 s1.2 w2) (false, 0) (by exact ⟨rfl, rfl, rfl, rfl, trivial⟩) hI1 (fun s1 w2 hI1 => ?_)
  obtain ⟨x1, i1⟩ := s1; replace h := h x1 i1 w2 hI1
  refine CW.seq ?_
  refine CW.seq ?_
  refine CW.region fun L hL => ?_
  refine LW.rd hL rfl (Wants.free rfl) rfl (Rd.move (v := .int .i64 i1) rfl) ?_
  refine LW.rd hL rfl (Wants.free rfl) rfl (Rd.move (v := .slice l1 l1n l1c) rfl) ?_
  refine LW.rd hL rfl (Wants.free rfl) rfl (Rd.builtin (v := .int .i64 (l1n : Int)) rfl (fun _ _ => by kernel_rfl)) ?_
  refine LW.rd hL rfl (Wants.free rfl) rfl (Rd.bin (v := .bool (decide (i1 < (l1n : Int)))) rfl rfl (fun w => by kernel_rfl)) ?_
  refine LW.nil hL rfl ?_
  refine NW.then ?_
  refine CW.cond rfl (fun hb8 => ?_) (fun hb8 => ?_)
  ·replace h := h.1 hb8
   refine CW.skip ?_
   refine NW.then ?_
   refine CW.seq ?_
   refine CW.block ?_
   refine CW.seq ?_
   refine CW.region fun L hL => ?_
   refine LW.rd hL rfl (Wants.free rfl) rfl (Rd.assign (v := .int .i64 0) rfl) ?_
   refine LW.nil hL rfl ?_
   refine NW.then ?_
   refine CW.block ?_
   obtain ⟨I2, m2, hI2, h⟩ := h
   refine CW.loop (S := Bool × Int) (fun s2 => [(0, .slice l1 l1n l1c), (1, .slice gaps1 gaps1n gaps1c), (5, .int .i64 i1), (4, .bool s2.1), (6, .int .i64 s2.2)]) (fun s2 w3 => I2 s2.1 s2.2 w3) (fun s2 w3 => m2 s2.1 s2.2 w3) (x1, 0) (by exact ⟨rfl, rfl, rfl, rfl, rfl, trivial⟩) hI2 (fun s2 w3 hI2 => ?_)
   obtain ⟨x2, k1⟩ := s2; replace h := h x2 k1 w3 hI2
   refine CW.seq ?_
   refine CW.seq ?_
   refine CW.region fun L hL => ?_
   refine LW.rd hL rfl (Wants.free rfl) rfl (Rd.move (v := .int .i64 k1) rfl) ?_
   refine LW.rd hL rfl (Wants.free rfl) rfl (Rd.move (v := .int .i64 i1) rfl) ?_
   refine LW.rd hL rfl (Wants.free rfl) rfl (Rd.bin (v := .bool (decide (k1 < i1))) rfl rfl (fun w => by kernel_rfl)) ?_
   refine LW.nil hL rfl ?_
   refine NW.then ?_
   refine CW.cond rfl (fun hb9 => ?_) (fun hb9 => ?_)
   ·replace h := h.1 hb9
    refine CW.skip ?_
    refine NW.then ?_
    refine CW.seq ?_
    refine CW.block ?_
    refine CW.seq ?_
    obtain ⟨w4, hw_w4⟩ : ∃ x, x = World.drew w3 := ⟨_, rfl⟩
    have hc_w4 := sil_drew (Chg.refl [] w3) hw_w4
    refine CW.drawn (fun w => w = w4) 25 (by kernel_rfl) fun H hH => ?_
    rw [← hw_w4]
    refine HW.pure (i := 0) hH rfl (by kernel_rfl) (Wants.free rfl) rfl (fun _ => rfl) (Rd.move (v := .slice l1 l1n l1c) rfl) ?_
    refine HW.pure (i := 1) hH rfl (by kernel_rfl) (Wants.free rfl) rfl (fun _ => rfl) (Rd.move (v := .int .i64 k1) rfl) ?_
    obtain ⟨a1, he1, hi1, hi2, h⟩ := h
    refine HW.pure (i := 2) hH rfl (by kernel_rfl) (Wants.free rfl) rfl (fun _ => rfl) (Rd.iaS (q := a1) (sz := 2) (by rw [← he1]; rfl) rfl Tryd.underlying22 (by kernel_rfl) hi1 hi2) ?_
    replace h := h  w4  hc_w4
    obtain ⟨t1, t2, hc1, h⟩ := h
    refine HW.take (i := 3) hH rfl (by kernel_rfl) (by kernel_rfl) (Wants.free rfl) rfl (fun _ => rfl) (Rd.ldN (cs := [.int .i64 t1, .int .i64 t2]) rfl (by kernel_rfl) (by kernel_rfl) (cellsS hc1)) ?_
    refine HW.pure (i := 4) hH rfl (by kernel_rfl) (Wants.free rfl) rfl (fun _ => rfl) (Rd.move (v := .slice l1 l1n l1c) rfl) ?_
    refine HW.pure (i := 5) hH rfl (by kernel_rfl) (Wants.free rfl) rfl (fun _ => rfl) (Rd.move (v := .int .i64 i1) rfl) ?_
    obtain ⟨a2, he2, hi3, hi4, h⟩ := h
    refine HW.pure (i := 6) hH rfl (by kernel_rfl) (Wants.free rfl) rfl (fun _ => rfl) (Rd.iaS (q := a2) (sz := 2) (by rw [← he2]; rfl) rfl Tryd.underlying22 (by kernel_rfl) hi3 hi4) ?_
    obtain ⟨t3, t4, hc2, h⟩ := h
    refine HW.take (i := 7) hH rfl (by kernel_rfl) (by kernel_rfl) (Wants.free rfl) rfl (fun _ => rfl) (Rd.ldN (cs := [.int .i64 t3, .int .i64 t4]) rfl (by kernel_rfl) (by kernel_rfl) (cellsS hc2)) ?_
    refine HW.pure (i := 8) hH rfl (by kernel_rfl) (Wants.free rfl) rfl (fun _ => rfl) (Rd.bin (v := .bool ((t1 == t3) && (t2 == t4))) rfl rfl (fun w => eqS_27 _ _ _ _ w)) ?_
    refine HW.pure (i := 9) hH rfl (by kernel_rfl) (Wants.free rfl) rfl (fun _ => rfl) (Rd.move (v := .bool ((t1 == t3) && (t2 == t4))) rfl) ?_
    obtain ⟨J1, hJ1, h1_J1, h0_J1⟩ := h
    suffices K4 : ∀ (b1 : Bool) (w5 : World), (w5 = w4) → J1 b1 w5 → H 8 #[true, true, true, true, true, true, true, true, true, true, true, true, true, true, true, true, true, false, false, false, false, false, false, false, false] [(0, .slice l1 l1n l1c), (1, .slice gaps1 gaps1n gaps1c), (4, .bool x2), (5, .int .i64 i1), (6, .int .i64 k1), (60, .bool b1)] w5 by
     rcases Bool.eq_false_or_eq_true ((t1 == t3) && (t2 == t4)) with hb10 | hb10
     ·have h := h0_J1 hb10
      refine HW.skip (i := 10) hH rfl (by kernel_rfl) (Skips.on rfl rfl rfl rfl rfl hb10) rfl (fun _ => rfl) ?_
      refine HW.skip (i := 11) hH rfl (by kernel_rfl) (Skips.on rfl rfl rfl rfl rfl hb10) rfl (fun _ => rfl) ?_
      refine HW.skip (i := 12) hH rfl (by kernel_rfl) (Skips.on rfl rfl rfl rfl rfl hb10) rfl (fun _ => rfl) ?_
      refine HW.skip (i := 13) hH rfl (by kernel_rfl) (Skips.on rfl rfl rfl rfl rfl hb10) rfl (fun _ => rfl) ?_
      refine HW.skip (i := 14) hH rfl (by kernel_rfl) (Skips.on rfl rfl rfl rfl rfl hb10) rfl (fun _ => rfl) ?_
      refine HW.skip (i := 15) hH rfl (by kernel_rfl) (Skips.on rfl rfl rfl rfl rfl hb10) rfl (fun _ => rfl) ?_
      refine HW.pure (i := 16) hH rfl (by kernel_rfl) (Wants.free rfl) rfl (fun _ => rfl) (Rd.pickT rfl hb10 rfl) ?_
      exact HW.sub hH (by exact ⟨rfl, rfl, rfl, rfl, rfl, rfl, trivial⟩) (K4 true w4 rfl h)
     ·have h := h1_J1 hb10
      refine HW.pure (i := 10) hH rfl (by kernel_rfl) (Wants.on rfl rfl rfl rfl rfl hb10) rfl (fun _ => rfl) (Rd.move (v := .slice l1 l1n l1c) rfl) ?_
      refine HW.pure (i := 11) hH rfl (by kernel_rfl) (Wants.on rfl rfl rfl rfl rfl hb10) rfl (fun _ => rfl) (Rd.move (v := .int .i64 i1) rfl) ?_
      refine HW.pure (i := 12) hH rfl (by kernel_rfl) (Wants.on rfl rfl rfl rfl rfl hb10) rfl (fun _ => rfl) (Rd.iaS (q := a2) (sz := 2) (by rw [← he2]; rfl) rfl Tryd.underlying22 (by kernel_rfl) hi3 hi4) ?_
      obtain ⟨t5, t6, hc3, h⟩ := h
      refine HW.take (i := 13) hH rfl (by kernel_rfl) (by kernel_rfl) (Wants.on rfl rfl rfl rfl rfl hb10) rfl (fun _ => rfl) (Rd.ldN (cs := [.int .i64 t5, .int .i64 t6]) rfl (by kernel_rfl) (by kernel_rfl) (cellsS hc3)) ?_
      refine HW.pure (i := 14) hH rfl (by kernel_rfl) (Wants.on rfl rfl rfl rfl rfl hb10) rfl (fun _ => rfl) (Rd.build (v := .agg #[.int .i64 0, .int .i64 0]) rfl (fun _ => by kernel_rfl)) ?_
      refine HW.pure (i := 15) hH rfl (by kernel_rfl) (Wants.on rfl rfl rfl rfl rfl hb10) rfl (fun _ => rfl) (Rd.bin (v := .bool ((t5 == 0) && (t6 == 0))) rfl rfl (fun w => eqS_27 _ _ _ _ w)) ?_
      refine HW.pure (i := 16) hH rfl (by kernel_rfl) (Wants.free rfl) rfl (fun _ => rfl) (Rd.pickF rfl hb10 rfl) ?_
      exact HW.sub hH (by exact ⟨rfl, rfl, rfl, rfl, rfl, rfl, trivial⟩) (K4 ((t5 == 0) && (t6 == 0)) w4 rfl h)
    intro b1 w5 hS1 h_
    subst hS1
    have h := hJ1 b1 _ h_; clear h_
    refine HW.pure (i := 17) hH rfl (by kernel_rfl) (Wants.free rfl) rfl (fun _ => rfl) (Rd.move (v := .bool b1) rfl) ?_
    obtain ⟨J2, hJ2, h1_J2, h0_J2⟩ := h
    suffices K5 : ∀ (b2 : Bool) (w6 : World), (w6 = w5) → J2 b2 w6 → H 0 #[true, true, true, true, true, true, true, true, true, true, true, true, true, true, true, true, true, true, true, true, true, true, true, true, true] [(0, .slice l1 l1n l1c), (1, .slice gaps1 gaps1n gaps1c), (4, .bool x2), (5, .int .i64 i1), (6, .int .i64 k1), (68, .bool b2)] w6 by
     rcases Bool.eq_false_or_eq_true b1 with hb11 | hb11
     ·have h := h0_J2 hb11
      refine HW.skip (i := 18) hH rfl (by kernel_rfl) (Skips.on rfl rfl rfl rfl rfl hb11) rfl (fun _ => rfl) ?_
      refine HW.skip (i := 19) hH rfl (by kernel_rfl) (Skips.on rfl rfl rfl rfl rfl hb11) rfl (fun _ => rfl) ?_
      refine HW.skip (i := 20) hH rfl (by kernel_rfl) (Skips.on rfl rfl rfl rfl rfl hb11) rfl (fun _ => rfl) ?_
      refine HW.skip (i := 21) hH rfl (by kernel_rfl) (Skips.on rfl rfl rfl rfl rfl hb11) rfl (fun _ => rfl) ?_
      refine HW.skip (i := 22) hH rfl (by kernel_rfl) (Skips.on rfl rfl rfl rfl rfl hb11) rfl (fun _ => rfl) ?_
      refine HW.skip (i := 23) hH rfl (by kernel_rfl) (Skips.on rfl rfl rfl rfl rfl hb11) rfl (fun _ => rfl) ?_
      refine HW.pure (i := 24) hH rfl (by kernel_rfl) (Wants.free rfl) rfl (fun _ => rfl) (Rd.pickT rfl hb11 rfl) ?_
      exact HW.sub hH (by exact ⟨rfl, rfl, rfl, rfl, rfl, rfl, trivial⟩) (K5 true w5 rfl h)
     ·have h := h1_J2 hb11
      refine HW.pure (i := 18) hH rfl (by kernel_rfl) (Wants.on rfl rfl rfl rfl rfl hb11) rfl (fun _ => rfl) (Rd.move (v := .slice l1 l1n l1c) rfl) ?_
      refine HW.pure (i := 19) hH rfl (by kernel_rfl) (Wants.on rfl rfl rfl rfl rfl hb11) rfl (fun _ => rfl) (Rd.move (v := .int .i64 k1) rfl) ?_
      refine HW.pure (i := 20) hH rfl (by kernel_rfl) (Wants.on rfl rfl rfl rfl rfl hb11) rfl (fun _ => rfl) (Rd.iaS (q := a1) (sz := 2) (by rw [← he1]; rfl) rfl Tryd.underlying22 (by kernel_rfl) hi1 hi2) ?_
      obtain ⟨t7, t8, hc4, h⟩ := h
      refine HW.take (i := 21) hH rfl (by kernel_rfl) (by kernel_rfl) (Wants.on rfl rfl rfl rfl rfl hb11) rfl (fun _ => rfl) (Rd.ldN (cs := [.int .i64 t7, .int .i64 t8]) rfl (by kernel_rfl) (by kernel_rfl) (cellsS hc4)) ?_
      refine HW.pure (i := 22) hH rfl (by kernel_rfl) (Wants.on rfl rfl rfl rfl rfl hb11) rfl (fun _ => rfl) (Rd.build (v := .agg #[.int .i64 0, .int .i64 0]) rfl (fun _ => by kernel_rfl)) ?_
      refine HW.pure (i := 23) hH rfl (by kernel_rfl) (Wants.on rfl rfl rfl rfl rfl hb11) rfl (fun _ => rfl) (Rd.bin (v := .bool ((t7 == 0) && (t8 == 0))) rfl rfl (fun w => eqS_27 _ _ _ _ w)) ?_
      refine HW.pure (i := 24) hH rfl (by kernel_rfl) (Wants.free rfl) rfl (fun _ => rfl) (Rd.pickF rfl hb11 rfl) ?_
      exact HW.sub hH (by exact ⟨rfl, rfl, rfl, rfl, rfl, rfl, trivial⟩) (K5 ((t7 == 0) && (t8 == 0)) w5 rfl h)
    intro b2 w6 hS2 h_
    subst hS2
    have h := hJ2 b2 _ h_; clear h_
    refine HW.done hH (by kernel_rfl) ?_
    refine NW.then ?_
    refine CW.cond rfl (fun hb12 => ?_) (fun hb12 => ?_)
    ·replace h := h.1 hb12
     refine CW.seq ?_
     refine CW.region fun L hL => ?_
     refine LW.call hL rfl (Wants.free rfl) rfl (Cl.fn (f := 7) rfl Tryd.func7 (by kernel_rfl) rfl) h (fun e w7 h_ => ?_)
     clear h
     obtain ⟨r3, rfl, h⟩ := h_
     refine ⟨_, rfl, ?_⟩
     refine LW.rd hL rfl (Wants.free rfl) rfl (Rd.assign (v := .bool r3) rfl) ?_
     refine LW.nil hL rfl ?_
     refine NW.then ?_
     refine CW.ret ?_
     refine RW.block ?_
     refine RW.then ?_
     refine RW.then ?_
     refine RW.block ?_
     refine RW.block ?_
     refine RW.then ?_
     refine RW.then ?_
     refine RW.block ?_
     refine RW.then ?_
     exact res1 rfl rfl ⟨r3, rfl, h⟩
    ·replace h := h.2 hb12
     refine CW.skip ?_
     refine NW.block ?_
     refine NW.then ?_
     refine CW.region fun L hL => ?_
     refine LW.rd hL rfl (Wants.free rfl) rfl (Rd.move (v := .int .i64 k1) rfl) ?_
     refine LW.rd hL rfl (Wants.free rfl) rfl (Rd.bin (v := .int .i64 (IntKind.wrap .i64 (k1 + 1))) rfl rfl (fun w => by kernel_rfl)) ?_
     refine LW.rd hL rfl (Wants.free rfl) rfl (Rd.assign (v := .int .i64 (IntKind.wrap .i64 (k1 + 1))) rfl) ?_
     refine LW.nil hL rfl ?_
     exact NW.loop (S := Bool × Int) (Ek := fun s2 => [(0, .slice l1 l1n l1c), (1, .slice gaps1 gaps1n gaps1c), (5, .int .i64 i1), (4, .bool s2.1), (6, .int .i64 s2.2)]) (x2, IntKind.wrap .i64 (k1 + 1)) (by exact ⟨rfl, rfl, rfl, rfl, rfl, trivial⟩) h
   ·replace h := h.2 hb9
    refine CW.exit ?_
    refine XW.then ?_
    refine XW.then ?_
    refine XW.hit ?_
    refine NW.block ?_
    refine NW.then ?_
    refine CW.region fun L hL => ?_
    refine LW.rd hL rfl (Wants.free rfl) rfl (Rd.move (v := .int .i64 i1) rfl) ?_
    refine LW.rd hL rfl (Wants.free rfl) rfl (Rd.bin (v := .int .i64 (IntKind.wrap .i64 (i1 + 1))) rfl rfl (fun w => by kernel_rfl)) ?_
    refine LW.rd hL rfl (Wants.free rfl) rfl (Rd.assign (v := .int .i64 (IntKind.wrap .i64 (i1 + 1))) rfl) ?_
    refine LW.nil hL rfl ?_
    exact NW.loop (S := Bool × Int) (Ek := fun s1 => [(0, .slice l1 l1n l1c), (1, .slice gaps1 gaps1n gaps1c), (4, .bool s1.1), (5, .int .i64 s1.2)]) (x2, IntKind.wrap .i64 (i1 + 1)) (by exact ⟨rfl, rfl, rfl, rfl, trivial⟩) h
  ·replace h := h.2 hb8
   refine CW.exit ?_
   refine XW.then ?_
   refine XW.then ?_
   refine XW.hit ?_
   refine NW.then ?_
   refine CW.seq ?_
   refine CW.region fun L hL => ?_
   refine LW.call hL rfl (Wants.free rfl) rfl (Cl.fn (f := 8) rfl Tryd.func8 (by kernel_rfl) rfl) h (fun e w8 h_ => ?_)
   clear h
   obtain ⟨r4, rfl, h⟩ := h_
   refine ⟨_, rfl, ?_⟩
   refine LW.rd hL rfl (Wants.free rfl) rfl (Rd.assign (v := .pointer r4) rfl) ?_
   refine LW.nil hL rfl ?_
   refine NW.then ?_
   refine CW.seq ?_
   refine CW.region fun L hL => ?_
   refine LW.rd hL rfl (Wants.free rfl) rfl (Rd.assign (v := .int .i64 0) rfl) ?_
   refine LW.nil hL rfl ?_
   refine NW.then ?_
   refine CW.seq ?_
   refine CW.seq ?_
   refine CW.region fun L hL => ?_
   refine LW.rd hL rfl (Wants.free rfl) rfl (Rd.assign (v := .int .i64 1) rfl) ?_
   refine LW.nil hL rfl ?_
   refine NW.then ?_
   refine CW.block ?_
   obtain ⟨I3, m3, hI3, h⟩ := h
   refine CW.loop (S := Bool × Int × Int) (fun s3 => [(0, .slice l1 l1n l1c), (1, .slice gaps1 gaps1n gaps1c), (7, .pointer r4), (4, .bool s3.1), (8, .int .i64 s3.2.1), (9, .int .i64 s3.2.2)]) (fun s3 w9 => I3 s3.1 s3.2.1 s3.2.2 w9) (fun s3 w9 => m3 s3.1 s3.2.1 s3.2.2 w9) (x1, 0, 1) (by exact ⟨rfl, rfl, rfl, rfl, rfl, rfl, trivial⟩) hI3 (fun s3 w9 hI3 => ?_)
   obtain ⟨x3, step1, i2⟩ := s3; replace h := h x3 step1 i2 w9 hI3
   refine CW.seq ?_
   refine CW.seq ?_
   refine CW.region fun L hL => ?_
   refine LW.rd hL rfl (Wants.free rfl) rfl (Rd.move (v := .int .i64 i2) rfl) ?_
   refine LW.rd hL rfl (Wants.free rfl) rfl (Rd.move (v := .slice l1 l1n l1c) rfl) ?_
   refine LW.rd hL rfl (Wants.free rfl) rfl (Rd.builtin (v := .int .i64 (l1n : Int)) rfl (fun _ _ => by kernel_rfl)) ?_
   refine LW.rd hL rfl (Wants.free rfl) rfl (Rd.bin (v := .bool (decide (i2 < (l1n : Int)))) rfl rfl (fun w => by kernel_rfl)) ?_
   refine LW.nil hL rfl ?_
   refine NW.then ?_
   refine CW.cond rfl (fun hb13 => ?_) (fun hb13 => ?_)
   ·replace h := h.1 hb13
    refine CW.skip ?_
    refine NW.then ?_
    refine CW.seq ?_
    refine CW.block ?_
    refine CW.seq ?_
    refine CW.region fun L hL => ?_
    refine LW.rd hL rfl (Wants.free rfl) rfl (Rd.move (v := .int .i64 step1) rfl) ?_
    refine LW.rd hL rfl (Wants.free rfl) rfl (Rd.bin (v := .int .i64 (IntKind.wrap .i64 (step1 + 1))) rfl rfl (fun w => by kernel_rfl)) ?_
    refine LW.rd hL rfl (Wants.free rfl) rfl (Rd.move (v := .slice gaps1 gaps1n gaps1c) rfl) ?_
    refine LW.rd hL rfl (Wants.free rfl) rfl (Rd.move (v := .int .i64 i2) rfl) ?_
    obtain ⟨a3, he3, hi9, hi10, h⟩ := h
    refine LW.rd hL rfl (Wants.free rfl) rfl (Rd.iaS (q := a3) (sz := 1) (by rw [← he3]; rfl) rfl Tryd.underlying23 (by kernel_rfl) hi9 hi10) ?_
    obtain ⟨t9, hc5, h⟩ := h
    refine LW.rd hL rfl (Wants.free rfl) rfl (Rd.ld (v := .int .u8 t9) rfl (by kernel_rfl) (eqs hc5)) ?_
    refine LW.rd hL rfl (Wants.free rfl) rfl (Rd.conv (v := .int .i64 (IntKind.wrap .i64 t9)) rfl (fun _ => by kernel_rfl)) ?_
    refine LW.rd hL rfl (Wants.free rfl) rfl (Rd.bin (v := .int .i64 (IntKind.wrap .i64 ((IntKind.wrap .i64 (step1 + 1)) + (IntKind.wrap .i64 t9)))) rfl rfl (fun w => by kernel_rfl)) ?_
    refine LW.rd hL rfl (Wants.free rfl) rfl (Rd.assign (v := .int .i64 (IntKind.wrap .i64 ((IntKind.wrap .i64 (step1 + 1)) + (IntKind.wrap .i64 t9)))) rfl) ?_
    refine LW.nil hL rfl ?_
    refine NW.then ?_
    refine CW.seq ?_
    refine CW.region fun L hL => ?_
    refine LW.rd hL rfl (Wants.free rfl) rfl (Rd.move (v := .slice l1 l1n l1c) rfl) ?_
    refine LW.rd hL rfl (Wants.free rfl) rfl (Rd.move (v := .int .i64 i2) rfl) ?_
    refine LW.rd hL rfl (Wants.free rfl) rfl (Rd.bin (v := .int .i64 (IntKind.wrap .i64 (i2 - 1))) rfl rfl (fun w => by kernel_rfl)) ?_
    obtain ⟨a4, he4, hi11, hi12, h⟩ := h
    refine LW.rd hL rfl (Wants.free rfl) rfl (Rd.iaS (q := a4) (sz := 2) (by rw [← he4]; rfl) rfl Tryd.underlying22 (by kernel_rfl) hi11 hi12) ?_
    obtain ⟨t10, t11, hc6, h⟩ := h
    refine LW.rd hL rfl (Wants.free rfl) rfl (Rd.ldN (cs := [.int .i64 t10, .int .i64 t11]) rfl (by kernel_rfl) (by kernel_rfl) (cellsS hc6)) ?_
    obtain ⟨b3, hb_b3⟩ : ∃ b3, b3 = World.size w9 := ⟨_, rfl⟩
    obtain ⟨w10, hw_w10⟩ : ∃ w10, w10 = World.alloc w9 (.cells #[.int .i64 t10, .int .i64 t11] 27) := ⟨_, rfl⟩
    replace h := h b3 hb_b3 w10 hw_w10
    refine LW.val hL rfl (Wants.free rfl) rfl (sliceE (n := 1) hb_b3 hw_w10 (fun w => Vl.buildSlice (vs := [(0, .agg #[.int .i64 t10, .int .i64 t11])]) rfl (by kernel_rfl))) ?_
    refine LW.rd hL rfl (Wants.free rfl) rfl (Rd.assign (v := .slice (some (⟨b3, 0, none⟩ : Addr)) 1 1) rfl) ?_
    refine LW.nil hL rfl ?_
    refine NW.then ?_
    obtain ⟨J3, hJ3, h⟩ := h
    refine CW.cut (S := (Option Addr) × Nat × Nat) (fun s4 => [(0, .slice l1 l1n l1c), (1, .slice gaps1 gaps1n gaps1c), (4, .bool x3), (7, .pointer r4), (8, .int .i64 (IntKind.wrap .i64 ((IntKind.wrap .i64 (step1 + 1)) + (IntKind.wrap .i64 t9)))), (9, .int .i64 i2), (10, .slice s4.1 s4.2.1 s4.2.2)]) (fun s4 w11 => J3 s4.1 s4.2.1 s4.2.2 w11) (fun s4 w11 h_ => ?_) ?_
    ·obtain ⟨from1, from1n, from1c⟩ := s4; replace h := hJ3 from1 from1n from1c w11 h_; clear h_
     refine CW.seq ?_
     refine CW.seq ?_
     refine CW.region fun L hL => ?_
     refine LW.rd hL rfl (Wants.free rfl) rfl (Rd.move (v := .pointer r4) rfl) ?_
     refine LW.rd hL rfl (Wants.free rfl) rfl (Rd.move (v := .int .i64 (IntKind.wrap .i64 ((IntKind.wrap .i64 (step1 + 1)) + (IntKind.wrap .i64 t9)))) rfl) ?_
     refine LW.rd hL rfl (Wants.free rfl) rfl (Rd.move (v := .slice l1 l1n l1c) rfl) ?_
     refine LW.rd hL rfl (Wants.free rfl) rfl (Rd.move (v := .int .i64 i2) rfl) ?_
     obtain ⟨a5, he5, hi13, hi14, h⟩ := h
     refine LW.rd hL rfl (Wants.free rfl) rfl (Rd.iaS (q := a5) (sz := 2) (by rw [← he5]; rfl) rfl Tryd.underlying22 (by kernel_rfl) hi13 hi14) ?_
     obtain ⟨t12, t13, hc7, h⟩ := h
     refine LW.rd hL rfl (Wants.free rfl) rfl (Rd.ldN (cs := [.int .i64 t12, .int .i64 t13]) rfl (by kernel_rfl) (by kernel_rfl) (cellsS hc7)) ?_
     refine LW.rd hL rfl (Wants.free rfl) rfl (Rd.move (v := .slice from1 from1n from1c) rfl) ?_
     refine LW.rd hL rfl (Wants.free rfl) rfl (Rd.build (v := .agg #[.int .i64 t12, .int .i64 t13, .slice from1 from1n from1c]) rfl (fun _ => by kernel_rfl)) ?_
     obtain ⟨b4, hb_b4⟩ : ∃ b4, b4 = World.size w11 := ⟨_, rfl⟩
     obtain ⟨w12, hw_w12⟩ : ∃ w12, w12 = World.alloc w11 (.cells #[.int .i64 t12, .int .i64 t13, .slice from1 from1n from1c] 33) := ⟨_, rfl⟩
     replace h := h b4 hb_b4 w12 hw_w12
     refine LW.val hL rfl (Wants.free rfl) rfl (sliceE (n := 1) hb_b4 hw_w12 (fun w => Vl.buildSlice (vs := [(0, .agg #[.int .i64 t12, .int .i64 t13, .slice from1 from1n from1c])]) rfl (by kernel_rfl))) ?_
     refine LW.call hL rfl (Wants.free rfl) rfl (Cl.fn (f := 9) rfl Tryd.func9 (by kernel_rfl) rfl) h (fun e w13 h_ => ?_)
     clear h
     obtain ⟨r5, rfl, h⟩ := h_
     refine ⟨_, rfl, ?_⟩
     refine LW.rd hL rfl (Wants.free rfl) rfl (Rd.bin (v := .bool (!(r5 == 0))) rfl rfl (fun w => by kernel_rfl)) ?_
     refine LW.nil hL rfl ?_
     refine NW.then ?_
     refine CW.cond rfl (fun hb14 => ?_) (fun hb14 => ?_)
     ·replace h := h.1 hb14
      refine CW.seq ?_
      refine CW.region fun L hL => ?_
      refine LW.rd hL rfl (Wants.free rfl) rfl (Rd.assign (v := .bool false) rfl) ?_
      refine LW.nil hL rfl ?_
      refine NW.then ?_
      refine CW.ret ?_
      refine RW.then ?_
      refine RW.block ?_
      refine RW.then ?_
      refine RW.then ?_
      refine RW.block ?_
      refine RW.then ?_
      exact res1 rfl rfl ⟨false, rfl, h⟩
     ·replace h := h.2 hb14
      refine CW.skip ?_
      refine NW.then ?_
      refine CW.seq ?_
      refine CW.region fun L hL => ?_
      refine LW.rd hL rfl (Wants.free rfl) rfl (Rd.move (v := .pointer r4) rfl) ?_
      refine LW.rd hL rfl (Wants.free rfl) rfl (Rd.move (v := .slice l1 l1n l1c) rfl) ?_
      refine LW.rd hL rfl (Wants.free rfl) rfl (Rd.move (v := .int .i64 i2) rfl) ?_
      refine LW.rd hL rfl (Wants.free rfl) rfl (Rd.iaS (q := a5) (sz := 2) (by rw [← he5]; rfl) rfl Tryd.underlying22 (by kernel_rfl) hi13 hi14) ?_
      obtain ⟨t14, t15, hc8, h⟩ := h
      refine LW.rd hL rfl (Wants.free rfl) rfl (Rd.ldN (cs := [.int .i64 t14, .int .i64 t15]) rfl (by kernel_rfl) (by kernel_rfl) (cellsS hc8)) ?_
      refine LW.rd hL rfl (Wants.free rfl) rfl (Rd.move (v := .int .i64 (IntKind.wrap .i64 ((IntKind.wrap .i64 (step1 + 1)) + (IntKind.wrap .i64 t9)))) rfl) ?_
      refine LW.rd hL rfl (Wants.free rfl) rfl (Rd.bin (v := .int .i64 (IntKind.wrap .i64 ((IntKind.wrap .i64 ((IntKind.wrap .i64 (step1 + 1)) + (IntKind.wrap .i64 t9))) + 1))) rfl rfl (fun w => by kernel_rfl)) ?_
      refine LW.call hL rfl (Wants.free rfl) rfl (Cl.fn (f := 10) rfl Tryd.func10 (by kernel_rfl) rfl) h (fun e w14 h_ => ?_)
      clear h
      obtain ⟨r6, r6n, r6c, rfl, h⟩ := h_
      refine ⟨_, rfl, ?_⟩
      refine LW.rd hL rfl (Wants.free rfl) rfl (Rd.assign (v := .slice r6 r6n r6c) rfl) ?_
      refine LW.nil hL rfl ?_
      refine NW.then ?_
      refine CW.seq ?_
      obtain ⟨w15, hw_w15⟩ : ∃ x, x = World.drew w14 := ⟨_, rfl⟩
      have hc_w15 := sil_drew (Chg.refl [] w14) hw_w15
      replace h := h  w15  hc_w15
      obtain ⟨a6, he6, hi17, hi18, h⟩ := h
      obtain ⟨t16, t17, hc9, h⟩ := h
      obtain ⟨t18, t19, hc10, h⟩ := h
      refine CW.drawn (fun w => CellsAt w (a6.add (Int.toNat 0 * 2)) 0 [.int .i64 t16, .int .i64 t17] ∧ CellsAt w (a5.add (Int.toNat i2 * 2)) 0 [.int .i64 t18, .int .i64 t19] ∧ True) 39 (by kernel_rfl) fun H hH => ?_
      rw [← hw_w15]
      have hS3 : CellsAt w15 (a6.add (Int.toNat 0 * 2)) 0 [.int .i64 t16, .int .i64 t17] ∧ CellsAt w15 (a5.add (Int.toNat i2 * 2)) 0 [.int .i64 t18, .int .i64 t19] ∧ True := ⟨hc9, hc10, trivial⟩
      refine HW.pure (i := 0) hH rfl (by kernel_rfl) (Wants.free rfl) rfl (fun _ => hS3) (Rd.move (v := .slice r6 r6n r6c) rfl) ?_
      refine HW.pure (i := 1) hH rfl (by kernel_rfl) (Wants.free rfl) rfl (fun _ => hS3) (Rd.builtin (v := .int .i64 (r6n : Int)) rfl (fun _ _ => by kernel_rfl)) ?_
      refine HW.pure (i := 2) hH rfl (by kernel_rfl) (Wants.free rfl) rfl (fun _ => hS3) (Rd.bin (v := .bool (!((r6n : Int) == 1))) rfl rfl (fun w => by kernel_rfl)) ?_
      refine HW.pure (i := 3) hH rfl (by kernel_rfl) (Wants.free rfl) rfl (fun _ => hS3) (Rd.move (v := .bool (!((r6n : Int) == 1))) rfl) ?_
      obtain ⟨J4, hJ4, h1_J4, h0_J4⟩ := h
      suffices K6 : ∀ (b5 : Bool) (w16 : World), (CellsAt w16 (a6.add (Int.toNat 0 * 2)) 0 [.int .i64 t16, .int .i64 t17] ∧ CellsAt w16 (a5.add (Int.toNat i2 * 2)) 0 [.int .i64 t18, .int .i64 t19] ∧ True) → J4 b5 w16 → H 27 #[true, true, true, true, true, true, true, true, true, true, true, true, false, false, false, false, false, false, false, false, false, false, false, false, false, false, false, false, false, false, false, false, false, false, false, false, false, false, false] [(0, .slice l1 l1n l1c), (1, .slice gaps1 gaps1n gaps1c), (4, .bool x3), (7, .pointer r4), (8, .int .i64 (IntKind.wrap .i64 ((IntKind.wrap .i64 (step1 + 1)) + (IntKind.wrap .i64 t9)))), (9, .int .i64 i2), (130, .bool b5)] w16 by
       rcases Bool.eq_false_or_eq_true (!((r6n : Int) == 1)) with hb15 | hb15
       ·have h := h0_J4 hb15
        refine HW.skip (i := 4) hH rfl (by kernel_rfl) (Skips.on rfl rfl rfl rfl rfl hb15) rfl (fun _ => hS3) ?_
        refine HW.skip (i := 5) hH rfl (by kernel_rfl) (Skips.on rfl rfl rfl rfl rfl hb15) rfl (fun _ => hS3) ?_
        refine HW.skip (i := 6) hH rfl (by kernel_rfl) (Skips.on rfl rfl rfl rfl rfl hb15) rfl (fun _ => hS3) ?_
        refine HW.skip (i := 7) hH rfl (by kernel_rfl) (Skips.on rfl rfl rfl rfl rfl hb15) rfl (fun _ => hS3) ?_
        refine HW.skip (i := 8) hH rfl (by kernel_rfl) (Skips.on rfl rfl rfl rfl rfl hb15) rfl (fun _ => hS3) ?_
        refine HW.skip (i := 9) hH rfl (by kernel_rfl) (Skips.on rfl rfl rfl rfl rfl hb15) rfl (fun _ => hS3) ?_
        refine HW.skip (i := 10) hH rfl (by kernel_rfl) (Skips.on rfl rfl rfl rfl rfl hb15) rfl (fun _ => hS3) ?_
        refine HW.pure (i := 11) hH rfl (by kernel_rfl) (Wants.free rfl) rfl (fun _ => hS3) (Rd.pickT rfl hb15 rfl) ?_
        exact HW.sub hH (by exact ⟨rfl, rfl, rfl, rfl, rfl, rfl, rfl, trivial⟩) (K6 true w15 hS3 h)
       ·have h := h1_J4 hb15
        refine HW.pure (i := 4) hH rfl (by kernel_rfl) (Wants.on rfl rfl rfl rfl rfl hb15) rfl (fun _ => hS3) (Rd.move (v := .slice r6 r6n r6c) rfl) ?_
        obtain ⟨a7, he7, hi25, hi26, h⟩ := h
        refine HW.pure (i := 5) hH rfl (by kernel_rfl) (Wants.on rfl rfl rfl rfl rfl hb15) rfl (fun _ => hS3) (Rd.iaS (q := a7) (sz := 2) (by rw [← he7]; rfl) rfl Tryd.underlying22 (by kernel_rfl) hi25 hi26) ?_
        refine HW.pure (i := 7) hH rfl (by kernel_rfl) (Wants.on rfl rfl rfl rfl rfl hb15) rfl (fun _ => hS3) (Rd.move (v := .slice l1 l1n l1c) rfl) ?_
        refine HW.pure (i := 8) hH rfl (by kernel_rfl) (Wants.on rfl rfl rfl rfl rfl hb15) rfl (fun _ => hS3) (Rd.iaS (q := a6) (sz := 2) (by rw [← he6]; rfl) rfl Tryd.underlying22 (by kernel_rfl) hi17 hi18) ?_
        refine HW.take (i := 9) hH rfl (by kernel_rfl) (by kernel_rfl) (Wants.on rfl rfl rfl rfl rfl hb15) rfl (fun _ => hS3) (Rd.ldN (cs := [.int .i64 t16, .int .i64 t17]) rfl (by kernel_rfl) (by kernel_rfl) (fun w h => cellsAt_get h.1)) ?_
        obtain ⟨t20, t21, hc11, h⟩ := h
        refine HW.val (i := 6) hH (by kernel_rfl) rfl (Wants.on rfl rfl rfl rfl rfl hb15) rfl (fun a ha => (Rd.ldN (cs := [.int .i64 t20, .int .i64 t21]) rfl (by kernel_rfl) (by kernel_rfl) (cellsS hc11)) a ha _ rfl) (fun _ => hS3) ?_
        refine HW.pure (i := 10) hH rfl (by kernel_rfl) (Wants.on rfl rfl rfl rfl rfl hb15) rfl (fun _ => hS3) (Rd.bin (v := .bool (!((t20 == t16) && (t21 == t17)))) rfl rfl (fun w => neS_27 _ _ _ _ w)) ?_
        refine HW.pure (i := 11) hH rfl (by kernel_rfl) (Wants.free rfl) rfl (fun _ => hS3) (Rd.pickF rfl hb15 rfl) ?_
        exact HW.sub hH (by exact ⟨rfl, rfl, rfl, rfl, rfl, rfl, rfl, trivial⟩) (K6 (!((t20 == t16) && (t21 == t17))) w15 hS3 h)
      intro b5 w16 hS4 h_
      have h := hJ4 b5 w16 h_; clear h_
      refine HW.pure (i := 12) hH rfl (by kernel_rfl) (Wants.free rfl) rfl (fun _ => hS4) (Rd.move (v := .bool b5) rfl) ?_
      obtain ⟨J5, hJ5, h1_J5, h0_J5⟩ := h
      suffices K7 : ∀ (b6 : Bool) (w17 : World), (CellsAt w17 (a6.add (Int.toNat 0 * 2)) 0 [.int .i64 t16, .int .i64 t17] ∧ CellsAt w17 (a5.add (Int.toNat i2 * 2)) 0 [.int .i64 t18, .int .i64 t19] ∧ True) → J5 b6 w17 → H 16 #[true, true, true, true, true, true, true, true, true, true, true, true, true, true, true, true, true, true, true, true, true, true, true, false, false, false, false, false, false, false, false, false, false, false, false, false, false, false, false] [(0, .slice l1 l1n l1c), (1, .slice gaps1 gaps1n gaps1c), (4, .bool x3), (7, .pointer r4), (8, .int .i64 (IntKind.wrap .i64 ((IntKind.wrap .i64 (step1 + 1)) + (IntKind.wrap .i64 t9)))), (9, .int .i64 i2), (141, .bool b6)] w17 by
       rcases Bool.eq_false_or_eq_true b5 with hb16 | hb16
       ·have h := h0_J5 hb16
        refine HW.skip (i := 13) hH rfl (by kernel_rfl) (Skips.on rfl rfl rfl rfl rfl hb16) rfl (fun _ => hS4) ?_
        refine HW.skip (i := 14) hH rfl (by kernel_rfl) (Skips.on rfl rfl rfl rfl rfl hb16) rfl (fun _ => hS4) ?_
        refine HW.skip (i := 15) hH rfl (by kernel_rfl) (Skips.on rfl rfl rfl rfl rfl hb16) rfl (fun _ => hS4) ?_
        refine HW.skip (i := 16) hH rfl (by kernel_rfl) (Skips.on rfl rfl rfl rfl rfl hb16) rfl (fun _ => hS4) ?_
        refine HW.skip (i := 17) hH rfl (by kernel_rfl) (Skips.on rfl rfl rfl rfl rfl hb16) rfl (fun _ => hS4) ?_
        refine HW.skip (i := 18) hH rfl (by kernel_rfl) (Skips.on rfl rfl rfl rfl rfl hb16) rfl (fun _ => hS4) ?_
        refine HW.skip (i := 19) hH rfl (by kernel_rfl) (Skips.on rfl rfl rfl rfl rfl hb16) rfl (fun _ => hS4) ?_
        refine HW.skip (i := 20) hH rfl (by kernel_rfl) (Skips.on rfl rfl rfl rfl rfl hb16) rfl (fun _ => hS4) ?_
        refine HW.skip (i := 21) hH rfl (by kernel_rfl) (Skips.on rfl rfl rfl rfl rfl hb16) rfl (fun _ => hS4) ?_
        refine HW.pure (i := 22) hH rfl (by kernel_rfl) (Wants.free rfl) rfl (fun _ => hS4) (Rd.pickT rfl hb16 rfl) ?_
        exact HW.sub hH (by exact ⟨rfl, rfl, rfl, rfl, rfl, rfl, rfl, trivial⟩) (K7 true w16 hS4 h)
       ·have h := h1_J5 hb16
        refine HW.pure (i := 13) hH rfl (by kernel_rfl) (Wants.on rfl rfl rfl rfl rfl hb16) rfl (fun _ => hS4) (Rd.move (v := .pointer r4) rfl) ?_
        refine HW.pure (i := 14) hH rfl (by kernel_rfl) (Wants.on rfl rfl rfl rfl rfl hb16) rfl (fun _ => hS4) (Rd.move (v := .slice l1 l1n l1c) rfl) ?_
        refine HW.pure (i := 15) hH rfl (by kernel_rfl) (Wants.on rfl rfl rfl rfl rfl hb16) rfl (fun _ => hS4) (Rd.move (v := .int .i64 i2) rfl) ?_
        refine HW.pure (i := 16) hH rfl (by kernel_rfl) (Wants.on rfl rfl rfl rfl rfl hb16) rfl (fun _ => hS4) (Rd.iaS (q := a5) (sz := 2) (by rw [← he5]; rfl) rfl Tryd.underlying22 (by kernel_rfl) hi13 hi14) ?_
        refine HW.take (i := 17) hH rfl (by kernel_rfl) (by kernel_rfl) (Wants.on rfl rfl rfl rfl rfl hb16) rfl (fun _ => hS4) (Rd.ldN (cs := [.int .i64 t18, .int .i64 t19]) rfl (by kernel_rfl) (by kernel_rfl) (fun w h => cellsAt_get h.2.1)) ?_
        refine HW.pure (i := 18) hH rfl (by kernel_rfl) (Wants.on rfl rfl rfl rfl rfl hb16) rfl (fun _ => hS4) (Rd.move (v := .int .i64 (IntKind.wrap .i64 ((IntKind.wrap .i64 (step1 + 1)) + (IntKind.wrap .i64 t9)))) rfl) ?_
        refine HW.call (i := 19) hH (by kernel_rfl) rfl (Wants.on rfl rfl rfl rfl rfl hb16) rfl (Cl.fn (f := 10) rfl Tryd.func10 (by kernel_rfl) rfl) h (fun e w18 h_ => ?_)
        clear h
        obtain ⟨r7, r7n, r7c, rfl, hS5, h⟩ := h_
        have hS6 := (⟨hS5.1, hS5.2, trivial⟩ : CellsAt w18 (a6.add (Int.toNat 0 * 2)) 0 [.int .i64 t16, .int .i64 t17] ∧ CellsAt w18 (a5.add (Int.toNat i2 * 2)) 0 [.int .i64 t18, .int .i64 t19] ∧ True)
        refine ⟨_, rfl, (fun _ => hS6), ?_⟩
        refine HW.pure (i := 20) hH rfl (by kernel_rfl) (Wants.on rfl rfl rfl rfl rfl hb16) rfl (fun _ => hS6) (Rd.builtin (v := .int .i64 (r7n : Int)) rfl (fun _ _ => by kernel_rfl)) ?_
        refine HW.pure (i := 21) hH rfl (by kernel_rfl) (Wants.on rfl rfl rfl rfl rfl hb16) rfl (fun _ => hS6) (Rd.bin (v := .bool (!((r7n : Int) == 1))) rfl rfl (fun w => by kernel_rfl)) ?_
        refine HW.pure (i := 22) hH rfl (by kernel_rfl) (Wants.free rfl) rfl (fun _ => hS6) (Rd.pickF rfl hb16 rfl) ?_
        exact HW.sub hH (by exact ⟨rfl, rfl, rfl, rfl, rfl, rfl, rfl, trivial⟩) (K7 (!((r7n : Int) == 1)) w18 hS6 h)
      intro b6 w17 hS7 h_
      have h := hJ5 b6 w17 h_; clear h_
      refine HW.pure (i := 23) hH rfl (by kernel_rfl) (Wants.free rfl) rfl (fun _ => hS7) (Rd.move (v := .bool b6) rfl) ?_
      obtain ⟨J6, hJ6, h1_J6, h0_J6⟩ := h
      suffices K8 : ∀ (b7 : Bool) (w19 : World), (CellsAt w19 (a6.add (Int.toNat 0 * 2)) 0 [.int .i64 t16, .int .i64 t17] ∧ CellsAt w19 (a5.add (Int.toNat i2 * 2)) 0 [.int .i64 t18, .int .i64 t19] ∧ True) → J6 b7 w19 → H 0 #[true, true, true, true, true, true, true, true, true, true, true, true, true, true, true, true, true, true, true, true, true, true, true, true, true, true, true, true, true, true, true, true, true, true, true, true, true, true, true] [(0, .slice l1 l1n l1c), (1, .slice gaps1 gaps1n gaps1c), (4, .bool x3), (7, .pointer r4), (8, .int .i64 (IntKind.wrap .i64 ((IntKind.wrap .i64 (step1 + 1)) + (IntKind.wrap .i64 t9)))), (9, .int .i64 i2), (157, .bool b7)] w19 by
       rcases Bool.eq_false_or_eq_true b6 with hb17 | hb17
       ·have h := h0_J6 hb17
        refine HW.skip (i := 24) hH rfl (by kernel_rfl) (Skips.on rfl rfl rfl rfl rfl hb17) rfl (fun _ => hS7) ?_
        refine HW.skip (i := 25) hH rfl (by kernel_rfl) (Skips.on rfl rfl rfl rfl rfl hb17) rfl (fun _ => hS7) ?_
        refine HW.skip (i := 26) hH rfl (by kernel_rfl) (Skips.on rfl rfl rfl rfl rfl hb17) rfl (fun _ => hS7) ?_
        refine HW.skip (i := 27) hH rfl (by kernel_rfl) (Skips.on rfl rfl rfl rfl rfl hb17) rfl (fun _ => hS7) ?_
        refine HW.skip (i := 28) hH rfl (by kernel_rfl) (Skips.on rfl rfl rfl rfl rfl hb17) rfl (fun _ => hS7) ?_
        refine HW.skip (i := 29) hH rfl (by kernel_rfl) (Skips.on rfl rfl rfl rfl rfl hb17) rfl (fun _ => hS7) ?_
        refine HW.skip (i := 30) hH rfl (by kernel_rfl) (Skips.on rfl rfl rfl rfl rfl hb17) rfl (fun _ => hS7) ?_
        refine HW.skip (i := 31) hH rfl (by kernel_rfl) (Skips.on rfl rfl rfl rfl rfl hb17) rfl (fun _ => hS7) ?_
        refine HW.skip (i := 32) hH rfl (by kernel_rfl) (Skips.on rfl rfl rfl rfl rfl hb17) rfl (fun _ => hS7) ?_
        refine HW.skip (i := 33) hH rfl (by kernel_rfl) (Skips.on rfl rfl rfl rfl rfl hb17) rfl (fun _ => hS7) ?_
        refine HW.skip (i := 34) hH rfl (by kernel_rfl) (Skips.on rfl rfl rfl rfl rfl hb17) rfl (fun _ => hS7) ?_
        refine HW.skip (i := 35) hH rfl (by kernel_rfl) (Skips.on rfl rfl rfl rfl rfl hb17) rfl (fun _ => hS7) ?_
        refine HW.skip (i := 36) hH rfl (by kernel_rfl) (Skips.on rfl rfl rfl rfl rfl hb17) rfl (fun _ => hS7) ?_
        refine HW.skip (i := 37) hH rfl (by kernel_rfl) (Skips.on rfl rfl rfl rfl rfl hb17) rfl (fun _ => hS7) ?_
        refine HW.pure (i := 38) hH rfl (by kernel_rfl) (Wants.free rfl) rfl (fun _ => hS7) (Rd.pickT rfl hb17 rfl) ?_
        exact HW.sub hH (by exact ⟨rfl, rfl, rfl, rfl, rfl, rfl, rfl, trivial⟩) (K8 true w17 hS7 h)
       ·have h := h1_J6 hb17
        refine HW.pure (i := 24) hH rfl (by kernel_rfl) (Wants.on rfl rfl rfl rfl rfl hb17) rfl (fun _ => hS7) (Rd.move (v := .pointer r4) rfl) ?_
        refine HW.pure (i := 25) hH rfl (by kernel_rfl) (Wants.on rfl rfl rfl rfl rfl hb17) rfl (fun _ => hS7) (Rd.move (v := .slice l1 l1n l1c) rfl) ?_
        refine HW.pure (i := 26) hH rfl (by kernel_rfl) (Wants.on rfl rfl rfl rfl rfl hb17) rfl (fun _ => hS7) (Rd.move (v := .int .i64 i2) rfl) ?_
        refine HW.pure (i := 27) hH rfl (by kernel_rfl) (Wants.on rfl rfl rfl rfl rfl hb17) rfl (fun _ => hS7) (Rd.iaS (q := a5) (sz := 2) (by rw [← he5]; rfl) rfl Tryd.underlying22 (by kernel_rfl) hi13 hi14) ?_
        refine HW.take (i := 28) hH rfl (by kernel_rfl) (by kernel_rfl) (Wants.on rfl rfl rfl rfl rfl hb17) rfl (fun _ => hS7) (Rd.ldN (cs := [.int .i64 t18, .int .i64 t19]) rfl (by kernel_rfl) (by kernel_rfl) (fun w h => cellsAt_get h.2.1)) ?_
        refine HW.pure (i := 29) hH rfl (by kernel_rfl) (Wants.on rfl rfl rfl rfl rfl hb17) rfl (fun _ => hS7) (Rd.move (v := .int .i64 (IntKind.wrap .i64 ((IntKind.wrap .i64 (step1 + 1)) + (IntKind.wrap .i64 t9)))) rfl) ?_
        refine HW.pure (i := 33) hH rfl (by kernel_rfl) (Wants.on rfl rfl rfl rfl rfl hb17) rfl (fun _ => hS7) (Rd.move (v := .slice l1 l1n l1c) rfl) ?_
        refine HW.pure (i := 34) hH rfl (by kernel_rfl) (Wants.on rfl rfl rfl rfl rfl hb17) rfl (fun _ => hS7) (Rd.move (v := .int .i64 i2) rfl) ?_
        refine HW.pure (i := 35) hH rfl (by kernel_rfl) (Wants.on rfl rfl rfl rfl rfl hb17) rfl (fun _ => hS7) (Rd.iaS (q := a5) (sz := 2) (by rw [← he5]; rfl) rfl Tryd.underlying22 (by kernel_rfl) hi13 hi14) ?_
        refine HW.take (i := 36) hH rfl (by kernel_rfl) (by kernel_rfl) (Wants.on rfl rfl rfl rfl rfl hb17) rfl (fun _ => hS7) (Rd.ldN (cs := [.int .i64 t18, .int .i64 t19]) rfl (by kernel_rfl) (by kernel_rfl) (fun w h => cellsAt_get h.2.1)) ?_
        refine HW.call (i := 30) hH (by kernel_rfl) rfl (Wants.on rfl rfl rfl rfl rfl hb17) rfl (Cl.fn (f := 10) rfl Tryd.func10 (by kernel_rfl) rfl) h (fun e w20 h_ => ?_)
        clear h
        obtain ⟨r8, r8n, r8c, rfl, hS8, h⟩ := h_
        have hS9 := (⟨hS8.1, hS8.2, trivial⟩ : CellsAt w20 (a6.add (Int.toNat 0 * 2)) 0 [.int .i64 t16, .int .i64 t17] ∧ CellsAt w20 (a5.add (Int.toNat i2 * 2)) 0 [.int .i64 t18, .int .i64 t19] ∧ True)
        refine ⟨_, rfl, (fun _ => hS9), ?_⟩
        obtain ⟨a8, he8, hi27, hi28, h⟩ := h
        refine HW.pure (i := 31) hH rfl (by kernel_rfl) (Wants.on rfl rfl rfl rfl rfl hb17) rfl (fun _ => hS9) (Rd.iaS (q := a8) (sz := 2) (by rw [← he8]; rfl) rfl Tryd.underlying22 (by kernel_rfl) hi27 hi28) ?_
        obtain ⟨t22, t23, hc12, h⟩ := h
        refine HW.val (i := 32) hH (by kernel_rfl) rfl (Wants.on rfl rfl rfl rfl rfl hb17) rfl (fun a ha => (Rd.ldN (cs := [.int .i64 t22, .int .i64 t23]) rfl (by kernel_rfl) (by kernel_rfl) (cellsS hc12)) a ha _ rfl) (fun _ => hS9) ?_
        refine HW.pure (i := 37) hH rfl (by kernel_rfl) (Wants.on rfl rfl rfl rfl rfl hb17) rfl (fun _ => hS9) (Rd.bin (v := .bool (!((t22 == t18) && (t23 == t19)))) rfl rfl (fun w => neS_27 _ _ _ _ w)) ?_
        refine HW.pure (i := 38) hH rfl (by kernel_rfl) (Wants.free rfl) rfl (fun _ => hS9) (Rd.pickF rfl hb17 rfl) ?_
        exact HW.sub hH (by exact ⟨rfl, rfl, rfl, rfl, rfl, rfl, rfl, trivial⟩) (K8 (!((t22 == t18) && (t23 == t19))) w20 hS9 h)
      intro b7 w19 hS10 h_
      have h := hJ6 b7 w19 h_; clear h_
      refine HW.done hH (by kernel_rfl) ?_
      refine NW.then ?_
      refine CW.cond rfl (fun hb18 => ?_) (fun hb18 => ?_)
      ·replace h := h.1 hb18
       refine CW.seq ?_
       refine CW.region fun L hL => ?_
       refine LW.rd hL rfl (Wants.free rfl) rfl (Rd.assign (v := .bool false) rfl) ?_
       refine LW.nil hL rfl ?_
       refine NW.then ?_
       refine CW.ret ?_
       refine RW.block ?_
       refine RW.then ?_
       refine RW.then ?_
       refine RW.block ?_
       refine RW.then ?_
       exact res1 rfl rfl ⟨false, rfl, h⟩
      ·replace h := h.2 hb18
       refine CW.skip ?_
       refine NW.block ?_
       refine NW.then ?_
       refine CW.region fun L hL => ?_
       refine LW.rd hL rfl (Wants.free rfl) rfl (Rd.move (v := .int .i64 i2) rfl) ?_
       refine LW.rd hL rfl (Wants.free rfl) rfl (Rd.bin (v := .int .i64 (IntKind.wrap .i64 (i2 + 1))) rfl rfl (fun w => by kernel_rfl)) ?_
       refine LW.rd hL rfl (Wants.free rfl) rfl (Rd.assign (v := .int .i64 (IntKind.wrap .i64 (i2 + 1))) rfl) ?_
       refine LW.nil hL rfl ?_
       exact NW.loop (S := Bool × Int × Int) (Ek := fun s3 => [(0, .slice l1 l1n l1c), (1, .slice gaps1 gaps1n gaps1c), (7, .pointer r4), (4, .bool s3.1), (8, .int .i64 s3.2.1), (9, .int .i64 s3.2.2)]) (x3, IntKind.wrap .i64 ((IntKind.wrap .i64 (step1 + 1)) + (IntKind.wrap .i64 t9)), IntKind.wrap .i64 (i2 + 1)) (by exact ⟨rfl, rfl, rfl, rfl, rfl, rfl, trivial⟩) h
    ·skip
     refine CW.seq ?_
     refine CW.region fun L hL => ?_
     refine LW.rd hL rfl (Wants.free rfl) rfl (Rd.move (v := .int .i64 i2) rfl) ?_
     refine LW.rd hL rfl (Wants.free rfl) rfl (Rd.bin (v := .bool (i2 == 2)) rfl rfl (fun w => by kernel_rfl)) ?_
     refine LW.nil hL rfl ?_
     refine NW.then ?_
     refine CW.cond rfl (fun hb19 => ?_) (fun hb19 => ?_)
     ·replace h := h.1 hb19
      obtain ⟨w21, hw_w21⟩ : ∃ x, x = World.drew w10 := ⟨_, rfl⟩
      have hc_w21 := sil_drew (Chg.refl [] w10) hw_w21
      refine CW.drawn (fun w => w = w21) 6 (by kernel_rfl) fun H hH => ?_
      rw [← hw_w21]
      refine HW.pure (i := 0) hH rfl (by kernel_rfl) (Wants.free rfl) rfl (fun _ => rfl) (Rd.move (v := .slice l1 l1n l1c) rfl) ?_
      obtain ⟨a9, he9, hi29, hi30, h⟩ := h
      refine HW.pure (i := 1) hH rfl (by kernel_rfl) (Wants.free rfl) rfl (fun _ => rfl) (Rd.iaS (q := a9) (sz := 2) (by rw [← he9]; rfl) rfl Tryd.underlying22 (by kernel_rfl) hi29 hi30) ?_
      replace h := h  w21  hc_w21
      obtain ⟨t24, t25, hc13, h⟩ := h
      refine HW.take (i := 2) hH rfl (by kernel_rfl) (by kernel_rfl) (Wants.free rfl) rfl (fun _ => rfl) (Rd.ldN (cs := [.int .i64 t24, .int .i64 t25]) rfl (by kernel_rfl) (by kernel_rfl) (cellsS hc13)) ?_
      refine HW.pure (i := 3) hH rfl (by kernel_rfl) (Wants.free rfl) rfl (fun _ => rfl) (Rd.move (v := .slice l1 l1n l1c) rfl) ?_
      obtain ⟨a10, he10, hi31, hi32, h⟩ := h
      refine HW.pure (i := 4) hH rfl (by kernel_rfl) (Wants.free rfl) rfl (fun _ => rfl) (Rd.iaS (q := a10) (sz := 2) (by rw [← he10]; rfl) rfl Tryd.underlying22 (by kernel_rfl) hi31 hi32) ?_
      obtain ⟨t26, t27, hc14, h⟩ := h
      refine HW.take (i := 5) hH rfl (by kernel_rfl) (by kernel_rfl) (Wants.free rfl) rfl (fun _ => rfl) (Rd.ldN (cs := [.int .i64 t26, .int .i64 t27]) rfl (by kernel_rfl) (by kernel_rfl) (cellsS hc14)) ?_
      obtain ⟨b8, hb_b8⟩ : ∃ b8, b8 = World.size w21 := ⟨_, rfl⟩
      obtain ⟨w22, hw_w22⟩ : ∃ w22, w22 = World.alloc w21 (.cells #[.int .i64 t24, .int .i64 t25, .int .i64 t26, .int .i64 t27] 27) := ⟨_, rfl⟩
      replace h := h b8 hb_b8 w22 hw_w22
      refine HW.val (i := 6) hH (by kernel_rfl) rfl (Wants.free rfl) rfl (sliceE (n := 2) hb_b8 hw_w22 (fun w => Vl.buildSlice (vs := [(0, .agg #[.int .i64 t24, .int .i64 t25]), (1, .agg #[.int .i64 t26, .int .i64 t27])]) rfl (by kernel_rfl))) (fun hc => by cases hc) ?_
      refine HW.pure (i := 7) hH rfl (by kernel_rfl) (Wants.free rfl) rfl (fun hc => by cases hc) (Rd.assign (v := .slice (some (⟨b8, 0, none⟩ : Addr)) 2 2) rfl) ?_
      refine HW.done hH (by kernel_rfl) ?_
      exact NW.cut (S := (Option Addr) × Nat × Nat) (Ek := fun s4 => [(0, .slice l1 l1n l1c), (1, .slice gaps1 gaps1n gaps1c), (4, .bool x3), (7, .pointer r4), (8, .int .i64 (IntKind.wrap .i64 ((IntKind.wrap .i64 (step1 + 1)) + (IntKind.wrap .i64 t9)))), (9, .int .i64 i2), (10, .slice s4.1 s4.2.1 s4.2.2)]) (some (⟨b8, 0, none⟩ : Addr), 2, 2) (by exact ⟨rfl, rfl, rfl, rfl, rfl, rfl, rfl, trivial⟩) h
     ·replace h := h.2 hb19
      refine CW.skip ?_
      exact NW.cut (S := (Option Addr) × Nat × Nat) (Ek := fun s4 => [(0, .slice l1 l1n l1c), (1, .slice gaps1 gaps1n gaps1c), (4, .bool x3), (7, .pointer r4), (8, .int .i64 (IntKind.wrap .i64 ((IntKind.wrap .i64 (step1 + 1)) + (IntKind.wrap .i64 t9)))), (9, .int .i64 i2), (10, .slice s4.1 s4.2.1 s4.2.2)]) (some (⟨b3, 0, none⟩ : Addr), 1, 1) (by exact ⟨rfl, rfl, rfl, rfl, rfl, rfl, rfl, trivial⟩) h
   ·replace h := h.2 hb13
    refine CW.exit ?_
    refine XW.then ?_
    refine XW.then ?_
    refine XW.hit ?_
    refine NW.then ?_
    refine CW.seq ?_
    refine CW.region fun L hL => ?_
    refine LW.call hL rfl (Wants.free rfl) rfl (Cl.fn (f := 7) rfl Tryd.func7 (by kernel_rfl) rfl) h (fun e w23 h_ => ?_)
    clear h
    obtain ⟨r9, rfl, h⟩ := h_
    refine ⟨_, rfl, ?_⟩
    refine LW.rd hL rfl (Wants.free rfl) rfl (Rd.assign (v := .bool r9) rfl) ?_
    refine LW.nil hL rfl ?_
    refine NW.then ?_
    refine CW.ret ?_
    exact res1 rfl rfl ⟨r9, rfl, h⟩
end Go.Proofs.YtfcfkhbkkfpehaaDoor
end
section
/- Bytes that came in. -/
namespace Go.Proofs.YtfcfkhbkkfpehaaDoor
open Go Go.RowKit Go.X
structure BytesAt (w : World) (S : Nat → Prop) (p : Option Addr) (n : Nat) (gs : List Int) : Prop where
 length : gs.length = n
 each : ∀ (j : Nat) (g : Int), gs[j]? = some g → 0 ≤ g ∧ g ≤ 255 ∧ ∃ a, p = some a ∧ S a.block ∧ w.cell? (a.add (j * 1)) = some (.int .u8 g)
theorem BytesAt.chg {w w' : World} {S : Nat → Prop} {p : Option Addr} {n : Nat} {gs : List Int} {f : List Nat} (h : BytesAt w S p n gs) (hc : Chg f w w') (hf : ∀ i ∈ f, ¬ S i) : BytesAt w' S p n gs :=
 ⟨h.length, fun j g hg => let ⟨h1, h2, a, h3, h4, h5⟩ := h.each j g hg; ⟨h1, h2, a, h3, h4, hc.cell (by rw [add_block]; exact fun hm => hf _ hm h4) h5⟩⟩
end Go.Proofs.YtfcfkhbkkfpehaaDoor
end
section
/- QueryChain: the walk. -/
namespace Go.Proofs.YtfcfkhbkkfpehaaDoor
open Go Go.RowKit Go.X Go.XR
theorem touch_list {w : World} {b4 b5 : Nat} {y : Pl} {fr : List Pl} (h4 : w.heap[b4]? = some (.cells (fr.flatMap encPl).toArray 27 (0, 0))) (h5 : w.heap[b5]? = some (.cells #[.int .i64 y.1, .int .i64 y.2, .slice (some (⟨b4, 0, none⟩ : Addr)) fr.length fr.length] 33 (0, 0)))
  (hx : ∀ x ∈ fr, i64s x.1 ∧ i64s x.2) (hy : i64s y.1 ∧ i64s y.2) : TouchesAt w (fun i => i = b4 ∨ i = b5) (some ⟨b5, 0, none⟩) 1 [(y, fr)] := by
 refine ⟨rfl, fun j t ht => ?_⟩
 match j, ht with
 | 0, ht =>
  simp at ht; subst ht
  refine ⟨hy.1, hy.2, ⟨b5, 0, none⟩, _, _, _, rfl, .inr rfl, by simpa [add_at] using cellsAt_of h5, rfl, fun j z hz => ?_⟩
  have hm := hx z (List.mem_of_getElem? hz)
  obtain ⟨g0, g1⟩ := flat_get2 fr j z hz
  refine ⟨hm.1, hm.2, ⟨b4, 0, none⟩, rfl, .inl rfl, ?_, ?_, trivial⟩
  ·rw [add_add, add_at, cell_of h4]; simpa using g0
  ·rw [add_add, add_at, cell_of h4]; simpa using g1
 | j + 1, ht => simp at ht
theorem getD_of {l : List Pl} {i : Nat} {x : Pl} (h : l[i]? = some x) : l.getD i (0, 0) = x := by rw [List.getD_eq_getElem?_getD, h]; rfl
theorem chain_walk14 {w : World} {S : Nat → Prop} {p q : Option Addr} {n c qn qc : Nat} {l : List Pl} {gs : List Int} (hl : PlacesAt w S p n l) (hq : BytesAt w S q qn gs) (hn : n ≤ maxLen) (hqn : qn ≤ maxLen) (hS : ∀ i, S i → i < w.heap.size) :
    Calls Tryd.prog 3 #[.slice p n c, .slice q qn qc] w fun e w' => ∃ r : Bool, e = .returned (.bool r) ∧ (r = true ∧ Chg [] w w') := by
  have hlen := hl.length
  have hqlen := hq.length
  refine go_pomanderlaw14_QueryChain _ _ _ _ _ _ _ _ ?_
  unfold W_pomanderlaw14_QueryChain
  have known : ∀ {A : World}, Chg [] w A → Calls Tryd.prog 7 #[] A fun e w3 => ∃ (r3 : Bool), e = .returned (.bool r3) ∧ (r3 = true ∧ Chg [] w w3) := fun hA => by
    refine (known_ok _).mono ?_
    rintro _ w3 ⟨_, rfl, rfl, c3⟩
    exact ⟨_, rfl, rfl, hA.trans0 c3⟩
  refine ⟨fun _ => known (Chg.refl _ _), fun hok => ?_⟩
  simp only [Bool.or_eq_false_iff, decide_eq_false_iff_not] at hok
  obtain ⟨⟨⟨h3, h12⟩, hgl⟩, h20⟩ := hok
  have hg : ∀ g ∈ gs, 0 ≤ g ∧ g ≤ 255 := fun g hg' => by
    obtain ⟨j, hj⟩ := List.getElem?_of_mem hg'
    have := hq.each j g hj
    exact ⟨this.1, this.2.1⟩
  have hwide : ∀ x ∈ l, i64s x.1 ∧ i64s x.2 := fun x hx => by
    obtain ⟨j, hj⟩ := List.getElem?_of_mem hx
    have := hl.each j x hj
    exact ⟨this.1, this.2.1⟩
  have good : ∀ (i k : Nat) (x y : Pl), Prop := fun i k x y => k < i → l[i]? = some x → l[k]? = some y → y ≠ x ∧ x ≠ (0, 0) ∧ y ≠ (0, 0)
  refine ⟨fun _ i w2 => ∃ j : Nat, i = (j : Int) ∧ j ≤ l.length ∧ (∀ (i k : Nat) (x y : Pl), i < j → k < i → l[i]? = some x → l[k]? = some y → y ≠ x ∧ x ≠ (0, 0) ∧ y ≠ (0, 0)) ∧ Chg [] w w2, fun _ i _ => (l.length - i).toNat, ⟨0, rfl, Nat.zero_le _, fun i k x y hi => absurd hi (Nat.not_lt_zero _), Chg.refl _ _⟩, ?_⟩
  rintro x1 _ w2 ⟨i, rfl, hi, hgo, c2⟩
  refine ⟨fun hlt => ?_, fun hge => ?_⟩
  · have hin : i < l.length := by have := of_decide_eq_true hlt; omega
    obtain ⟨x, hx⟩ := get_of hin
    refine ⟨fun _ k w3 => ∃ m : Nat, k = (m : Int) ∧ m ≤ i ∧ (∀ (k : Nat) (y : Pl), k < m → l[k]? = some y → y ≠ x ∧ x ≠ (0, 0) ∧ y ≠ (0, 0)) ∧ Chg [] w w3, fun _ k _ => (i - k).toNat, ⟨0, rfl, Nat.zero_le _, fun k y hk => absurd hk (Nat.not_lt_zero _), c2⟩, ?_⟩
    rintro x2 _ w3 ⟨m, rfl, hm, hgm, c3⟩
    refine ⟨fun hlt2 => ?_, fun hge2 => ?_⟩
    · have hmi : m < i := by have := of_decide_eq_true hlt2; omega
      obtain ⟨y, hy⟩ := get_of (l := l) (j := m) (by omega)
      obtain ⟨_, _, a, ha, hSa, hcy⟩ := (hl.chg (f := []) c3 (by simp)).each m y hy
      obtain ⟨_, _, a', ha', _, hcx⟩ := (hl.chg (f := []) c3 (by simp)).each i x hx
      refine ⟨a, ha, by omega, by omega, fun w4 c4 => ?_⟩
      have c04 := c3.trans0 c4
      have hcy4 := c4.cells (by simp) hcy
      have hcx4 := c4.cells (by simp) hcx
      refine ⟨y.1, y.2, by simpa using hcy4, a', ha', by omega, by omega, x.1, x.2, by simpa using hcx4, ?_⟩
      refine ⟨fun b w5 => (b = false → y ≠ x ∧ x ≠ (0, 0)) ∧ Chg [] w w5 ∧ Chg [] w4 w5, ?_, fun hne => ⟨x.1, x.2, by simpa using hcx4, fun hz => ⟨fun e => ?_, fun e => ?_⟩, c04, Chg.refl _ _⟩, fun heq => ⟨fun h => by simp at h, c04, Chg.refl _ _⟩⟩
      rotate_left
      · rw [e] at hne; simp at hne
      · rw [e] at hz; simp at hz
      rintro b1 w5 ⟨hb1, c5, c45⟩
      refine ⟨fun b w6 => (b = false → y ≠ x ∧ x ≠ (0, 0) ∧ y ≠ (0, 0)) ∧ Chg [] w w6, ?_, fun hb => ⟨y.1, y.2, by simpa using c45.cells (by simp) hcy4, fun hz => ⟨(hb1 hb).1, (hb1 hb).2, fun e => ?_⟩, c5⟩, fun hb => ⟨fun h => by simp at h, c5⟩⟩
      rotate_left
      · rw [e] at hz; simp at hz
      rintro b2 w6 ⟨hb2, c6⟩
      refine ⟨fun _ => known c6, fun hb => ?_⟩
      rw [wr (by omega) (by omega)]
      refine ⟨⟨m + 1, by omega, by omega, fun k y' hk hy' => ?_, c6⟩, by simp only []; omega⟩
      by_cases hkm : k < m
      · exact hgm k y' hkm hy'
      · have : k = m := by omega
        subst this
        rw [hy] at hy'; cases hy'
        exact hb2 hb
    · have hmi : m = i := by have := of_decide_eq_false hge2; omega
      rw [wr (by omega) (by omega)]
      refine ⟨⟨i + 1, by omega, by omega, fun i' k x' y' hi' hk hx' hy' => ?_, c3⟩, by simp only []; omega⟩
      by_cases hii : i' < i
      · exact hgo i' k x' y' hii hk hx' hy'
      · have : i' = i := by omega
        subst this
        rw [hx] at hx'; cases hx'
        exact hgm k y' (by omega) hy'
  have hil : i = l.length := by have := of_decide_eq_false hge; omega
  subst hil
  have hun : unlike l := fun i k x y hk hx hy => (hgo i k x y (List.getElem?_eq_some_iff.1 hx).1 hk hx hy).1
  have hnz : ∀ j x, 1 ≤ j → l[j]? = some x → x ≠ (0, 0) := fun j x hj hx => by
    obtain ⟨y, hy⟩ := get_of (l := l) (j := 0) (by omega)
    exact (hgo j 0 x y (List.getElem?_eq_some_iff.1 hx).1 hj hx hy).2.1
  obtain ⟨x0, hx0⟩ := get_of (l := l) (j := 0) (by omega)
  have e00 := getD_of hx0
  refine (query_new w2).mono ?_
  rintro _ w8 ⟨_, rfl, b, fp0, rfl, hH0, c8, hf0⟩
  have s2 := c2.size
  refine ⟨_, rfl, ?_⟩
  refine ⟨fun _ step i w9 => ∃ j : Nat, i = (j : Int) + 1 ∧ j + 1 ≤ l.length ∧ step = stC gs j ∧ ∃ fp, HistAt w9 b (nsC l gs j) (nsC l gs j).length (stC gs j) fp ∧ (∀ i ∈ fp, w.heap.size ≤ i) ∧ Chg [] w w9,
    fun _ _ i _ => (l.length - i).toNat, ⟨0, rfl, by omega, rfl, fp0, hH0, fun i hi => by have := hf0 i hi; omega, c2.trans0 c8⟩, ?_⟩
  rintro x3 _ _ w9 ⟨j, rfl, hj, rfl, fp, hH, hfp, c9⟩
  refine ⟨fun hlt => ?_, fun hge2 => known c9⟩
  have hjn : j + 1 < l.length := by have := of_decide_eq_true hlt; omega
  have hst := stC_le hg j
  have hst1 := stC_le hg (j + 1)
  obtain ⟨g, hgj⟩ := get_of (l := gs) (j := j + 1) (by omega)
  obtain ⟨g0, g255, ga, hga, _, hgc⟩ := (hq.chg (f := []) c9 (by simp)).each (j + 1) g hgj
  obtain ⟨x, hx⟩ := get_of hjn
  obtain ⟨y, hy⟩ := get_of (l := l) (j := j) (by omega)
  have ex := getD_of hx
  have ey := getD_of hy
  have hl9 := hl.chg (f := []) c9 (by simp)
  obtain ⟨_, _, a, ha, hSa, hcy⟩ := hl9.each j y hy
  have hstep : stC gs (j + 1) = stC gs j + 1 + g := by
    simp only [stC]
    rw [List.getD_eq_getElem?_getD, hgj]; rfl
  refine ⟨ga, hga, by omega, by omega, g, hgc, a, ha, by rw [wr (by omega) (by omega)]; omega, by rw [wr (by omega) (by omega)]; omega, y.1, y.2, by rw [wr (by omega) (by omega), show (j : Int) + 1 - 1 = (j : Int) by omega]; exact hcy, ?_⟩
  refine v_alloc fun b3 w10 e3 hb3 c10 => ?_
  have s10 := c10.size
  have k3 := lt_of_heap hb3
  have c010 := c9.trans0 c10
  have s9 := c9.size
  -- what it comes from
  refine ⟨fun fr frn frc w11 => ∃ bf, fr = some ⟨bf, 0, none⟩ ∧ w9.heap.size ≤ bf ∧ w11.heap[bf]? = some (.cells ((frC l (j + 1)).flatMap encPl).toArray 27 (0, 0)) ∧ frn = (frC l (j + 1)).length ∧ frc = (frC l (j + 1)).length ∧ Chg [] w9 w11, ?_, fun h2 => ?_, fun h2 => ?_⟩
  rotate_left
  · have hj2 : j = 1 := by have : (j : Int) + 1 = 2 := by simpa using h2
                           omega
    subst hj2
    obtain ⟨_, _, a0, ha0, _, hc0⟩ := hl9.each 0 x0 hx0
    refine ⟨a0, ha0, by omega, by omega, fun w21 c21 => ?_⟩
    have s21 := c21.size
    have c921 := c10.trans0 c21
    refine ⟨x0.1, x0.2, by simpa using c921.cells (by simp) hc0, a, ha, by omega, by omega, y.1, y.2, by simpa using c921.cells (by simp) hcy, ?_⟩
    refine v_alloc fun b8 w22 e8 hb8 c22 => ?_
    have ef : frC l (1 + 1) = [x0, y] := by unfold frC; rw [if_pos rfl, e00, ey]
    exact ⟨b8, rfl, by omega, by rw [ef]; exact hb8, by rw [ef]; rfl, by rw [ef]; rfl, c921.trans0 c22⟩
  · have hj2 : j + 1 ≠ 2 := by have : ¬ (j : Int) + 1 = 2 := by simpa using h2
                               omega
    have ef : frC l (j + 1) = [y] := by unfold frC; rw [if_neg hj2, Nat.add_sub_cancel, ey]
    exact ⟨b3, rfl, by omega, by rw [ef]; exact hb3, by rw [ef]; rfl, by rw [ef]; rfl, c10⟩
  rintro _ _ _ w11 ⟨bf, rfl, hbf, hbh, rfl, rfl, c11⟩
  have s11 := c11.size
  have hl11 := hl9.chg (f := []) c11 (by simp)
  obtain ⟨_, _, a5, ha5, hSa5, hcx⟩ := hl11.each (j + 1) x hx
  have hj1 : ((j + 1 : Nat) : Int) = (j : Int) + 1 := by omega
  have hat : Int.toNat ((j : Int) + 1) = j + 1 := by omega
  refine ⟨a5, ha5, by omega, by omega, x.1, x.2, by rw [hat]; exact hcx, ?_⟩
  refine v_alloc fun b4 w12 e4 hb4 c12 => ?_
  have s12 := c12.size
  have k4 := lt_of_heap hb4
  have kf := lt_of_heap hbh
  have c912 := c11.trans0 c12
  have hfrl : (frC l (j + 1)).length ≤ 2 := by unfold frC; split <;> simp
  have hfrw : ∀ z ∈ frC l (j + 1), i64s z.1 ∧ i64s z.2 := fun z hz => by
    obtain ⟨k, hk, rfl⟩ := mem_frC hg hun (show 0 < l.length by omega) (show 1 ≤ j + 1 by omega) hz
    obtain ⟨v, hv⟩ := get_of (l := l) (j := k) (by omega)
    rw [getD_of hv]
    exact hwide v (List.mem_of_getElem? hv)
  have hxw := hwide x (List.mem_of_getElem? hx)
  have ewr : IntKind.wrap .i64 ((IntKind.wrap .i64 (stC gs j + 1)) + (IntKind.wrap .i64 g)) = stC gs (j + 1) := by
    rw [wr (n := stC gs j + 1) (by omega) (by omega), wr (n := g) (by omega) (by omega), wr (by omega) (by omega), hstep]
  rw [ewr]
  have hnl : (nsC l gs j).length = j := by simp [nsC]
  have hlt := hH.lt
  refine (hist_add (hH.chg c912 (by simp)) (touch_list (c12.obj (by simp) hbh) hb4 hfrw hxw) (fun i hi hS' => by have := hlt i hi; rcases hS' with h | h <;> omega) (by simp; omega) (by simp only [List.length_singleton]; omega) (by unfold i64s; omega)).mono ?_
  rintro _ w13 ⟨r5, rfl, fp13, c13, hf13, hres⟩
  have hlt' := stC_lt hg j
  rw [if_neg (by omega)] at hres
  obtain ⟨rfl, hH13⟩ := hres
  have hne : x ≠ (0, 0) := hnz (j + 1) x (by omega) hx
  have hnew : newN (stC gs (j + 1)) [(x, frC l (j + 1))] = [noC l gs (j + 1)] := by
    unfold newN noC
    rw [List.filter_cons_of_pos (by exact decide_eq_true hne), ex]
    rfl
  have hlast : lastN (stC gs (j + 1)) (stC gs j) [(x, frC l (j + 1))] = stC gs (j + 1) := by unfold lastN; rw [hnew]; simp
  rw [hnew, hlast, ← nsC_snoc] at hH13
  have hfp13 : ∀ i ∈ fp13, w.heap.size ≤ i := fun i hi => by
    rcases hf13 i hi with h | h
    · exact hfp i h
    · omega
  have c013 : Chg [] w w13 := (c9.trans0 c912).trans c13 (fun i hi hlt' => by have := hfp i hi; omega)
  have s13 := c13.size
  refine ⟨0, rfl, fun h => by simp at h, fun _ => ?_⟩
  have hl13 := hl.chg (f := []) c013 (by simp)
  obtain ⟨_, _, a5', ha5', _, hcx13⟩ := hl13.each (j + 1) x hx
  rw [ha5] at ha5'
  cases ha5'
  refine ⟨x.1, x.2, by rw [hat]; exact hcx13, ?_⟩
  have few : (nsC l gs (j + 1)).length ≤ 1000 := by simp [nsC]; omega
  have six : ∀ nt ∈ nsC l gs (j + 1), nt.2.2.length ≤ 1000 := fun nt hnt => by
    obtain ⟨k, _, _, rfl⟩ := mem_nsC.1 hnt
    show (frC l k).length ≤ 1000
    unfold frC; split <;> simp
  have ewr1 : IntKind.wrap .i64 (stC gs (j + 1) + 1) = stC gs (j + 1) + 1 := wr (by omega) (by omega)
  rw [ewr1]
  refine (hist_roots hH13 few six x.1 x.2 (stC gs (j + 1) + 1)).mono ?_
  rintro _ w14 ⟨r6, r6n, r6c, rfl, c14, ys, hrow, hyn, _, hnd, _, hmem, _⟩
  have hys : ys = [x0] := single_of hnd (fun q => by rw [hmem, ← e00]; have := chain_root hg hun hjn (by omega) q; rw [ex] at this; exact this)
  subst hys
  obtain rfl : 1 = r6n := hyn.symm
  refine ⟨_, _, _, rfl, fun w15 c15 => ?_⟩
  have c1315 := c14.trans0 c15
  have hl15 := hl13.chg (f := []) c1315 (by simp)
  obtain ⟨_, _, a6, ha6, _, hc60⟩ := hl15.each 0 x0 hx0
  have hcx15 := c1315.cells (by simp) hcx13
  have hrc := (row_cells hrow hyn).chg c15 (by simp)
  obtain ⟨a7, ha7, hc7⟩ := hrc.2 0 _ rfl
  refine ⟨a6, ha6, by omega, by omega, x0.1, x0.2, by simpa using hc60, x.1, x.2, by rw [hat]; exact hcx15, ?_⟩
  have self : ∀ {A : World}, Chg [] w15 A → Calls Tryd.prog 10 #[.pointer (some ⟨b, 0, none⟩), .agg #[.int .i64 x.1, .int .i64 x.2], .int .i64 (stC gs (j + 1))] A fun e w' => ∃ (r : Option Addr) (rn rc : Nat), e = .returned (.slice r rn rc) ∧ (1 = rn ∧ CellsP w' (r, rn, rc) [x] ∧ Chg [] A w') := fun hA => by
    refine (hist_roots ((hH13.chg c1315 (by simp)).chg hA (by simp)) few six x.1 x.2 (stC gs (j + 1))).mono ?_
    rintro _ w18 ⟨r, rn, rc, rfl, c18, zs, hrow, hzn, _, hnd, _, hmem, _⟩
    have hzs : zs = [x] := single_of hnd (fun q => by rw [hmem]; have := chain_self hg hun hjn (by omega) q; rw [ex] at this; exact this)
    subst hzs
    exact ⟨r, rn, rc, rfl, hzn.symm, row_cells hrow hzn, c18⟩
  refine ⟨fun b w16 => b = false ∧ Chg [] w15 w16, ?_, fun _ => ⟨a7, ha7, by omega, by decide, x0.1, x0.2, by simpa using hc7, by simp, Chg.refl _ _⟩, fun h => by simp at h⟩
  rintro _ w16 ⟨rfl, c16⟩
  refine ⟨fun b w17 => b = false ∧ Chg [] w15 w17, ?_, fun _ => ?_, fun h => by simp at h⟩
  rotate_left
  · refine (self c16).mono ?_
    rintro _ w18 ⟨r, rn, rc, rfl, rfl, hcs, c18⟩
    have c1518 := c16.trans0 c18
    exact ⟨_, _, _, rfl, ⟨by simpa using c1518.cells (by simp) hc60, by rw [hat]; exact c1518.cells (by simp) hcx15⟩, by simp, c1518⟩
  rintro _ w17 ⟨rfl, c17⟩
  refine ⟨fun b w19 => b = false ∧ Chg [] w15 w19, ?_, fun _ => ?_, fun h => by simp at h⟩
  rotate_left
  · refine (self c17).mono ?_
    rintro _ w20 ⟨r, rn, rc, rfl, rfl, hcs, c20⟩
    have c1520 := c17.trans0 c20
    obtain ⟨a8, ha8, hc8⟩ := hcs.2 0 _ rfl
    exact ⟨_, _, _, rfl, ⟨by simpa using c1520.cells (by simp) hc60, by rw [hat]; exact c1520.cells (by simp) hcx15⟩, a8, ha8, by omega, by decide, x.1, x.2, by simpa using hc8, by simp, c1520⟩
  rintro _ w19 ⟨rfl, c19⟩
  refine ⟨fun h => by simp at h, fun _ => ?_⟩
  rw [wr (by omega) (by omega)]
  have c1319 := c1315.trans0 c19
  exact ⟨⟨j + 1, by omega, by omega, rfl, fp13, hH13.chg c1319 (by simp), hfp13, c013.trans0 c1319⟩, by simp only []; omega⟩
end Go.Proofs.YtfcfkhbkkfpehaaDoor
end
section
/- The document's flows: New, May, Keep, Put, Mark. -/
namespace Go.Proofs.YtfcfkhbkkfpehaaDoor
open Go Go.RowKit Go.X
/-! ### Rows of equal elements -/
abbrev Pr := (Int × Int) × Int
structure Rf where
 fr : Int
 se : Int
 most : Int
 sets : List Int
 pairs : List Pr
end Go.Proofs.YtfcfkhbkkfpehaaDoor
end
section
/- The document's flows: Keep, ahead, Put. -/
namespace Go.Proofs.YtfcfkhbkkfpehaaDoor
open Go Go.RowKit Go.X
def aheadP (a b : Int × Int) : Prop := a.1 < b.1 ∨ a.1 = b.1 ∧ a.2 < b.2
instance (a b : Int × Int) : Decidable (aheadP a b) := by unfold aheadP; exact inferInstance
end Go.Proofs.YtfcfkhbkkfpehaaDoor
end
section
/- The document's flows: Put. -/
namespace Go.Proofs.YtfcfkhbkkfpehaaDoor
open Go Go.RowKit Go.X
end Go.Proofs.YtfcfkhbkkfpehaaDoor
end
section
/- The document's flows: New, Mark. -/
namespace Go.Proofs.YtfcfkhbkkfpehaaDoor
open Go Go.RowKit Go.X
end Go.Proofs.YtfcfkhbkkfpehaaDoor
end
section
/- Arguments that came in, opened: slices of structs as lists. -/
namespace Go.X
open Go Go.RowKit Go.ChangeShapes Go.WideShapes
theorem list_of {α : Type} {n : Nat} {Q : Nat → α → Prop} (h : ∀ i, i < n → ∃ x, Q i x) : ∃ l : List α, l.length = n ∧ ∀ (i : Nat) (x : α), l[i]? = some x → Q i x := by
 induction n with
 | zero => exact ⟨[], rfl, by simp⟩
 | succ n ih =>
  obtain ⟨l, hl, hq⟩ := ih (fun i hi => h i (by omega))
  obtain ⟨x, hx⟩ := h n (by omega)
  refine ⟨l ++ [x], by simp [hl], fun i y hy => ?_⟩
  by_cases hi : i < l.length
  ·rw [List.getElem?_append_left hi] at hy; exact hq i y hy
  ·rw [List.getElem?_append_right (by omega)] at hy
   have hi' : i - l.length = 0 := by
    have := (List.getElem?_eq_some_iff.1 hy).1
    simp at this; omega
   rw [hi'] at hy; simp at hy; subst hy
   have : i = n := by omega
   rw [this]; exact hx
section
variable {H : Type} {enc : TypeId × Value → H} {P : Program} {w : World} {base : Nat} {spare : Nat → Bool} {held : Bool}
theorem cellsAt_cells? {a : Addr} {n : Nat} {cs : List Value} (h : w.cells? base a n = some cs) : CellsAt w a 0 cs ∧ cs.length = n := by
 obtain ⟨_, h2, h3⟩ := World.cells?_some h
 refine ⟨?_, h2⟩
 have : ∀ (l : List Value) (i : Nat), (∀ k v, l[k]? = some v → w.cell? (a.add (i + k)) = some v) → CellsAt w a i l := by
  intro l
  induction l with
  | nil => intro i _; trivial
  | cons v l ih => intro i h; exact ⟨by simpa using h 0 v rfl, ih (i + 1) (fun k u hu => by rw [show i + 1 + k = i + (k + 1) by omega]; exact h (k + 1) u (by simpa using hu))⟩
 refine this cs 0 fun k v hk => ?_
 have hlt : k < n := by rw [← h2]; exact (List.getElem?_eq_some_iff.1 hk).1
 rw [Nat.zero_add, h3 k hlt, hk]
theorem open_slice {t e : TypeId} {fuel : Nat} {cs : List Value} {x : DataW H × List MemPlace} (ht : P.underlying t = some (.slice e)) (h : DataW.trod enc P w base spare held fuel t cs = some x) :
  ∃ (p : Option Addr) (len cap : Nat), cs = [.slice p len cap] ∧ len ≤ maxLen ∧ ∀ i, i < len → ∃ (a : Addr) (cs' : List Value) (n : Nat) (y : DataW H × List MemPlace), p = some a ∧ CellsAt w (a.add (i * P.cellsOf e)) 0 cs' ∧ cs'.length = P.cellsOf e ∧ DataW.trod enc P w base spare held n e cs' = some y := by
 rcases DataW.trod_slice ht h with ⟨h0, _⟩ | ⟨a, len, cap, elems, rest, n, _, rfl, rfl, hb, hl, hm, hlen, hel, _, _⟩
 ·exact ⟨none, 0, 0, h0, by simp [maxLen], fun i hi => absurd hi (by omega)⟩
 ·refine ⟨some a, len, cap, rfl, by omega, fun i hi => ?_⟩
  have h1 := hel i hi
  rw [List.getElem?_eq_getElem (by omega)] at h1
  obtain ⟨cs', hcs, hy⟩ := Option.bind_eq_some_iff.1 h1
  obtain ⟨k1, k2⟩ := cellsAt_cells? hcs
  exact ⟨a, cs', n, _, rfl, k1, k2, hy⟩
theorem wf_i64 {n : Int} (h : (Lit.int .i64 n).wf = true) : -9223372036854775808 ≤ n ∧ n ≤ 9223372036854775807 := by
 simp [Lit.wf, IntKind.min, IntKind.max, IntKind.bits, IntKind.signed] at h
 omega
theorem all_below (hl : laidOutB P = true) {W W' : World} (hb : Below W.heap.size W W') : ∀ (ts : List TypeId) (vs : List Value) (ds : List (DataW H)) (ps : List MemPlace), (∀ t ∈ ts, P.readableRec t = true ∧ t < P.types.size) →
  DataW.TrodAll enc P W 0 (fun _ => true) true ts vs ds ps → (∀ x ∈ ps, x.block < W.heap.size) → DataW.TrodAll enc P W' 0 (fun b => decide (b < W.heap.size)) true ts vs ds ps
 | [], [], [], ps, _, h, _ => h
 | t :: ts, v :: vs, d :: ds, ps, ht, h, hlt => by
  obtain ⟨p, q, h1, h2, rfl⟩ := h
  exact ⟨p, q, Below.trod hl (ht t (.head _)).1 (ht t (.head _)).2 h1 hb (fun x hx => hlt x (List.mem_append.2 (.inl hx))), all_below hl hb ts vs ds q (fun t h => ht t (.tail _ h)) h2 (fun x hx => hlt x (List.mem_append.2 (.inr hx))), rfl⟩
 | [], [], _ :: _, _, _, h, _ => h.elim
 | [], _ :: _, _, _, _, h, _ => h.elim
 | _ :: _, [], _, _, _, h, _ => h.elim
 | _ :: _, _ :: _, [], _, _, h, _ => h.elim
end
end Go.X
end
section
/- Arguments that came in, opened: places, touches, marks. -/
namespace Go.Proofs.YtfcfkhbkkfpehaaDoor
open Go Go.RowKit Go.X
theorem len1 {α : Type} {l : List α} (h : l.length = 1) : ∃ a, l = [a] := by
 cases l with
 | nil => simp at h
 | cons a l => exact ⟨a, by rw [List.eq_nil_of_length_eq_zero (l := l) (by simpa using h)]⟩
theorem len2 {α : Type} {l : List α} (h : l.length = 2) : ∃ a b, l = [a, b] := by
 cases l with
 | nil => simp at h
 | cons a l => obtain ⟨b, rfl⟩ := len1 (l := l) (by simpa using h); exact ⟨a, b, rfl⟩
section
variable {H : Type} {enc : TypeId × Value → H} {w : World} {base : Nat} {spare : Nat → Bool} {held : Bool} {fuel : Nat} {x : DataW H × List MemPlace} {cs : List Value}
theorem cells56 : Tryd.prog.cellsOf 27 = 2 := by kernel_rfl
theorem cells3 : Tryd.prog.cellsOf 3 = 1 := by kernel_rfl
theorem cells54 : Tryd.prog.cellsOf 25 = 1 := by kernel_rfl
theorem un54 : Tryd.prog.underlying 25 = some (.int .i64) := by kernel_rfl
theorem un3 : Tryd.prog.underlying 3 = some (.int .i64) := by kernel_rfl
theorem open_place (h : DataW.trod enc Tryd.prog w base spare held fuel 27 cs = some x) : ∃ p : Int × Int, cs = [.int .i64 p.1, .int .i64 p.2] ∧ i64s p.1 ∧ i64s p.2 := by
 obtain ⟨xs, n, _, _, hl, hlen, hf⟩ := DataW.trod_struct Tryd.underlying27 h
 have h0 : DataW.trod enc Tryd.prog w base spare held n 25 ((cs.drop 0).take (Tryd.prog.cellsOf 25)) = xs[0]? := hf 0 _ rfl
 have h1 : DataW.trod enc Tryd.prog w base spare held n 3 ((cs.drop 1).take (Tryd.prog.cellsOf 3)) = xs[1]? := hf 1 _ rfl
 simp only [cells54, cells3] at h0 h1
 rw [cells56] at hl
 rw [List.getElem?_eq_getElem (by rw [hlen]; decide)] at h0 h1
 obtain ⟨a, e0, _, w0⟩ := DataW.trod_int un54 h0
 obtain ⟨b, e1, _, w1⟩ := DataW.trod_int un3 h1
 obtain ⟨c0, c1, rfl⟩ := len2 hl
 simp at e0 e1
 subst e0 e1
 exact ⟨(a, b), rfl, wf_i64 w0, wf_i64 w1⟩
def oldS (w : World) (i : Nat) : Prop := i < w.heap.size
theorem cellsAt_lt {a : Addr} {i : Nat} {c : Value} {cs : List Value} (h : CellsAt w a i (c :: cs)) : a.block < w.heap.size := by
 have := World.block_lt_of_cell? w _ h.1
 rwa [add_block] at this
theorem open_places (h : DataW.trod enc Tryd.prog w base spare held fuel 22 cs = some x) : ∃ p n c ps, cs = [.slice p n c] ∧ n ≤ maxLen ∧ PlacesAt w (oldS w) p n ps := by
 obtain ⟨p, n, c, rfl, hn, hel⟩ := open_slice Tryd.underlying22 h
 obtain ⟨l, hl, hq⟩ := list_of (Q := fun j (x : Int × Int) => i64s x.1 ∧ i64s x.2 ∧ ∃ a, p = some a ∧ oldS w a.block ∧ CellsAt w (a.add (j * 2)) 0 [.int .i64 x.1, .int .i64 x.2]) (n := n) (fun i hi => by
  obtain ⟨a, cs', m, y, ha, hc, _, hy⟩ := hel i hi
  obtain ⟨q, rfl, k1, k2⟩ := open_place hy
  rw [cells56] at hc
  exact ⟨q, k1, k2, a, ha, by have := cellsAt_lt hc; rwa [add_block] at this, hc⟩)
 exact ⟨p, n, c, l, rfl, hn, hl, hq⟩
structure MarksAt (w : World) (S : Nat → Prop) (p : Option Addr) (n : Nat) (ms : List Pr) : Prop where
 length : ms.length = n
 each : ∀ (j : Nat) (x : Pr), ms[j]? = some x → i64s x.1.2 ∧ 0 ≤ x.2 ∧ x.2 < 4294967296 ∧ ∃ a, p = some a ∧ S a.block ∧ CellsAt w (a.add (j * 3)) 0 [.int .i64 x.1.1, .int .i64 x.1.2, .int .u32 x.2]
theorem MarksAt.chg {w w' : World} {S : Nat → Prop} {p : Option Addr} {n : Nat} {ps : List Pr} {f : List Nat} (h : MarksAt w S p n ps) (hc : Chg f w w') (hf : ∀ i ∈ f, ¬ S i) : MarksAt w' S p n ps :=
 ⟨h.length, fun j x hx => let ⟨h1, h2, h3, a, h4, h5, h6⟩ := h.each j x hx; ⟨h1, h2, h3, a, h4, h5, hc.cells (by rw [add_block]; exact fun hm => hf _ hm h5) h6⟩⟩
end
end Go.Proofs.YtfcfkhbkkfpehaaDoor
end
section
/- Arguments that came in, opened: adds; steps. -/
namespace Go.Proofs.YtfcfkhbkkfpehaaDoor
open Go Go.RowKit Go.X Go.ChangeShapes Go.WideShapes Go.ChangeAt
section
variable {H : Type} {enc : TypeId × Value → H} {w : World} {base : Nat} {spare : Nat → Bool} {held : Bool} {fuel : Nat} {cs : List Value} {x : DataW H × List MemPlace}
theorem wf_u8 {n : Int} (h : (Lit.int .u8 n).wf = true) : 0 ≤ n ∧ n ≤ 255 := by
 simp [Lit.wf, IntKind.min, IntKind.max, IntKind.bits, IntKind.signed] at h; omega
theorem open_bytes (h : DataW.trod enc Tryd.prog w base spare held fuel 23 cs = some x) : ∃ p n c gs, cs = [.slice p n c] ∧ n ≤ maxLen ∧ BytesAt w (oldS w) p n gs := by
 obtain ⟨p, n, c, rfl, hn, hel⟩ := open_slice Tryd.underlying23 h
 obtain ⟨l, hl, hq⟩ := list_of (Q := fun j (g : Int) => 0 ≤ g ∧ g ≤ 255 ∧ ∃ a, p = some a ∧ oldS w a.block ∧ w.cell? (a.add (j * 1)) = some (.int .u8 g)) (n := n) (fun i hi => by
  obtain ⟨a, cs', m, y, ha, hc, hlc, hy⟩ := hel i hi
  obtain ⟨g, rfl, _, w1⟩ := DataW.trod_int (show Tryd.prog.underlying 5 = some (.int .u8) by kernel_rfl) hy
  obtain ⟨k1, k2⟩ := wf_u8 w1
  rw [show Tryd.prog.cellsOf 5 = 1 by kernel_rfl] at hc
  exact ⟨g, k1, k2, a, ha, by have := cellsAt_lt hc; rwa [add_block] at this, hc.1⟩)
 exact ⟨p, n, c, l, rfl, hn, ⟨hl, hq⟩⟩
end
end Go.Proofs.YtfcfkhbkkfpehaaDoor
end
section
/- What every row's step needs. -/
namespace Go.Proofs.YtfcfkhbkkfpehaaDoor
open Go Go.RowKit Go.X
theorem ownX : ownKnob Tryd.prog.godebug = none := by kernel_rfl
theorem laidOutX : laidOutB Tryd.prog = true := by kernel_rfl
end Go.Proofs.YtfcfkhbkkfpehaaDoor
end
