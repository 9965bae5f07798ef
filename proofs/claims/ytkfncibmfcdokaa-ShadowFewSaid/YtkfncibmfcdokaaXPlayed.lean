/- pomanderlaw03: works, played. -/
import Derived.Test.YtkfncibmfcdokaaXIs
set_option linter.unusedVariables false
set_option linter.unusedSimpArgs false
namespace Go.Proofs.Ytkfncibmfcdokaa
open Go Go.RowKit Go.X Go.XR

theorem num44 (w : World) (e1 : Int) : Calls Try.prog 44 #[.int .i64 e1] w fun e w' => ∃ r : Int, e = .returned (.int .i64 r) ∧ (r = e1 ∧ w' = w) := by
  refine go_pomanderlaw03_num _ _ _ ?_
  unfold W_pomanderlaw03_num
  exact ⟨rfl, rfl⟩

theorem works_true (w : World) : Calls Try.prog 40 #[] w fun e w' => ∃ r : Bool, e = .returned (.bool r) ∧ (r = true ∧ Chg [] w w') := by
  refine go_pomanderlaw03_works _ _ ?_
  unfold W_pomanderlaw03_works
  refine (shadow_new w 2).mono ?_
  rintro _ w1 ⟨r1, r2, rfl, c1, h⟩
  rw [if_pos (by omega)] at h
  obtain ⟨rfl, b, fp, rfl, hS, hf⟩ := h
  refine ⟨_, _, rfl, ?_⟩
  refine (shadow_setp hS (at1 := 70) (set := 5) (by omega) (by omega)).mono ?_
  rintro _ w2 ⟨_, rfl, h⟩
  rw [if_neg (by omega), if_pos (by omega)] at h
  obtain ⟨rfl, fp2, hS2, c2, hf2⟩ := h
  refine ⟨_, rfl, ?_⟩
  refine (shadow_getp hS2 (at1 := 70) (by omega)).mono ?_
  rintro _ w3 ⟨_, _, rfl, c3, rfl, rfl⟩
  refine ⟨_, _, rfl, ?_⟩
  refine (shadow_pages (hS2.chg c3 (by simp))).mono ?_
  rintro _ w4 ⟨_, rfl, rfl, hw⟩
  subst w4
  refine ⟨_, rfl, ?_⟩
  refine (shadow_union (hS2.chg c3 (by simp)) (at1 := 60) (n := 20) (by omega)).mono ?_
  rintro _ w5 ⟨_, _, rfl, c5, h⟩
  rw [if_pos (by unfold inShadow; omega)] at h
  obtain ⟨rfl, rfl⟩ := h
  refine ⟨_, _, rfl, ?_⟩
  refine (shadow_setp ((hS2.chg c3 (by simp)).chg c5 (by simp)) (at1 := 70) (set := 0) (by omega) (by omega)).mono ?_
  rintro _ w6 ⟨_, rfl, h⟩
  rw [if_neg (by omega), if_pos (by omega)] at h
  obtain ⟨rfl, fp6, hS6, c6, hf6⟩ := h
  refine ⟨_, rfl, ?_⟩
  have s1 := c1.size
  have c02 : Chg [] w w2 := c1.trans c2 (fun i hi hlt => by have := hf i hi; omega)
  have c05 := (c02.trans0 c3).trans0 c5
  have c06 : Chg [] w w6 := c05.trans c6 (fun i hi hlt => by
    rcases hf2 i hi with h | h
    · have := hf i h; omega
    · omega)
  refine (num44 w6 _).mono ?_
  rintro _ w7 ⟨_, rfl, rfl, hw⟩
  subst w7
  refine ⟨_, rfl, ?_⟩
  refine (num44 w6 _).mono ?_
  rintro _ w7 ⟨_, rfl, rfl, hw⟩
  subst w7
  refine ⟨_, rfl, ?_⟩
  refine (num44 w6 _).mono ?_
  rintro _ w7 ⟨_, rfl, rfl, hw⟩
  subst w7
  refine ⟨_, rfl, ?_⟩
  refine (num44 w6 _).mono ?_
  rintro _ w7 ⟨_, rfl, rfl, hw⟩
  subst w7
  refine ⟨_, rfl, ?_⟩
  refine (num44 w6 _).mono ?_
  rintro _ w7 ⟨_, rfl, rfl, hw⟩
  subst w7
  refine ⟨_, rfl, fun b1 w' => b1 = true ∧ Chg [] w w', ?_, fun _ => ?_, fun hf => ?_⟩
  · rintro _ w' ⟨rfl, h⟩; exact ⟨rfl, h⟩
  · refine (shadow_pages hS6).mono ?_
    rintro _ w8 ⟨_, rfl, rfl, hw⟩
    subst w8
    exact ⟨_, rfl, by kernel_rfl, c06⟩
  · exact Bool.noConfusion (hf.symm.trans (by kernel_rfl : _ = true))

/-! ### Calls on a shadow -/
structure Act3 where
  what : Int
  at1 : Int
  n : Int
  set : Int
structure Acts3At (w : World) (p : Option Addr) (n : Nat) (acts : List Act3) : Prop where
  length : acts.length = n
  each : ∀ (j : Nat) (a : Act3), acts[j]? = some a → (-9223372036854775808 ≤ a.at1 ∧ a.at1 ≤ 9223372036854775807) ∧ 0 ≤ a.set ∧ ∃ b, p = some b ∧ b.block < w.heap.size ∧ CellsAt w (b.add (j * 4)) 0 [.int .i64 a.what, .int .i64 a.at1, .int .i64 a.n, .int .u32 a.set]
theorem Acts3At.chg {w w' : World} {p : Option Addr} {n : Nat} {acts : List Act3} {f : List Nat} (h : Acts3At w p n acts) (hc : Chg f w w') (hf : ∀ i ∈ f, w.heap.size ≤ i) : Acts3At w' p n acts := by
  refine ⟨h.length, fun j a hj => ?_⟩
  obtain ⟨h1, h2, b, rfl, h3, h4⟩ := h.each j a hj
  exact ⟨h1, h2, b, rfl, by have := hc.size; omega, hc.cells (fun hm => by have := hf _ hm; rw [add_block] at this; omega) h4⟩

/-- A shadow and the document's, alike. -/
structure Both (w0 w : World) (pages : Int) (g : Int → Int) (s : Option Addr) (l : Option Addr) (n c : Nat) (fp : List Nat) : Prop where
  chg : Chg [] w0 w
  shadow : ∃ b, s = some ⟨b, 0, none⟩ ∧ ShadowAt w b pages g fp
  row : RowAt w 22 1 l n c (row03 g n)
  len : (n : Int) = 64 * pages
  new : ∀ i ∈ fp, w0.heap.size ≤ i
  newR : ∀ i ∈ rowB l, w0.heap.size ≤ i
  apart : ∀ i ∈ rowB l, i ∉ fp
theorem Both.later {w0 w w' : World} {pages : Int} {g : Int → Int} {s l : Option Addr} {n c : Nat} {fp : List Nat} (h : Both w0 w pages g s l n c fp) (hc : Chg [] w w') : Both w0 w' pages g s l n c fp :=
  ⟨h.chg.trans0 hc, let ⟨b, h1, h2⟩ := h.shadow; ⟨b, h1, h2.chg hc (by simp)⟩, h.row.chg hc (by simp), h.len, h.new, h.newR, h.apart⟩

/-- Set, with the document's. -/
theorem both_set {w0 w : World} {pages : Int} {g : Int → Int} {s l : Option Addr} {n c : Nat} {fp : List Nat} (h : Both w0 w pages g s l n c fp) {at1 set : Int} (ha : -9223372036854775808 ≤ at1 ∧ at1 ≤ 9223372036854775807) (hs : 0 ≤ set) :
    Calls Try.prog 59 #[.slice l n c, .int .i64 at1, .int .u32 set] w fun e w1 => ∃ (r1 : Option Addr) (r1n : Nat) (r1c : Nat) (r2 : Int), e = .returned (.tuple #[.slice r1 r1n r1c, .int .i64 r2]) ∧ Chg [] w w1 ∧
      ∀ w2, Chg [] w1 w2 → Calls Try.prog 52 #[.pointer s, .int .i64 at1, .int .u32 set] w2 fun e w' => ∃ r : Int, e = .returned (.int .i64 r) ∧ (r = r2 ∧ ∃ fp', Both w0 w' pages (if 65536 ≤ set then g else if 0 ≤ at1 ∧ at1 < 64 * pages then putG g at1 set else g) s r1 r1n r1c fp' ∧ Chg fp w2 w') := by
  obtain ⟨b, rfl, hS⟩ := h.shadow
  refine (r3_set h.row ha h.len hS.pages1 hS.pages2).mono ?_
  rintro _ w1 ⟨r1, r1n, r1c, r2, rfl, c1, rfl, hb, hr⟩
  refine ⟨_, _, _, _, rfl, c1, fun w2 c2 => ?_⟩
  have c12 := c1.trans0 c2
  refine (shadow_setp (hS.chg c12 (by simp)) ha hs).mono ?_
  rintro _ w3 ⟨r, rfl, h3⟩
  have sz0 := h.chg.size
  have sz2 := c12.size
  have hlf := hS.lt
  have hbN : ∀ i ∈ rowB r1, w0.heap.size ≤ i := fun i hi => by
    rcases hb i hi with k | k
    · exact h.newR i k
    · omega
  have hlt1 : ∀ {W : World} {xs : List Value}, RowAt W 22 1 r1 r1n r1c xs → ∀ i ∈ rowB r1, i < W.heap.size := fun hr => hr.lt
  have hap : ∀ i ∈ rowB r1, i ∉ fp := fun i hi hm => by
    rcases hb i hi with k | k
    · exact h.apart i k hm
    · have := hlf i hm; omega
  refine ⟨r, rfl, ?_⟩
  by_cases k1 : 65536 ≤ set
  · simp only [if_pos k1] at hr h3 ⊢
    obtain ⟨rfl, c3⟩ := h3
    obtain ⟨rfl, hr⟩ := hr
    exact ⟨rfl, fp, ⟨(h.chg.trans0 c12).trans0 c3, ⟨b, rfl, (hS.chg c12 (by simp)).chg c3 (by simp)⟩, (hr.chg c2 (by simp)).chg c3 (by simp), h.len, h.new, hbN, hap⟩, c3.nil⟩
  · by_cases k2 : 0 ≤ at1 ∧ at1 < 64 * pages
    · simp only [if_neg k1, if_pos k2] at hr h3 ⊢
      obtain ⟨rfl, fp', hS3, c3, hn⟩ := h3
      obtain ⟨rfl, hr⟩ := hr
      refine ⟨rfl, fp', ⟨(h.chg.trans0 c12).trans c3 (fun i hi hlt => by have := h.new i hi; omega), ⟨b, rfl, hS3⟩, (hr.chg c2 (by simp)).chg c3 hap, h.len, fun i hi => ?_, hbN, fun i hi hm => ?_⟩, c3⟩
      · rcases hn i hi with k | k
        · exact h.new i k
        · omega
      · rcases hn i hm with k | k
        · exact hap i hi k
        · have := (hr.chg c2 (by simp)).lt i hi; omega
    · simp only [if_neg k1, if_neg k2] at hr h3 ⊢
      obtain ⟨rfl, c3⟩ := h3
      obtain ⟨rfl, hr⟩ := hr
      exact ⟨rfl, fp, ⟨(h.chg.trans0 c12).trans0 c3, ⟨b, rfl, (hS.chg c12 (by simp)).chg c3 (by simp)⟩, (hr.chg c2 (by simp)).chg c3 (by simp), h.len, h.new, hbN, hap⟩, c3.nil⟩

/-- Fill, with the document's. -/
theorem both_fill {w0 w : World} {pages : Int} {g : Int → Int} {s l : Option Addr} {n c : Nat} {fp : List Nat} (h : Both w0 w pages g s l n c fp) {at1 m set : Int} (ha : -9223372036854775808 ≤ at1 ∧ at1 ≤ 9223372036854775807) (hs : 0 ≤ set) :
    Calls Try.prog 48 #[.slice l n c, .int .i64 at1, .int .i64 m, .int .u32 set] w fun e w1 => ∃ (r1 : Option Addr) (r1n : Nat) (r1c : Nat) (r2 : Int), e = .returned (.tuple #[.slice r1 r1n r1c, .int .i64 r2]) ∧ Chg [] w w1 ∧
      ∀ w2, Chg [] w1 w2 → Calls Try.prog 49 #[.pointer s, .int .i64 at1, .int .i64 m, .int .u32 set] w2 fun e w' => ∃ r : Int, e = .returned (.int .i64 r) ∧ (r = r2 ∧ ∃ fp', Both w0 w' pages (if 65536 ≤ set then g else if inShadow pages at1 m then fillG g at1 set m.toNat else g) s r1 r1n r1c fp' ∧ Chg fp w2 w') := by
  obtain ⟨b, rfl, hS⟩ := h.shadow
  refine (r3_fill h.row ha h.len hS.pages1 hS.pages2).mono ?_
  rintro _ w1 ⟨r1, r1n, r1c, r2, rfl, c1, rfl, hb, hr⟩
  refine ⟨_, _, _, _, rfl, c1, fun w2 c2 => ?_⟩
  have c12 := c1.trans0 c2
  refine (shadow_fill (hS.chg c12 (by simp)) ha hs).mono ?_
  rintro _ w3 ⟨r, rfl, h3⟩
  have sz0 := h.chg.size
  have sz2 := c12.size
  have hlf := hS.lt
  have hbN : ∀ i ∈ rowB r1, w0.heap.size ≤ i := fun i hi => by
    rcases hb i hi with k | k
    · exact h.newR i k
    · omega
  have hap : ∀ i ∈ rowB r1, i ∉ fp := fun i hi hm => by
    rcases hb i hi with k | k
    · exact h.apart i k hm
    · have := hlf i hm; omega
  refine ⟨r, rfl, ?_⟩
  by_cases k1 : 65536 ≤ set
  · simp only [if_pos k1] at hr h3 ⊢
    obtain ⟨rfl, c3⟩ := h3
    obtain ⟨rfl, hr⟩ := hr
    exact ⟨rfl, fp, ⟨(h.chg.trans0 c12).trans0 c3, ⟨b, rfl, (hS.chg c12 (by simp)).chg c3 (by simp)⟩, (hr.chg c2 (by simp)).chg c3 (by simp), h.len, h.new, hbN, hap⟩, c3.nil⟩
  · by_cases k2 : inShadow pages at1 m
    · simp only [if_neg k1, if_pos k2] at hr h3 ⊢
      obtain ⟨rfl, fp', hS3, c3, hn⟩ := h3
      obtain ⟨rfl, hr⟩ := hr
      refine ⟨rfl, fp', ⟨(h.chg.trans0 c12).trans c3 (fun i hi hlt => by have := h.new i hi; omega), ⟨b, rfl, hS3⟩, (hr.chg c2 (by simp)).chg c3 hap, h.len, fun i hi => ?_, hbN, fun i hi hm => ?_⟩, c3⟩
      · rcases hn i hi with k | k
        · exact h.new i k
        · omega
      · rcases hn i hm with k | k
        · exact hap i hi k
        · have := (hr.chg c2 (by simp)).lt i hi; omega
    · simp only [if_neg k1, if_neg k2] at hr h3 ⊢
      obtain ⟨rfl, c3⟩ := h3
      obtain ⟨rfl, hr⟩ := hr
      exact ⟨rfl, fp, ⟨(h.chg.trans0 c12).trans0 c3, ⟨b, rfl, (hS.chg c12 (by simp)).chg c3 (by simp)⟩, (hr.chg c2 (by simp)).chg c3 (by simp), h.len, h.new, hbN, hap⟩, c3.nil⟩

theorem played_true {w : World} {pages : Int} (hp1 : 1 ≤ pages) (hp2 : pages ≤ 32) {p : Option Addr} {n c : Nat} {acts : List Act3} (h : Acts3At w p n acts) (hn : n ≤ maxLen) :
    Calls Try.prog 41 #[.int .i64 pages, .slice p n c] w fun e w' => ∃ (r1 : Option Addr) (r2 : Option Addr) (r2n : Nat) (r2c : Nat) (r3 : Bool), e = .returned (.tuple #[.pointer r1, .slice r2 r2n r2c, .bool r3]) ∧ (r3 = true ∧ ∃ g fp, Both w w' pages g r1 r2 r2n r2c fp) := by
  refine go_pomanderlaw03_played _ _ _ _ _ _ ?_
  unfold W_pomanderlaw03_played
  refine (shadow_new w pages).mono ?_
  rintro _ w1 ⟨r1, r2, rfl, c1, hS⟩
  rw [if_pos ⟨hp1, hp2⟩] at hS
  obtain ⟨rfl, b, fp, rfl, hS, hf⟩ := hS
  refine ⟨_, _, rfl, ?_⟩
  refine (r3_new w1 pages).mono ?_
  rintro _ w2 ⟨l, ln, lc, rfl, c2, hr⟩
  rw [if_pos ⟨hp1, hp2⟩] at hr
  obtain ⟨hl, hr, hrn⟩ := hr
  refine ⟨_, _, _, rfl, ?_⟩
  have s1 := c1.size
  have hB : Both w w2 pages (fun _ => 0) (some ⟨b, 0, none⟩) l ln lc fp :=
    ⟨c1.trans0 c2, ⟨b, rfl, hS.chg c2 (by simp)⟩, hr, hl, hf, fun i hi => by have := hrn i hi; omega, fun i hi hm => by have := hrn i hi; have := hS.lt i hm; omega⟩
  refine ⟨fun x1 x2 x2n x2c x3 l ln lc i w' => (x1 = none ∧ x2 = none ∧ x2n = 0 ∧ x2c = 0 ∧ x3 = false) ∧ (∃ j : Nat, i = j ∧ j ≤ n) ∧ ∃ g fp, Both w w' pages g (some ⟨b, 0, none⟩) l ln lc fp, fun _ _ _ _ _ _ _ _ i _ => n - i.toNat, ⟨⟨rfl, rfl, rfl, rfl, rfl⟩, ⟨0, rfl, Nat.zero_le _⟩, _, _, hB⟩, ?_⟩
  rintro _ _ _ _ _ l ln lc _ w3 ⟨⟨rfl, rfl, rfl, rfl, rfl⟩, ⟨j, rfl, hj⟩, g, fp, hB⟩
  have hb3 : (n : Int) ≤ 9223372036854775807 := by simp [maxLen] at hn; omega
  refine ⟨fun hlt => ?_, fun hge => ?_⟩
  · have hlt' : j < n := by have := of_decide_eq_true hlt; omega
    refine ⟨fun x1 x2 x2n x2c x3 l ln lc w' => (x1 = none ∧ x2 = none ∧ x2n = 0 ∧ x2c = 0 ∧ x3 = false) ∧ ∃ g fp, Both w w' pages g (some ⟨b, 0, none⟩) l ln lc fp, ?_, ?_⟩
    · rintro _ _ _ _ _ l ln lc w4 ⟨⟨rfl, rfl, rfl, rfl, rfl⟩, hB4⟩
      rw [wr (by omega) (by omega)]
      exact ⟨⟨⟨rfl, rfl, rfl, rfl, rfl⟩, ⟨j + 1, by omega, by omega⟩, hB4⟩, by simp only []; omega⟩
    obtain ⟨x, hx⟩ : ∃ x, acts[j]? = some x := ⟨_, List.getElem?_eq_getElem (by rw [h.length]; exact hlt')⟩
    obtain ⟨q1, q2, a, rfl, q3, q4⟩ := (h.chg hB.chg (by simp)).each j x hx
    refine ⟨a, rfl, by omega, by omega, _, _, _, _, by simpa using q4, ?_⟩
    rintro b1 w6 ⟨i1, i2⟩ c6
    refine ⟨fun h0 => ?_, fun h0 => ?_⟩
    · refine (both_set (hB.later c6) q1 q2).mono ?_
      rintro _ w7 ⟨r7, r7n, r7c, r8, rfl, c7, k⟩
      have s7 := c7.size
      refine ⟨_, _, _, _, rfl, Same.chg c7 (by simp; omega), ?_⟩
      have hB7 := hB.later c6
      refine (k w7 (Chg.refl _ _)).mono ?_
      rintro _ w8 ⟨_, rfl, rfl, fp8, hB8, c8⟩
      refine ⟨_, rfl, Same.of c8 (fun y hy => ?_), ?_⟩
      · simp at hy; subst hy
        obtain ⟨bb, e, hSS⟩ := hB.shadow
        exact ⟨by omega, fun hm => by have := hSS.lt _ hm; omega⟩
      refine (num44 w8 _).mono ?_
      rintro _ w9 ⟨_, rfl, rfl, hw⟩
      subst w9
      exact ⟨_, rfl, Same.refl _ _, fun hne => by simp at hne, fun _ => ⟨⟨rfl, rfl, rfl, rfl, rfl⟩, _, _, hB8⟩⟩
    · refine (both_fill (hB.later c6) q1 q2).mono ?_
      rintro _ w7 ⟨r7, r7n, r7c, r8, rfl, c7, k⟩
      have s7 := c7.size
      refine ⟨_, _, _, _, rfl, Same.chg c7 (by simp; omega), ?_⟩
      refine (k w7 (Chg.refl _ _)).mono ?_
      rintro _ w8 ⟨_, rfl, rfl, fp8, hB8, c8⟩
      refine ⟨_, rfl, ?_⟩
      refine (num44 w8 _).mono ?_
      rintro _ w9 ⟨_, rfl, rfl, hw⟩
      subst w9
      exact ⟨_, rfl, fun hne => by simp at hne, fun _ => ⟨⟨rfl, rfl, rfl, rfl, rfl⟩, _, _, hB8⟩⟩
  · refine (num44 w3 _).mono ?_
    rintro _ w9 ⟨_, rfl, rfl, hw⟩
    subst w9
    exact ⟨_, rfl, rfl, _, _, hB⟩
end Go.Proofs.Ytkfncibmfcdokaa
