/- Shadows: All. -/
import Derived.Test.YtkfncibmfcdokaaXSort
import Derived.Test.YtkfncibmfcdokaaXShCopy
set_option linter.unusedVariables false
set_option linter.unusedSimpArgs false
namespace Go.Proofs.Ytkfncibmfcdokaa
open Go Go.RowKit Go.X Go.XR

/-! ### The plain law: what is told -/
def one (g : Int → Int) (n : Int) (i : Nat) : List (Int × Int) := if pg g n i = 0 then [] else [(64 * n + i, pg g n i)]
def pgL (g : Int → Int) (n : Int) (k : Nat) : List (Int × Int) := (List.range k).flatMap (one g n)
/-- The bytes of a shadow that have sets, in order. -/
def someL (g : Int → Int) (k : Nat) : List (Int × Int) := (List.range k).flatMap fun i : Nat => if g i = 0 then [] else [((i : Int), g i)]
theorem pgL_succ (g : Int → Int) (n : Int) (k : Nat) : pgL g n (k + 1) = pgL g n k ++ one g n k := by simp [pgL, List.range_succ]
theorem pgL_none {g : Int → Int} {n : Int} (h : ∀ i, i < 64 → pg g n i = 0) : pgL g n 64 = [] := by
  unfold pgL
  rw [List.flatMap_eq_nil_iff]
  intro i hi
  simp [one, h i (List.mem_range.1 hi)]
theorem someL_add (g : Int → Int) (k m : Nat) : someL g (k + m) = someL g k ++ (List.range m).flatMap fun i : Nat => if g (k + i) = 0 then [] else [((k : Int) + i, g (k + i))] := by
  unfold someL
  rw [List.range_add, List.flatMap_append, List.flatMap_map]
  simp
theorem someL_page (g : Int → Int) (n : Nat) : someL g (64 * (n + 1)) = someL g (64 * n) ++ pgL g n 64 := by
  rw [Nat.mul_succ, someL_add]
  unfold pgL one pg
  simp
theorem someL_pages (g : Int → Int) (n : Nat) : someL g (64 * n) = (List.range n).flatMap fun i : Nat => pgL g i 64 := by
  induction n with
  | zero => rfl
  | succ n ih => rw [someL_page, List.range_succ, List.flatMap_append, ih]; simp

theorem sorted_ext {a b : List Int} (ha : a.Pairwise (· < ·)) (hb : b.Pairwise (· < ·)) (h : ∀ x, x ∈ a ↔ x ∈ b) : a = b := by
  induction a generalizing b with
  | nil => cases b with
    | nil => rfl
    | cons y b => exact absurd ((h y).2 (by simp)) (by simp)
  | cons x a ih =>
    cases b with
    | nil => exact absurd ((h x).1 (by simp)) (by simp)
    | cons y b =>
      rw [List.pairwise_cons] at ha hb
      have hxy : x = y := by
        rcases List.mem_cons.1 ((h x).1 (by simp)) with e | hx
        · exact e
        · rcases List.mem_cons.1 ((h y).2 (by simp)) with e | hy
          · exact e.symm
          · have := ha.1 y hy; have := hb.1 x hx; omega
      subst hxy
      rw [ih ha.2 hb.2 fun z => ?_]
      constructor
      · intro hz
        rcases List.mem_cons.1 ((h z).1 (by simp [hz])) with e | h'
        · have := ha.1 z hz; omega
        · exact h'
      · intro hz
        rcases List.mem_cons.1 ((h z).2 (by simp [hz])) with e | h'
        · have := hb.1 z hz; omega
        · exact h'

theorem flatMap_filter {α β : Type} (p : α → Bool) (f : α → List β) (l : List α) (h : ∀ x ∈ l, p x = false → f x = []) : (l.filter p).flatMap f = l.flatMap f := by
  induction l with
  | nil => rfl
  | cons a l ih =>
    have ih := ih fun x hx => h x (by simp [hx])
    cases hp : p a with
    | true => simp [hp, ih]
    | false => simp [hp, ih, h a (by simp) hp]

theorem sort_strict {ks : List Int} (hn : ks.Nodup) : (ks.mergeSort fun x y => decide (x ≤ y)).Pairwise (· < ·) := by
  have h1 := List.pairwise_mergeSort (le := fun x y : Int => decide (x ≤ y)) (fun a b c h1 h2 => by simp at *; omega) (fun a b => by simp; omega) ks
  have h2 : (ks.mergeSort fun x y => decide (x ≤ y)).Nodup := (List.mergeSort_perm ks _).nodup_iff.2 hn
  exact (h1.and h2).imp fun {a b} h => by have := h.1; have := h.2; simp at *; omega

/-- The keys of a shadow's pages, sorted: their bytes are all that have sets. -/
theorem keys_all {g : Int → Int} {pages : Int} {l : List (Int × Nat)} {xs : List Int} (hx : allS Prod.fst l xs) (hp : ∀ x ∈ l, 0 ≤ x.1 ∧ x.1 < pages) (hnone : ∀ n, lookK n l = none → ∀ i, i < 64 → pg g n i = 0) :
    (xs.mergeSort fun x y => decide (x ≤ y)).flatMap (fun n => pgL g n 64) = someL g (64 * pages.toNat) := by
  obtain ⟨done, rfl, hn, h1, h2⟩ := hx
  have hmem : ∀ n : Int, n ∈ done.map Prod.fst ↔ (lookK n l).isSome = true := fun n => by
    constructor
    · intro h
      obtain ⟨x, hx, rfl⟩ := List.mem_map.1 h
      cases hl : lookK x.1 l with
      | none => exact absurd rfl (lookK_none.1 hl x (h1 x hx))
      | some v => rfl
    · intro h
      obtain ⟨v, hv⟩ := Option.isSome_iff_exists.1 h
      exact List.mem_map.2 ⟨(n, v), h2 _ (lookK_mem hv), rfl⟩
  have e1 : (done.map Prod.fst).mergeSort (fun x y => decide (x ≤ y)) = ((List.range pages.toNat).map (fun i : Nat => (i : Int))).filter fun n => (lookK n l).isSome := by
    refine sorted_ext (sort_strict hn) (List.Pairwise.filter _ ?_) fun n => ?_
    · rw [List.pairwise_map]
      exact List.pairwise_lt_range.imp fun {a b} h => by omega
    · rw [(List.mergeSort_perm _ _).mem_iff, hmem, List.mem_filter]
      constructor
      · intro h
        obtain ⟨v, hv⟩ := Option.isSome_iff_exists.1 h
        have := hp _ (lookK_mem hv)
        exact ⟨List.mem_map.2 ⟨n.toNat, List.mem_range.2 (by simp at this; omega), by simp at this; omega⟩, h⟩
      · exact fun h => h.2
  rw [e1, flatMap_filter, List.flatMap_map, someL_pages]
  intro n hn' hno
  exact pgL_none (hnone n (by simpa using hno))

/-! ### The walk -/
theorem maps_keys (w : World) (m : Option Nat) : Calls Try.prog 95 #[.map m] w fun e w' => ∃ r : Value, e = .returned r ∧ ∃ cb, r = .func (.func 117) #[] #[.pointer (some ⟨cb, 0, none⟩)] ∧ cb = w.heap.size ∧ w'.heap[cb]? = some (.cells #[.map m] 173 (0, 0)) ∧ Chg [] w w' := by
  refine go_maps_Keys_0 _ _ _ ?_
  unfold W_maps_Keys_0
  exact v_alloc fun b w1 e h c => ⟨b, rfl, e, h, c⟩

theorem index_179 {c : Array Value} (hs : c.size = 65) {i : Nat} {z : Int} (hi : i < 64) (hz : c[1 + i]? = some (.int .u32 z)) (w : World) :
    (Instr.index 179 (.agg ((c.toList.drop 1).toArray)) (.int .i64 (i : Int))).run Try.prog w = .ok (.int .u32 z) w := by
  have hu : Try.prog.underlying 179 = some (.array 64 22) := by kernel_rfl
  have hz' : c[i + 1]? = some (.int .u32 z) := by rw [Nat.add_comm]; exact hz
  unfold Instr.index
  simp [go_sem, run_underlying hu, Result.andThen, hi, part, hz']

theorem isFn93 (cb : Nat) : IsFn Try.prog (.func (.func 93) #[] #[.pointer (some ⟨cb, 0, none⟩)]) := ⟨93, Try.f93, _, rfl, Try.func93, by kernel_rfl, by kernel_rfl⟩

theorem ShadowAt.same {w w' : World} {b : Nat} {pages : Int} {g : Int → Int} {fp : List Nat} (h : ShadowAt w b pages g fp) (hs : Same w w' fp) : ShadowAt w' b pages g fp := by
  obtain ⟨r, l, h1, ⟨es, clk, m1, m2⟩, h3, h4, rfl⟩ := h.there
  refine ⟨⟨r, l, (hs b (by simp)).trans h1, ⟨es, clk, (hs r (by simp)).trans m1, m2⟩, fun x hx => ?_, h4, rfl⟩, h.nodup, h.pages1, h.pages2, h.each⟩
  obtain ⟨a1, a2, ⟨c, a3, a4⟩, a5⟩ := h3 x hx
  exact ⟨a1, a2, ⟨c, (hs x.2 (by simp; exact .inr (.inr ⟨x.1, hx⟩))).trans a3, a4⟩, a5⟩
theorem same_cell {w w' : World} {q : Addr} {v : Value} (h : w'.heap[q.block]? = w.heap[q.block]?) (hq : w.cell? q = some v) : w'.cell? q = some v := by
  unfold World.cell? at hq ⊢
  rw [h]; exact hq
theorem pgL_pre (g : Int → Int) (n : Int) (i m : Nat) : ∃ s, pgL g n (i + m) = pgL g n i ++ s := by
  unfold pgL
  rw [List.range_add, List.flatMap_append]
  exact ⟨_, rfl⟩
theorem allSp_len {l : List (Int × Nat)} {pages : Int} (hp : pages ≤ 32) (h : ∀ x ∈ l, 0 ≤ x.1 ∧ x.1 < pages) {pre : List Int} (hs : allSp Prod.fst l pre) : pre.length ≤ 1000000 := by
  obtain ⟨done, rfl, hn, hd⟩ := hs
  have := nodup_sub_length hn (b := (List.range 32).map fun i : Nat => (i : Int)) fun x hx => by
    obtain ⟨y, hy, rfl⟩ := List.mem_map.1 hx
    have := h y (hd y hy)
    exact List.mem_map.2 ⟨y.1.toNat, List.mem_range.2 (by omega), by omega⟩
  simp at this ⊢
  omega

theorem iterates_shadow {w : World} {cb b : Nat} {pages : Int} {g : Int → Int} {fp : List Nat} (hcb : w.heap[cb]? = some (.cells #[.pointer (some ⟨b, 0, none⟩)] 90 (0, 0))) (h : ShadowAt w b pages g fp) :
    Iterates Try.prog (.func (.func 93) #[] #[.pointer (some ⟨cb, 0, none⟩)]) (fun x : Int × Int => #[.int .i64 x.1, .int .u32 x.2]) (fun xs => xs = someL g (64 * pages.toNat)) (fun pre => ∃ suf, pre ++ suf = someL g (64 * pages.toNat)) (cb :: fp) w := by
  intro W yv I Ix hW hI hIx h0 hround
  refine ⟨93, #[.pointer (some ⟨cb, 0, none⟩)], Try.f93, rfl, Try.func93, by kernel_rfl, by kernel_rfl, ?_⟩
  have hcW := hW.obj (by simp) hcb
  have hSW := h.chg hW (by simp)
  obtain ⟨r, l, h1, h2, h3, h4, rfl⟩ := hSW.there
  have hpg := h.pages2
  have hlr := h2.lt
  have hlcb := lt_of_heap hcW
  have hl := hSW.lt
  have hkeys : ∀ x ∈ l, 0 ≤ x.1 ∧ x.1 < pages := fun x hx => ⟨(h3 x hx).1, (h3 x hx).2.1⟩
  refine (go_shadow_Shadow_All_1 yv ⟨cb, 0, none⟩ W (fun w' => ∃ Own, InO W Own w' ∧ ((∃ xs, xs = someL g (64 * pages.toNat) ∧ I Own xs w') ∨ ∃ pre, (∃ suf, pre ++ suf = someL g (64 * pages.toNat)) ∧ Ix Own pre w')) ?_).mono (fun e w' h => ⟨⟨_, h.1⟩, h.2⟩)
  unfold W_shadow_Shadow_All_1
  refine ⟨_, by rw [cell_of hcW]; rfl, ?_⟩
  refine (shadow_none hSW).mono ?_
  rintro _ w1 ⟨_, rfl, rfl, hw⟩
  subst w1
  refine ⟨_, rfl, fun h => by simp at h, fun _ => ⟨_, by rw [cell_of hcW]; rfl, _, rfl, some r, by rw [add_at, cell_of h1]; rfl, ?_⟩⟩
  refine (maps_keys W (some r)).mono ?_
  rintro _ w2 ⟨_, rfl, kb, rfl, ekb, hkb, c2⟩
  have s2 := c2.size
  have hkl := lt_of_heap hkb
  refine ⟨_, rfl, ?_⟩
  refine (sorted (isFn117 kb) (iterates_keys hkb (h2.chg c2 (by simp))) (by simp; omega) (fun pre hp => allSp_len hpg hkeys hp) (fun xs ⟨d, e, n, a, _⟩ => ⟨d, e, n, a⟩)).mono ?_
  rintro _ w3 ⟨p, n, c, rfl, xs, hS, hn, hr, c3, hp⟩
  have s3 := c3.size
  have hks := keys_all (g := g) hS hkeys h4
  have hmem : ∀ k ∈ (xs.mergeSort fun x y => decide (x ≤ y)), ∃ q, lookK k l = some q ∧ (k, q) ∈ l := fun k hk => by
    rw [(List.mergeSort_perm _ _).mem_iff] at hk
    obtain ⟨done, rfl, d1, d2, d3⟩ := hS
    obtain ⟨x, hx, rfl⟩ := List.mem_map.1 hk
    cases hl : lookK x.1 l with
    | none => exact absurd rfl (lookK_none.1 hl x (d2 x hx))
    | some v => exact ⟨v, rfl, lookK_mem hl⟩
  have hlen : (xs.mergeSort fun x y => decide (x ≤ y)).length = n := by simp [hn]
  have hxs : n ≤ 1000000 := hn ▸ allSp_len hpg hkeys (by obtain ⟨d, e, n, a, _⟩ := hS; exact ⟨d, e, n, a⟩)
  generalize (xs.mergeSort fun x y => decide (x ≤ y)) = ks at hr hks hmem hlen
  refine ⟨p, n, c, rfl, ?_⟩
  have c03 : Chg [] W w3 := c2.trans0 c3
  have hO : ∀ {A : World}, w3.heap.size ≤ A.heap.size → InO W (rowB p) A := fun hA i hi => ⟨by have := hp i hi; omega, by have := hr.lt i hi; omega⟩
  have hI3 := hI [] [] (rowB p) W w3 h0 (by intro i hi; cases hi) c03 (hO (Nat.le_refl _)) (fun i hi => .inr (by have := hp i hi; omega))
  refine ⟨fun x1 w4 => ∃ j : Nat, x1 = j ∧ j ≤ n ∧ I (rowB p) ((ks.take j).flatMap fun n => pgL g n 64) w4 ∧ Same w3 w4 ((cb :: b :: r :: l.map Prod.snd) ++ rowB p) ∧ w3.heap.size ≤ w4.heap.size, fun x1 _ => n - x1.toNat,
    ⟨0, rfl, Nat.zero_le _, hI3, Same.refl _ _, Nat.le_refl _⟩, ?_⟩
  rintro x1 w4 ⟨j, rfl, hj, hI4, hs4, s4⟩
  refine ⟨fun hlt => ?_, fun hge => ?_⟩
  · simp at hlt
    have hjl : j < ks.length := by omega
    obtain ⟨k, hk⟩ : ∃ k, ks[j]? = some k := ⟨_, List.getElem?_eq_getElem hjl⟩
    obtain ⟨q, hq, hql⟩ := hmem k (List.mem_of_getElem? hk)
    obtain ⟨a, rfl, hcell⟩ := RowAt.at hr (j := j) (u := .int .i64 k) (by simp [hk])
    have hks' : ks = ks.take j ++ k :: ks.drop (j + 1) := by
      rw [← List.take_append_drop j ks]
      congr 1
      · simp
      · rw [List.take_append_drop, List.drop_eq_getElem_cons hjl]
        rw [List.getElem?_eq_getElem hjl] at hk
        cases hk; rfl
    have hcb4 := (hs4 cb (by simp)).trans (c03.obj (by simp) hcW)
    have hb4 := (hs4 b (by simp)).trans (c03.obj (by simp) h1)
    have hS4 : ShadowAt w4 b pages g (b :: r :: l.map Prod.snd) := (hSW.chg c03 (by simp)).same (fun x hx => hs4 x (List.mem_append_left _ (List.mem_cons_of_mem _ hx)))
    have hm4 : MapIs w4 r (fun n : Int => .int .i64 n) encPg l := by
      obtain ⟨es, clk, m1, m2⟩ := h2.chg c03 (by simp)
      exact ⟨es, clk, (hs4 r (by simp)).trans m1, m2⟩
    obtain ⟨k0, k1, ⟨cc, p1, p2, p3, p4⟩, _⟩ := h3 _ hql
    simp only [] at k0 k1 p1 p3 p4
    have p1' := (hs4 q (by simp; exact .inr (.inr (.inr (.inl ⟨k, hql⟩))))).trans (c03.obj (by simp) p1)
    refine ⟨a, rfl, by omega, by simp; omega, k, ?_, some ⟨b, 0, none⟩, by rw [cell_of hcb4]; rfl, _, rfl, some r, by rw [add_at, cell_of hb4]; rfl, some ⟨q, 0, none⟩, ?_, _, rfl, cc.toList.drop 1, by simp [p2], ?_, ?_⟩
    · have : ((j : Int).toNat * 1) = j := by simp
      rw [this]
      exact same_cell (hs4 _ (by rw [add_block]; simp [rowB])) hcell
    · have := hm4.lookup (P := Try.prog) (T := 173) u173 keyInt (z := .pointer none) (fun _ => by kernel_rfl) k false
      rw [this, hq]; rfl
    · rw [add_at]
      exact box_cells (cs := cc.toList) (by simpa using p1') (by rw [List.take_of_length_le (Nat.le_refl _)])
    have hpre : ∀ i, i < 64 → ∃ suf, ((ks.take j).flatMap fun n => pgL g n 64) ++ pgL g k i ++ one g k i ++ suf = someL g (64 * pages.toNat) := fun i hi => by
      obtain ⟨s, hs⟩ := pgL_pre g k (i + 1) (64 - (i + 1))
      refine ⟨s ++ (ks.drop (j + 1)).flatMap fun n => pgL g n 64, ?_⟩
      rw [← hks]
      conv => rhs; rw [hks']
      rw [List.flatMap_append, List.flatMap_cons, show (64 : Nat) = i + 1 + (64 - (i + 1)) by omega, hs, pgL_succ]
      simp
    refine ⟨fun x2 w5 => ∃ i : Nat, x2 = i ∧ i ≤ 64 ∧ I (rowB (some a)) (((ks.take j).flatMap fun n => pgL g n 64) ++ pgL g k i) w5 ∧ Same w3 w5 ((cb :: b :: r :: l.map Prod.snd) ++ rowB (some a)) ∧ w3.heap.size ≤ w5.heap.size, fun x2 _ => 64 - x2.toNat,
      ⟨0, rfl, by omega, by simpa [pgL] using hI4, hs4, s4⟩, ?_⟩
    rintro x2 w5 ⟨i, rfl, hi, hI5, hs5, s5⟩
    have ew : IntKind.wrap .i64 ((i : Int) + 1) = ((i + 1 : Nat) : Int) := by rw [wr (by omega) (by omega)]; omega
    refine ⟨fun hlt => ?_, fun hge => ?_⟩
    · simp at hlt
      have hi6 : i < 64 := by omega
      refine ⟨pg g k i, fun w => index_179 p2 hi6 (p4 i hi6) w, ?_⟩
      have next : ∀ w6, I (rowB (some a)) (((ks.take j).flatMap fun n => pgL g n 64) ++ pgL g k i ++ one g k i) w6 → Same w3 w6 ((cb :: b :: r :: l.map Prod.snd) ++ rowB (some a)) → w3.heap.size ≤ w6.heap.size →
          ((∃ i' : Nat, IntKind.wrap .i64 ((i : Int) + 1) = i' ∧ i' ≤ 64 ∧ I (rowB (some a)) (((ks.take j).flatMap fun n => pgL g n 64) ++ pgL g k i') w6 ∧ Same w3 w6 ((cb :: b :: r :: l.map Prod.snd) ++ rowB (some a)) ∧ w3.heap.size ≤ w6.heap.size) ∧ 64 - (IntKind.wrap .i64 ((i : Int) + 1)).toNat < 64 - (i : Int).toNat) := fun w6 h1 h2 h3 =>
        ⟨⟨i + 1, ew, by omega, by rw [pgL_succ, ← List.append_assoc]; exact h1, h2, h3⟩, by rw [ew]; omega⟩
      refine ⟨fun b6 w6 => (b6 = true → ∃ Own, InO W Own w6 ∧ ∃ pre, (∃ suf, pre ++ suf = someL g (64 * pages.toNat)) ∧ Ix Own pre w6) ∧ (b6 = false → I (rowB (some a)) (((ks.take j).flatMap fun n => pgL g n 64) ++ pgL g k i ++ one g k i) w6 ∧ Same w3 w6 ((cb :: b :: r :: l.map Prod.snd) ++ rowB (some a)) ∧ w3.heap.size ≤ w6.heap.size), ?_, fun hne => ?_, fun heq => ?_⟩
      · rintro b6 w6 ⟨k1, k2⟩
        refine ⟨fun hb => ?_, fun hb => ?_⟩
        · obtain ⟨Own, h1, h2⟩ := k1 hb
          exact ⟨Own, h1, .inr h2⟩
        · obtain ⟨h1, h2, h3⟩ := k2 hb
          exact next w6 h1 h2 h3
      · have hne' : pg g k i ≠ 0 := by simpa using hne
        have e1 : one g k i = [(64 * k + (i : Int), pg g k i)] := by simp [one, hne']
        have e2 : IntKind.wrap .i64 (IntKind.wrap .i64 (k * 64) + (i : Int)) = 64 * k + i := by
          rw [wr (n := k * 64) (by omega) (by omega), wr (by omega) (by omega)]; omega
        rw [e2]
        have hpi := hpre i hi6
        rw [e1] at hpi ⊢
        refine (hround (rowB (some a)) _ (64 * k + (i : Int), pg g k i) w5 (hO s5) hpi hI5).mono ?_
        rintro e w7 ⟨s7, ⟨rfl, hI7, hs7⟩ | ⟨rfl, hx7⟩⟩
        · exact ⟨true, rfl, fun h => by simp at h, fun _ => ⟨hI7, fun x hx => (hs7 x hx).trans (hs5 x hx), by omega⟩⟩
        · exact ⟨false, rfl, fun _ => ⟨rowB (some a), hO (by omega), _, hpi, hx7⟩, fun h => by simp at h⟩
      · have he : pg g k i = 0 := by simpa using heq
        exact ⟨fun h => by simp at h, fun _ => ⟨by simpa [one, he] using hI5, hs5, s5⟩⟩
    · simp at hge
      have : i = 64 := by omega
      subst this
      have ew1 : IntKind.wrap .i64 ((j : Int) + 1) = ((j + 1 : Nat) : Int) := by rw [wr (by omega) (by omega)]; omega
      refine ⟨⟨j + 1, ew1, by omega, ?_, hs5, s5⟩, by rw [ew1]; simp only []; omega⟩
      rw [List.take_add_one, hk, List.flatMap_append]
      simpa using hI5
  · simp at hge
    have : j = n := by omega
    subst this
    rw [List.take_of_length_le (by omega), hks] at hI4
    exact ⟨rowB p, hO s4, .inl ⟨_, rfl, hI4⟩⟩
end Go.Proofs.Ytkfncibmfcdokaa
