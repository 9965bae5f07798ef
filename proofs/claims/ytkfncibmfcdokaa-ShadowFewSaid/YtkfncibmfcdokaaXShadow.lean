/- Shadows: what stands there; get, put. -/
import Derived.Test.YtkfncibmfcdokaaXTypes
import Derived.Test.YtkfncibmfcdokaaXFshadow
set_option linter.unusedVariables false
set_option linter.unusedSimpArgs false
namespace Go.Proofs.Ytkfncibmfcdokaa
open Go Go.RowKit Go.X

theorem wr {n : Int} (h1 : -9223372036854775808 ≤ n) (h2 : n ≤ 9223372036854775807) : IntKind.wrap .i64 n = n := by rw [IntKind.wrap_i64]; omega

/-- How many of 64 bytes have a set. -/
def many (s : Nat → Int) : Nat := (List.range 64).countP (fun i => s i != 0)

theorem countP_set {l : List Nat} (hn : l.Nodup) {i : Nat} (hi : i ∈ l) (p q : Nat → Bool) (h : ∀ j, j ≠ i → p j = q j) : l.countP q + (if p i then 1 else 0) = l.countP p + (if q i then 1 else 0) := by
  induction l with
  | nil => simp at hi
  | cons a l ih =>
    simp only [List.nodup_cons] at hn
    simp only [List.countP_cons]
    rcases List.mem_cons.1 hi with rfl | hm
    · have : l.countP q = l.countP p := List.countP_congr (fun x hx => by rw [h x (fun e => hn.1 (e ▸ hx))])
      rw [this]; omega
    · have := ih hn.2 hm
      have ha : p a = q a := h a (fun e => hn.1 (e ▸ hm))
      rw [ha]; omega

theorem many_set (s t : Nat → Int) {i : Nat} (hi : i < 64) (h : ∀ j, j ≠ i → s j = t j) : many t + (if s i = 0 then 0 else 1) = many s + (if t i = 0 then 0 else 1) := by
  have := countP_set List.nodup_range (List.mem_range.2 hi) (fun i => s i != 0) (fun i => t i != 0) (fun j hj => by simp [h j hj])
  unfold many
  have e1 : (if (s i != 0) = true then 1 else 0) = (if s i = 0 then 0 else 1) := by by_cases h : s i = 0 <;> simp [h]
  have e2 : (if (t i != 0) = true then 1 else 0) = (if t i = 0 then 0 else 1) := by by_cases h : t i = 0 <;> simp [h]
  rw [e1, e2] at this; exact this
theorem many_pos {s : Nat → Int} {i : Nat} (hi : i < 64) (h : s i ≠ 0) : 0 < many s := List.countP_pos_iff.2 ⟨i, List.mem_range.2 hi, by simpa using h⟩
theorem many_zero {s : Nat → Int} (h : many s = 0) {i : Nat} (hi : i < 64) : s i = 0 := by
  rcases Decidable.em (s i = 0) with h' | h'
  · exact h'
  · have := many_pos hi h'; omega
theorem many_none {s : Nat → Int} (h : ∀ i, i < 64 → s i = 0) : many s = 0 := List.countP_eq_zero.2 (fun i hi => by simp [h i (List.mem_range.1 hi)])

/-- The cells of a page: how many, and each byte's set. -/
def PageC (w : World) (q : Nat) (n : Int) (s : Nat → Int) : Prop :=
  ∃ c : Array Value, w.heap[q]? = some (.cells c 181 (0, 0)) ∧ c.size = 65 ∧ c[0]? = some (.int .i64 n) ∧ ∀ i, i < 64 → c[1 + i]? = some (.int .u32 (s i))
theorem PageC.chg {w w' : World} {f : List Nat} {q : Nat} {n : Int} {s : Nat → Int} (h : PageC w q n s) (hc : Chg f w w') (hf : q ∉ f) : PageC w' q n s := by
  obtain ⟨c, h1, h2⟩ := h; exact ⟨c, hc.obj hf h1, h2⟩
theorem PageC.lt {w : World} {q : Nat} {n : Int} {s : Nat → Int} (h : PageC w q n s) : q < w.heap.size := by obtain ⟨c, h1, _⟩ := h; exact lt_of_heap h1

def encPg (q : Nat) : Value := .pointer (some ⟨q, 0, none⟩)
def pg (g : Int → Int) (n : Int) (i : Nat) : Int := g (64 * n + i)

/-- What a shadow is. -/
structure ShadowAt (w : World) (b : Nat) (pages : Int) (g : Int → Int) (fp : List Nat) : Prop where
  there : ∃ (r : Nat) (l : List (Int × Nat)), w.heap[b]? = some (.cells #[.int .i64 pages, .map (some r)] 176 (0, 0)) ∧ MapIs w r (fun n : Int => .int .i64 n) encPg l ∧
    (∀ x ∈ l, 0 ≤ x.1 ∧ x.1 < pages ∧ PageC w x.2 (many (pg g x.1)) (pg g x.1) ∧ 0 < many (pg g x.1)) ∧ (∀ n, lookK n l = none → ∀ i, i < 64 → pg g n i = 0) ∧ fp = b :: r :: l.map Prod.snd
  nodup : fp.Nodup
  pages1 : 1 ≤ pages
  pages2 : pages ≤ 32
  each : ∀ i, 0 ≤ g i ∧ g i < 65536

theorem ShadowAt.lt {w : World} {b : Nat} {pages : Int} {g : Int → Int} {fp : List Nat} (h : ShadowAt w b pages g fp) : ∀ i ∈ fp, i < w.heap.size := by
  obtain ⟨r, l, h1, h2, h3, h4, rfl⟩ := h.there
  intro i hi
  simp only [List.mem_cons] at hi
  rcases hi with rfl | rfl | hi
  · exact lt_of_heap h1
  · exact h2.lt
  · obtain ⟨x, hx, rfl⟩ := List.mem_map.1 hi
    exact (h3 x hx).2.2.1.lt
theorem ShadowAt.chg {w w' : World} {b : Nat} {pages : Int} {g : Int → Int} {fp f : List Nat} (h : ShadowAt w b pages g fp) (hc : Chg f w w') (hf : ∀ i ∈ fp, i ∉ f) : ShadowAt w' b pages g fp := by
  obtain ⟨r, l, h1, h2, h3, h4, rfl⟩ := h.there
  simp only [List.mem_cons, forall_eq_or_imp] at hf
  obtain ⟨f1, f2, f3⟩ := hf
  exact { h with there := ⟨r, l, hc.obj f1 h1, h2.chg hc f2, fun x hx => ⟨(h3 x hx).1, (h3 x hx).2.1, (h3 x hx).2.2.1.chg hc (f3 _ (List.mem_map.2 ⟨x, hx, rfl⟩)), (h3 x hx).2.2.2⟩, h4, rfl⟩ }
theorem div64 {at1 : Int} (h : 0 ≤ at1) : Int.tdiv at1 64 = at1 / 64 := Int.tdiv_eq_ediv_of_nonneg h
theorem mod64 {at1 : Int} (h : 0 ≤ at1) : Int.tmod at1 64 = at1 % 64 := Int.tmod_eq_emod_of_nonneg h
theorem pg_at (g : Int → Int) {at1 : Int} : pg g (at1 / 64) (at1 % 64).toNat = g at1 := by unfold pg; congr 1; omega
theorem ShadowAt.out {w : World} {b : Nat} {pages : Int} {g : Int → Int} {fp : List Nat} (h : ShadowAt w b pages g fp) {i : Int} (hi : i < 0 ∨ 64 * pages ≤ i) : g i = 0 := by
  obtain ⟨r, l, h1, h2, h3, h4, rfl⟩ := h.there
  rw [← pg_at g]
  refine h4 _ ?_ _ (by omega)
  rw [lookK_none]
  intro x hx
  have := h3 x hx
  omega

theorem shadow_none {w : World} {b : Nat} {pages : Int} {g : Int → Int} {fp : List Nat} (h : ShadowAt w b pages g fp) :
    Calls Try.prog 90 #[.pointer (some ⟨b, 0, none⟩)] w fun e w' => ∃ r : Bool, e = .returned (.bool r) ∧ (r = false ∧ w' = w) := by
  obtain ⟨r, l, h1, _⟩ := h.there
  refine ok_shadow_Shadow_none _ _ _ ?_
  unfold V_shadow_Shadow_none
  refine ⟨_, fun s w h => h, fun _ => ⟨_, rfl, pages, by rw [cell_of h1]; rfl, ?_, rfl⟩, fun h => by simp at h⟩
  have := h.pages1
  simp; omega
theorem shadow_size {w : World} {b : Nat} {pages : Int} {g : Int → Int} {fp : List Nat} (h : ShadowAt w b pages g fp) :
    Calls Try.prog 54 #[.pointer (some ⟨b, 0, none⟩)] w fun e w' => ∃ r : Int, e = .returned (.int .i64 r) ∧ (r = 64 * pages ∧ w' = w) := by
  obtain ⟨r, l, h1, _⟩ := h.there
  refine ok_shadow_Shadow_Size _ _ _ ?_
  unfold V_shadow_Shadow_Size
  refine (shadow_none h).mono ?_
  rintro _ w1 ⟨_, rfl, rfl, rfl⟩
  have := h.pages1
  have := h.pages2
  exact ⟨_, rfl, fun h => by simp at h, fun _ => ⟨_, rfl, pages, by rw [cell_of h1]; rfl, by rw [wr (by omega) (by omega)]; omega, rfl⟩⟩
theorem shadow_get {w : World} {b : Nat} {pages : Int} {g : Int → Int} {fp : List Nat} (h : ShadowAt w b pages g fp) {at1 : Int} (h0 : 0 ≤ at1) (hs : at1 < 64 * pages) :
    Calls Try.prog 87 #[.pointer (some ⟨b, 0, none⟩), .int .i64 at1] w fun e w' => ∃ r : Int, e = .returned (.int .u32 r) ∧ (r = g at1 ∧ w' = w) := by
  have hp := h.pages2
  obtain ⟨r, l, h1, h2, h3, h4, _⟩ := h.there
  refine ok_shadow_Shadow_get _ _ _ _ ?_
  unfold V_shadow_Shadow_get
  rw [div64 h0, mod64 h0, wr (by omega) (by omega)]
  have hl := h2.lookup (P := Try.prog) u173 keyInt zero174 (at1 / 64) true
  simp only [if_true] at hl
  refine ⟨_, rfl, some r, by rw [add_at, cell_of h1]; rfl, ?_⟩
  cases hk : lookK (at1 / 64) l with
  | none =>
    rw [hk] at hl
    refine ⟨none, false, hl, fun _ => ⟨?_, rfl⟩, fun h => by simp at h⟩
    rw [← pg_at g]; exact (h4 _ hk _ (by omega)).symm
  | some q =>
    rw [hk] at hl
    obtain ⟨c, hc, hsz, _, hcells⟩ := (h3 _ (lookK_mem hk)).2.2.1
    refine ⟨some ⟨q, 0, none⟩, true, hl, fun h => by simp at h, fun _ => ⟨_, rfl, by omega, by omega, g at1, ?_, rfl, rfl⟩⟩
    rw [add_at, add_at, cell_of hc, Nat.mul_one]
    have := hcells (at1 % 64).toNat (by omega)
    simp only [pg_at] at this
    simpa using this

def putG (g : Int → Int) (at1 set : Int) : Int → Int := fun i => if i = at1 then set else g i
theorem pg_put_same (g : Int → Int) (at1 set : Int) (i : Nat) (hi : i < 64) : pg (putG g at1 set) (at1 / 64) i = if i = (at1 % 64).toNat then set else pg g (at1 / 64) i := by
  unfold pg putG
  by_cases h : i = (at1 % 64).toNat
  · rw [if_pos h, if_pos (by omega)]
  · rw [if_neg h, if_neg (by omega)]
theorem pg_put_other (g : Int → Int) (at1 set : Int) {n : Int} (hn : n ≠ at1 / 64) (i : Nat) (hi : i < 64) : pg (putG g at1 set) n i = pg g n i := by
  unfold pg putG
  rw [if_neg (by omega)]
theorem many_congr {s t : Nat → Int} (h : ∀ i, i < 64 → s i = t i) : many s = many t := List.countP_congr (fun i hi => by simp [h i (List.mem_range.1 hi)])
theorem PageC.congr {w : World} {q : Nat} {n : Int} {s t : Nat → Int} (h : PageC w q n s) (he : ∀ i, i < 64 → s i = t i) : PageC w q n t := by
  obtain ⟨c, h1, h2, h3, h4⟩ := h; exact ⟨c, h1, h2, h3, fun i hi => by rw [h4 i hi, he i hi]⟩
/-- In the midst of a put: page q of number n is there, with so many. -/
structure Mid (w : World) (b r q : Nat) (pages : Int) (g : Int → Int) (n : Int) (l : List (Int × Nat)) : Prop where
  hb : w.heap[b]? = some (.cells #[.int .i64 pages, .map (some r)] 176 (0, 0))
  hm : MapIs w r (fun n : Int => .int .i64 n) encPg l
  hq : lookK n l = some q
  hn : 0 ≤ n ∧ n < pages
  others : ∀ x ∈ l, x.1 ≠ n → 0 ≤ x.1 ∧ x.1 < pages ∧ PageC w x.2 (many (pg g x.1)) (pg g x.1) ∧ 0 < many (pg g x.1)
  nones : ∀ m, lookK m l = none → ∀ i, i < 64 → pg g m i = 0
  page : PageC w q (many (pg g n)) (pg g n)
  nodup : (b :: r :: l.map Prod.snd).Nodup

/-- The end of a put, from the midst of it. -/
theorem shadow_put_mid {w : World} {b r q : Nat} {pages : Int} {g : Int → Int} {l : List (Int × Nat)} {at1 set : Int} (h0 : 0 ≤ at1) (hp : pages ≤ 32) (hm : Mid w b r q pages g (at1 / 64) l)
    (hs0 : 0 ≤ set) {R : World → Prop}
    (hR : ∀ w' l', w'.heap[b]? = some (.cells #[.int .i64 pages, .map (some r)] 176 (0, 0)) → MapIs w' r (fun n : Int => .int .i64 n) encPg l' →
      (∀ x ∈ l', 0 ≤ x.1 ∧ x.1 < pages ∧ PageC w' x.2 (many (pg (putG g at1 set) x.1)) (pg (putG g at1 set) x.1) ∧ 0 < many (pg (putG g at1 set) x.1)) →
      (∀ n, lookK n l' = none → ∀ i, i < 64 → pg (putG g at1 set) n i = 0) → (l'.map Prod.snd).Sublist (l.map Prod.snd) → Chg [r, q] w w' → R w') :
    ∃ J2 : Unit → World → Prop, (∀ (s3 : Unit) (w2 : World), J2 s3 w2 → ∃ J3 : Unit → World → Prop, (∀ (s4 : Unit) (w3 : World), J3 s4 w3 → ∃ a2 : Addr, some (⟨q, 0, none⟩ : Addr) = some a2 ∧ (0 ≤ at1 % 64 ∧ at1 % 64 < 64 ∧ ((∃ o : Value, w3.cell? ((a2.add 1).add ((at1 % 64).toNat * 1)) = some o) ∧ w3.frozen? ((a2.add 1).add ((at1 % 64).toNat * 1)) = false ∧ ∀ w4 : World, w4 = World.setCell w3 ((a2.add 1).add ((at1 % 64).toNat * 1)) (.int .u32 set) → (∃ a3 : Addr, some (⟨q, 0, none⟩ : Addr) = some a3 ∧ (∃ (t2 : Int), w4.cell? a3 = some (.int .i64 t2) ∧ (((t2 == 0) = true → ∃ a4 : Addr, some (⟨b, 0, none⟩ : Addr) = some a4 ∧ (∃ (t3 : Option Nat), w4.cell? (a4.add 1) = some (.map t3) ∧ (∃ w5 : World, (Builtin.delete_ #[173, 3] 0 #[.map t3, .int .i64 (at1 / 64)]).run Try.prog w4 = .ok (.tuple #[]) w5 ∧ (R w5)))) ∧ ((t2 == 0) = false → R w4))))))) ∧ (((!(set == 0)) = true → ∃ a5 : Addr, some (⟨q, 0, none⟩ : Addr) = some a5 ∧ (∃ (t4 : Int), w2.cell? a5 = some (.int .i64 t4) ∧ (∃ a6 : Addr, some (⟨q, 0, none⟩ : Addr) = some a6 ∧ ((∃ o : Value, w2.cell? a6 = some o) ∧ w2.frozen? a6 = false ∧ ∀ w6 : World, w6 = World.setCell w2 a6 (.int .i64 (IntKind.wrap .i64 (t4 + 1))) → (J3 () w6))))) ∧ ((!(set == 0)) = false → J3 () w2))) ∧ (∃ a7 : Addr, some (⟨q, 0, none⟩ : Addr) = some a7 ∧ (0 ≤ at1 % 64 ∧ at1 % 64 < 64 ∧ (∃ (t5 : Int), w.cell? ((a7.add 1).add ((at1 % 64).toNat * 1)) = some (.int .u32 t5) ∧ (((!(t5 == 0)) = true → ∃ a8 : Addr, some (⟨q, 0, none⟩ : Addr) = some a8 ∧ (∃ (t6 : Int), w.cell? a8 = some (.int .i64 t6) ∧ (∃ a9 : Addr, some (⟨q, 0, none⟩ : Addr) = some a9 ∧ ((∃ o : Value, w.cell? a9 = some o) ∧ w.frozen? a9 = false ∧ ∀ w7 : World, w7 = World.setCell w a9 (.int .i64 (IntKind.wrap .i64 (t6 - 1))) → (J2 () w7))))) ∧ ((!(t5 == 0)) = false → J2 () w))))) := by
  obtain ⟨hb, hmap, hq, hn, others, nones, page, nodup⟩ := hm
  have hi : (at1 % 64).toNat < 64 := by omega
  have hmany64 : many (pg g (at1 / 64)) ≤ 64 := by
    have := List.countP_le_length (p := fun i => pg g (at1 / 64) i != 0) (l := List.range 64)
    simpa [many] using this
  have hset := many_set (pg g (at1 / 64)) (fun i => if i = (at1 % 64).toNat then set else pg g (at1 / 64) i) hi (fun j hj => by simp [hj])
  simp only [if_true, pg_at] at hset
  have hcong : many (pg (putG g at1 set) (at1 / 64)) = many (fun i => if i = (at1 % 64).toNat then set else pg g (at1 / 64) i) := many_congr fun i hi => pg_put_same g at1 set i hi
  -- the count behind the two steps
  have hcell : ∀ {w2 : World} {k : Int}, PageC w2 q k (pg g (at1 / 64)) → ∀ (v : Int) {K : World → Prop}, (∀ w', PageC w' q v (pg g (at1 / 64)) → Chg [q] w2 w' → K w') →
      (∃ u : Value, w2.cell? (⟨q, 0, none⟩ : Addr) = some u) ∧ w2.frozen? (⟨q, 0, none⟩ : Addr) = false ∧ ∀ w7, w7 = World.setCell w2 (⟨q, 0, none⟩ : Addr) (.int .i64 v) → K w7 := by
    intro w2 k hpc v K hK
    obtain ⟨c, hc, hsz, hc0, hcs⟩ := hpc
    refine v_set0 hc (by omega) fun w' h' c' _ => hK w' ⟨_, h', by simpa using hsz, by simp [hsz], fun i hi => ?_⟩ c'
    rw [Array.getElem?_setIfInBounds_ne (by omega)]; exact hcs i hi
  have hread : ∀ {w2 : World} {k : Int}, PageC w2 q k (pg g (at1 / 64)) → w2.cell? (⟨q, 0, none⟩ : Addr) = some (.int .i64 k) := by
    intro w2 k hpc
    obtain ⟨c, hc, hsz, hc0, hcs⟩ := hpc
    rw [cell_of hc]; exact hc0
  refine ⟨fun _ w2 => Chg [q] w w2 ∧ PageC w2 q ((many (pg g (at1 / 64)) : Int) - if g at1 = 0 then 0 else 1) (pg g (at1 / 64)), ?_, ?_⟩
  rotate_left
  · refine ⟨_, rfl, by omega, by omega, g at1, ?_, fun hne => ?_, fun he => ?_⟩
    · obtain ⟨c, hc, hsz, hc0, hcs⟩ := page
      rw [add_at, add_at, cell_of hc, Nat.mul_one]
      have := hcs (at1 % 64).toNat hi
      simp only [pg_at] at this
      simpa using this
    · have hne' : g at1 ≠ 0 := by simpa using hne
      refine ⟨_, rfl, _, hread page, _, rfl, ?_⟩
      rw [wr (by omega) (by omega)]
      exact hcell page _ fun w' hp' hc' => ⟨hc', by rw [if_neg hne']; exact hp'⟩
    · have he' : g at1 = 0 := by simpa using he
      exact ⟨Chg.refl _ _, by rw [if_pos he']; simpa using page⟩
  rintro _ w2 ⟨c2, p2⟩
  have hposs : g at1 ≠ 0 → 0 < many (pg g (at1 / 64)) := fun h => many_pos hi (by rw [pg_at]; exact h)
  refine ⟨fun _ w3 => Chg [q] w w3 ∧ PageC w3 q (many (pg (putG g at1 set) (at1 / 64))) (pg g (at1 / 64)), ?_, ?_⟩
  rotate_left
  · refine ⟨fun hne => ?_, fun he => ?_⟩
    · have hne' : set ≠ 0 := by simpa using hne
      refine ⟨_, rfl, _, hread p2, _, rfl, ?_⟩
      rw [wr (by split <;> omega) (by split <;> omega)]
      refine hcell p2 _ fun w' hp' hc' => ⟨c2.trans hc' (fun i hi _ => hi), ?_⟩
      rw [hcong]
      have : (many (pg g (at1 / 64)) : Int) - (if g at1 = 0 then 0 else 1) + 1 = (many (fun i => if i = (at1 % 64).toNat then set else pg g (at1 / 64) i) : Nat) := by
        rw [if_neg hne'] at hset
        split <;> rename_i hg
        · rw [if_pos hg] at hset; omega
        · rw [if_neg hg] at hset; omega
      rw [← this]; exact hp'
    · have he' : set = 0 := by simpa using he
      refine ⟨c2, ?_⟩
      rw [hcong]
      have : (many (pg g (at1 / 64)) : Int) - (if g at1 = 0 then 0 else 1) = (many (fun i => if i = (at1 % 64).toNat then set else pg g (at1 / 64) i) : Nat) := by
        rw [if_pos he'] at hset
        split <;> rename_i hg
        · rw [if_pos hg] at hset; omega
        · rw [if_neg hg] at hset; omega
      rw [← this]; exact p2
  rintro _ w3 ⟨c3, p3⟩
  refine ⟨_, rfl, by omega, by omega, ?_⟩
  obtain ⟨c, hc, hsz, hc0, hcs⟩ := p3
  rw [Nat.mul_one, add_at]
  refine v_set hc (by omega) fun w4 h4 c4 _ => ?_
  have p4 : PageC w4 q (many (pg (putG g at1 set) (at1 / 64))) (pg (putG g at1 set) (at1 / 64)) := by
    refine ⟨_, h4, by simpa using hsz, ?_, fun i hi' => ?_⟩
    · rw [Array.getElem?_setIfInBounds_ne (by omega)]; exact hc0
    · rw [pg_put_same g at1 set i hi']
      by_cases he : i = (at1 % 64).toNat
      · subst he
        rw [Array.getElem?_setIfInBounds_self_of_lt (by omega), if_pos rfl]
      · rw [Array.getElem?_setIfInBounds_ne (by omega), if_neg he]; exact hcs i hi'
  have c04 : Chg [q] w w4 := c3.trans c4 (fun i hi _ => hi)
  have hqmem : (at1 / 64, q) ∈ l := lookK_mem hq
  have hqin : q ∈ l.map Prod.snd := List.mem_map.2 ⟨_, hqmem, rfl⟩
  simp only [List.nodup_cons, List.mem_cons, not_or] at nodup
  obtain ⟨⟨n1, n2⟩, n3, n4⟩ := nodup
  have hqb : b ≠ q := fun e => n2 (e ▸ hqin)
  have hqr : r ≠ q := fun e => n3 (e ▸ hqin)
  have hb4 := c04.obj (by simpa using hqb) hb
  have hmap4 := hmap.chg c04 (by simpa using hqr)
  have hkeys : (l.map Prod.fst).Nodup := by obtain ⟨_, _, _, _, h, _⟩ := hmap; exact h
  have hdist : ∀ x ∈ l, x.1 ≠ at1 / 64 → x.2 ≠ q := by
    intro x hx hne he
    obtain ⟨i, hi'⟩ := List.getElem?_of_mem hx
    obtain ⟨j, hj'⟩ := List.getElem?_of_mem hqmem
    have e1 : (l.map Prod.snd)[i]? = (l.map Prod.snd)[j]? := by simp [hi', hj', he]
    have hlt : i < (l.map Prod.snd).length := by have := (List.getElem?_eq_some_iff.1 hi').1; simpa using this
    have := (List.getElem?_inj hlt n4).1 e1
    subst this
    rw [hi'] at hj'
    exact hne (by cases hj'; rfl)
  have oth4 : ∀ x ∈ l, x.1 ≠ at1 / 64 → 0 ≤ x.1 ∧ x.1 < pages ∧ PageC w4 x.2 (many (pg (putG g at1 set) x.1)) (pg (putG g at1 set) x.1) ∧ 0 < many (pg (putG g at1 set) x.1) := by
    intro x hx hne
    obtain ⟨a1, a2, a3, a4⟩ := others x hx hne
    have e : many (pg (putG g at1 set) x.1) = many (pg g x.1) := many_congr fun i hi => pg_put_other g at1 set hne i hi
    rw [e]
    exact ⟨a1, a2, (a3.chg c04 (by simpa using hdist x hx hne)).congr (fun i hi => (pg_put_other g at1 set hne i hi).symm), a4⟩
  have p4r : w4.cell? (⟨q, 0, none⟩ : Addr) = some (.int .i64 (many (pg (putG g at1 set) (at1 / 64)))) := by
    obtain ⟨c, hc, _, hc0, _⟩ := p4
    rw [cell_of hc]; exact hc0
  refine ⟨_, rfl, _, p4r, fun hz => ?_, fun hz => ?_⟩
  · have hz' : many (pg (putG g at1 set) (at1 / 64)) = 0 := by simpa using hz
    obtain ⟨w5, hd, c5, hsz5, hm5⟩ := hmap4.delete (P := Try.prog) (T := 173) u173 keyInt (at1 / 64) (ty := 0)
    refine ⟨_, rfl, some r, by rw [add_at, cell_of hb4]; rfl, w5, hd, ?_⟩
    refine hR w5 _ (c5.obj (by simpa using n1) hb4) hm5 ?_ ?_ ?_ ?_
    · intro x hx
      have hx' := List.mem_filter.1 hx
      have hne : x.1 ≠ at1 / 64 := by simpa using hx'.2
      obtain ⟨a1, a2, a3, a4⟩ := oth4 x hx'.1 hne
      refine ⟨a1, a2, a3.chg c5 ?_, a4⟩
      have : x.2 ∈ l.map Prod.snd := List.mem_map.2 ⟨x, hx'.1, rfl⟩
      simp; exact fun e => n3 (e ▸ this)
    · intro n hnn i hi'
      rw [lookK_del] at hnn
      by_cases he : n = at1 / 64
      · subst he; exact many_zero hz' hi'
      · rw [if_neg he] at hnn
        rw [pg_put_other g at1 set he i hi']; exact nones n hnn i hi'
    · exact List.filter_sublist.map _
    · exact (c04.mono (by simp)).trans c5 (by simp)
  · have hz' : many (pg (putG g at1 set) (at1 / 64)) ≠ 0 := by simpa using hz
    refine hR w4 l hb4 hmap4 ?_ ?_ (List.Sublist.refl _) (c04.mono (by simp))
    · intro x hx
      by_cases hne : x.1 = at1 / 64
      · have : x = (at1 / 64, q) := by
          have h1 : lookK x.1 l = some x.2 := (lookK_iff hkeys).2 hx
          rw [hne, hq] at h1
          exact Prod.ext hne (by simpa using h1.symm)
        subst this
        exact ⟨hn.1, hn.2, p4, by simp only []; omega⟩
      · exact oth4 x hx hne
    · intro n hnn i hi'
      have he : n ≠ at1 / 64 := fun e => by rw [e, hq] at hnn; cases hnn
      rw [pg_put_other g at1 set he i hi']; exact nones n hnn i hi'

theorem shadow_put {w : World} {b : Nat} {pages : Int} {g : Int → Int} {fp : List Nat} (h : ShadowAt w b pages g fp) {at1 set : Int} (h0 : 0 ≤ at1) (hs : at1 < 64 * pages) (hs0 : 0 ≤ set) (hs1 : set < 65536) :
    Calls Try.prog 92 #[.pointer (some ⟨b, 0, none⟩), .int .i64 at1, .int .u32 set] w fun e w' => e = .returned (.tuple #[]) ∧
      (∃ fp', ShadowAt w' b pages (putG g at1 set) fp' ∧ Chg fp w w' ∧ ∀ i ∈ fp', i ∈ fp ∨ w.heap.size ≤ i) := by
  have hp := h.pages2
  have hall := h
  obtain ⟨r, l, h1, h2, h3, h4, rfl⟩ := h.there
  have hnd := h.nodup
  refine ok_shadow_Shadow_put _ _ _ _ _ ?_
  unfold V_shadow_Shadow_put
  rw [div64 h0, mod64 h0, wr (by omega) (by omega)]
  have hl := h2.lookup (P := Try.prog) u173 keyInt zero174 (at1 / 64) true
  simp only [if_true] at hl
  have heach : ∀ i, 0 ≤ putG g at1 set i ∧ putG g at1 set i < 65536 := by
    intro i; unfold putG; split
    · exact ⟨hs0, hs1⟩
    · exact h.each i
  refine ⟨_, rfl, some r, by rw [add_at, cell_of h1]; rfl, ?_⟩
  cases hk : lookK (at1 / 64) l with
  | some q =>
    rw [hk] at hl
    refine ⟨some ⟨q, 0, none⟩, true, hl, fun s2 w1 => s2 = some ⟨q, 0, none⟩ ∧ w1 = w, ?_, fun h => by simp at h, fun _ => ⟨rfl, rfl⟩⟩
    rintro _ _ ⟨rfl, rfl⟩
    have hq := h3 _ (lookK_mem hk)
    refine shadow_put_mid h0 hp ⟨h1, h2, hk, ⟨by omega, by omega⟩, fun x hx _ => h3 x hx, h4, hq.2.2.1, hnd⟩ hs0 fun w' l' e1 e2 e3 e4 e5 e6 => ?_
    have hqin : q ∈ l.map Prod.snd := List.mem_map.2 ⟨_, lookK_mem hk, rfl⟩
    exact ⟨_, ⟨⟨r, l', e1, e2, e3, e4, rfl⟩, hnd.sublist ((e5.cons_cons _).cons_cons _), h.pages1, hp, heach⟩,
      e6.mono (fun i hi _ => by simp at hi ⊢; rcases hi with rfl | rfl
                                · simp
                                · right; right; simpa using hqin), fun i hi => by
        simp only [List.mem_cons] at hi ⊢
        rcases hi with rfl | rfl | hi
        · simp
        · simp
        · exact .inl (.inr (.inr (e5.subset hi)))⟩
  | none =>
    rw [hk] at hl
    have hg0 : g at1 = 0 := by rw [← pg_at g]; exact h4 _ hk _ (by omega)
    refine ⟨none, false, hl, fun s2 w1 => ∃ q l1, s2 = some ⟨q, 0, none⟩ ∧ Mid w1 b r q pages g (at1 / 64) l1 ∧ Chg [r] w w1 ∧ w.heap.size ≤ q ∧ l1 = l ++ [(at1 / 64, q)], ?_, fun _ => ⟨fun hz => ?_, fun hz => ?_⟩, fun h => by simp at h⟩
    · rintro _ w1 ⟨q, l1, rfl, hmid, c1, hq, rfl⟩
      refine shadow_put_mid h0 hp hmid hs0 fun w' l' e1 e2 e3 e4 e5 e6 => ?_
      have hnd' := hmid.nodup
      refine ⟨_, ⟨⟨r, l', e1, e2, e3, e4, rfl⟩, hnd'.sublist ((e5.cons_cons _).cons_cons _), h.pages1, hp, heach⟩, ?_, fun i hi => ?_⟩
      · exact (c1.mono (by simp)).trans e6 (fun i hi hlt => by
          simp at hi
          rcases hi with rfl | rfl
          · simp
          · omega)
      · simp only [List.mem_cons] at hi ⊢
        rcases hi with rfl | rfl | hi
        · simp
        · simp
        · have := e5.subset hi
          simp only [List.map_append, List.mem_append, List.map_cons, List.map_nil, List.mem_singleton] at this
          rcases this with h | rfl
          · exact .inl (.inr (.inr h))
          · exact .inr hq
    · have hz' : set = 0 := by simpa using hz
      refine ⟨_, ?_, Chg.refl _ _, fun i hi => .inl hi⟩
      have : putG g at1 set = g := by
        funext i; unfold putG; split
        · rename_i e; rw [e, hz', hg0]
        · rfl
      rw [this]; exact hall
    · have hz' : set ≠ 0 := by simpa using hz
      refine v_alloc fun b1 w8 e8 h8 c8 => ?_
      have h18 := c8.obj (by simp) h1
      obtain ⟨w9, hu, c9, hsz9, hm9⟩ := (h2.chg c8 (by simp)).update (P := Try.prog) (T := 173) u173 keyInt (at1 / 64) b1
      refine ⟨_, rfl, some r, by rw [add_at, cell_of h18]; rfl, w9, hu, b1, _, rfl, ?_, ?_, by omega, rfl⟩
      rotate_left
      · exact (c8.nil).trans c9 (fun i hi _ => hi)
      have hup : upd (at1 / 64) b1 l = l ++ [(at1 / 64, b1)] := by simp [upd, hk]
      rw [hup] at hm9
      simp only [List.nodup_cons, List.mem_cons, not_or] at hnd
      obtain ⟨⟨n1, n2⟩, n3, n4⟩ := hnd
      have hlt := hall.lt
      simp only [List.mem_cons, forall_eq_or_imp] at hlt
      obtain ⟨l1, l2, l3⟩ := hlt
      have c09 : Chg [r] w w9 := (c8.nil).trans c9 (fun i hi _ => hi)
      refine ⟨c9.obj (by simpa using n1) h18, hm9, ?_, ⟨by omega, by omega⟩, ?_, ?_, ?_, ?_⟩
      · rw [lookK_append, hk]; simp [lookK_cons]
      · intro x hx hne
        simp only [List.mem_append, List.mem_singleton] at hx
        rcases hx with hx | rfl
        · obtain ⟨a1, a2, a3, a4⟩ := h3 x hx
          have : x.2 ∈ l.map Prod.snd := List.mem_map.2 ⟨x, hx, rfl⟩
          exact ⟨a1, a2, a3.chg c09 (by simp; exact fun e => n3 (e ▸ this)), a4⟩
        · exact absurd rfl hne
      · intro m hmn i hi
        rw [lookK_append] at hmn
        exact h4 m (by simpa using (Option.or_eq_none_iff.1 hmn).1) i hi
      · have e0 : many (pg g (at1 / 64)) = 0 := many_none fun i hi => h4 _ hk i hi
        rw [e0]
        refine (PageC.chg (f := [r]) (w := w8) ?_ c9 (by simp; omega))
        refine ⟨_, h8, by simp [z181], by simp [z181], fun i hi => ?_⟩
        rw [h4 _ hk i hi]
        show (Value.int .i64 0 :: List.replicate 64 (Value.int .u32 0)).toArray[1 + i]? = _
        rw [List.getElem?_toArray, Nat.add_comm 1 i, List.getElem?_cons_succ, List.getElem?_replicate, if_pos hi]
      · simp only [List.map_append, List.map_cons, List.map_nil, List.nodup_cons, List.mem_cons, List.mem_append, List.mem_singleton, not_or]
        refine ⟨⟨n1, n2, ?_, by simp⟩, ⟨n3, ?_, by simp⟩, ?_⟩
        · omega
        · omega
        · rw [List.nodup_append]
          exact ⟨n4, by simp, fun a ha c hc e => by simp at hc; subst hc; subst e; exact absurd (l3 _ ha) (by omega)⟩
end Go.Proofs.Ytkfncibmfcdokaa
