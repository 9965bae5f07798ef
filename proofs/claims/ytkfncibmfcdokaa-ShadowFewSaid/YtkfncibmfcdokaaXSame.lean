/- Shadows: Same. -/
import Derived.Test.YtkfncibmfcdokaaXShadow3
import Derived.Test.YtkfncibmfcdokaaXGsame
set_option linter.unusedVariables false
set_option linter.unusedSimpArgs false
namespace Go.Proofs.Ytkfncibmfcdokaa
open Go Go.RowKit Go.X Go.XR
theorem eq179 (e : Nat) (he : ∀ a b w, (Op.equalIn e 22 (.int .u32 a) (.int .u32 b)).run Try.prog w = .ok (a == b) w) (xs ys : Array Value) (s t : Nat → Int) (hx : ∀ i, i < 64 → xs[i]? = some (.int .u32 (s i))) (hy : ∀ i, i < 64 → ys[i]? = some (.int .u32 (t i))) (w : World) :
    (Op.equalIn (e + 1) 179 (.agg xs) (.agg ys)).run Try.prog w = .ok ((List.range 64).all fun i => s i == t i) w := by
  have hu : Try.prog.underlying 179 = some (.array 64 22) := by kernel_rfl
  have hs : ∀ w, (Go.sizeOf 22).run Try.prog w = .ok 1 w := fun w => by kernel_rfl
  have ha : ∀ w, (isAgg 22).run Try.prog w = .ok false w := fun w => by kernel_rfl
  have hp : ∀ (zs : Array Value) (z : Value) (i : Nat), zs[i]? = some z → ∀ w, (part 22 zs (i * 1)).run Try.prog w = .ok z w := fun zs z i h w => by
    simp [part, ha, Result.andThen, h]
  have e0 : List.range' 0 [:64].size = List.range 64 := by decide
  simp only [Op.equalIn, Sem.run_bind, run_underlying hu, Result.andThen_ok, hs, Std.Legacy.Range.forIn_eq_forIn_range', e0]
  have hl : ∀ i ∈ List.range 64, i < 64 := fun i hi => List.mem_range.1 hi
  generalize List.range 64 = l at hl
  induction l with
  | nil => simp
  | cons i l ih =>
    have hi := hl i (by simp)
    have ih := ih fun j hj => hl j (by simp [hj])
    simp only [List.forIn_cons, Sem.run_bind, hp _ _ _ (hx i hi), hp _ _ _ (hy i hi), he, Result.andThen_ok]
    cases hb : (s i == t i) with
    | false => simp [hb]
    | true => simp only [hb, List.all_cons, Bool.true_and]; simpa using ih
theorem eq181 {x y : Operand} (c1 c2 : Array Value) (a0 b0 : Int) (s t : Nat → Int) (l1 : c1.size = 65) (l2 : c2.size = 65) (h10 : c1[0]? = some (.int .i64 a0)) (h20 : c2[0]? = some (.int .i64 b0))
    (h1 : ∀ i, i < 64 → c1[1 + i]? = some (.int .u32 (s i))) (h2 : ∀ i, i < 64 → c2[1 + i]? = some (.int .u32 (t i))) (w : World) :
    ((do eqGuard .eql 181 x y (.agg c1) (.agg c2); binOp .eql 181 (.agg c1) (.agg c2) : Sem Value)).run Try.prog w = .ok (.bool ((a0 == b0) && (List.range 64).all fun i => s i == t i)) w := by
  have g : (eqGuard .eql 181 x y (.agg c1) (.agg c2)).run Try.prog w = .ok () w := run_eqGuard_agg w .eql 181 x y c1 c2 (by kernel_rfl)
  have nm : ∀ f : Field, (f.name == "_") = false → f.name ≠ "_" := fun f h e => by rw [e] at h; simp at h
  obtain ⟨f1, f2, hf, t1, o1, n1, t2, o2, n2⟩ : ∃ f1 f2 : Field, (Try.prog.fieldsOf 181).toList = [f1, f2] ∧ f1.type = 178 ∧ f1.offset = 0 ∧ (f1.name == "_") = false ∧ f2.type = 179 ∧ f2.offset = 1 ∧ (f2.name == "_") = false :=
    ⟨(Try.prog.fieldsOf 181)[0]!, (Try.prog.fieldsOf 181)[1]!, by kernel_rfl, by kernel_rfl, by kernel_rfl, by kernel_rfl, by kernel_rfl, by kernel_rfl, by kernel_rfl⟩
  obtain ⟨f3, hf2, t3, o3, n3⟩ : ∃ f3 : Field, (Try.prog.fieldsOf 178).toList = [f3] ∧ f3.type = 3 ∧ f3.offset = 0 ∧ (f3.name == "_") = false :=
    ⟨(Try.prog.fieldsOf 178)[0]!, by kernel_rfl, by kernel_rfl, by kernel_rfl, by kernel_rfl⟩
  have n1 := nm f1 n1
  have n2 := nm f2 n2
  have n3 := nm f3 n3
  have e1 : ∀ w, (part 178 c1 0).run Try.prog w = .ok (.agg (c1.extract 0 1)) w := fun w => by
    have ha : (isAgg 178).run Try.prog w = .ok true w := by kernel_rfl
    have hs : (Go.sizeOf 178).run Try.prog w = .ok 1 w := by kernel_rfl
    simp [part, ha, hs, Result.andThen]
  have e2 : ∀ w, (part 178 c2 0).run Try.prog w = .ok (.agg (c2.extract 0 1)) w := fun w => by
    have ha : (isAgg 178).run Try.prog w = .ok true w := by kernel_rfl
    have hs : (Go.sizeOf 178).run Try.prog w = .ok 1 w := by kernel_rfl
    simp [part, ha, hs, Result.andThen]
  have e3 : ∀ w, (part 179 c1 1).run Try.prog w = .ok (.agg (c1.extract 1 65)) w := fun w => by
    have ha : (isAgg 179).run Try.prog w = .ok true w := by kernel_rfl
    have hs : (Go.sizeOf 179).run Try.prog w = .ok 64 w := by kernel_rfl
    simp [part, ha, hs, Result.andThen]
  have e4 : ∀ w, (part 179 c2 1).run Try.prog w = .ok (.agg (c2.extract 1 65)) w := fun w => by
    have ha : (isAgg 179).run Try.prog w = .ok true w := by kernel_rfl
    have hs : (Go.sizeOf 179).run Try.prog w = .ok 64 w := by kernel_rfl
    simp [part, ha, hs, Result.andThen]
  have p1 : ∀ (c : Array Value) (z : Int), c[0]? = some (.int .i64 z) → ∀ w, (part 3 (c.extract 0 1) 0).run Try.prog w = .ok (.int .i64 z) w := fun c z hc w => by
    have ha : (isAgg 3).run Try.prog w = .ok false w := by kernel_rfl
    have : (c.extract 0 1)[0]? = some (.int .i64 z) := by
      have : 0 < c.size := (Array.getElem?_eq_some_iff.1 hc).1
      rw [Array.getElem?_extract]
      rw [if_pos (by omega)]; exact hc
    simp [part, ha, Result.andThen, this]
  have q1 : ∀ d w, (Op.equalIn (d + 2) 178 (.agg (c1.extract 0 1)) (.agg (c2.extract 0 1))).run Try.prog w = .ok (a0 == b0) w := fun d w => by
    rw [run_equalIn_agg w (d + 1) 178 _ _ (by kernel_rfl) (by kernel_rfl), hf2]
    simp only [Op.eqFields, Sem.run_bind, Sem.run_ite, if_pos n3, t3, o3, p1 c1 a0 h10, p1 c2 b0 h20, Result.andThen_ok, run_equalIn_int w d 3 .i64 .i64 a0 b0 (show Try.prog.underlying 3 = some (.int .i64) by kernel_rfl)]
    cases (a0 == b0) <;> simp
  have q2 : ∀ d w, (Op.equalIn (d + 2) 179 (.agg (c1.extract 1 65)) (.agg (c2.extract 1 65))).run Try.prog w = .ok ((List.range 64).all fun i => s i == t i) w := fun d w => by
    refine eq179 (d + 1) (fun a b w => run_equalIn_int w d 22 .u32 .u32 a b (show Try.prog.underlying 22 = some (.int .u32) by kernel_rfl)) _ _ s t (fun i hi => ?_) (fun i hi => ?_) w
    · rw [Array.getElem?_extract, if_pos (by omega), h1 i hi]
    · rw [Array.getElem?_extract, if_pos (by omega), h2 i hi]
  have E : (Op.equalIn 10000 181 (.agg c1) (.agg c2)).run Try.prog w = .ok ((a0 == b0) && (List.range 64).all fun i => s i == t i) w := by
    rw [show (10000 : Nat) = 9997 + 2 + 1 from rfl, run_equalIn_agg w _ 181 _ _ (by kernel_rfl) (by kernel_rfl), hf]
    simp only [Op.eqFields, Sem.run_bind, Sem.run_ite, if_pos n1, if_pos n2, t1, o1, t2, o2, e1, e2, e3, e4, q1, q2, Result.andThen_ok]
    cases (a0 == b0) <;> cases ((List.range 64).all fun i => s i == t i) <;> simp
  simp only [Sem.run_bind, g, Result.andThen_ok, run_eql_struct, E, Result.andThen]

theorem all_iff {s t : Nat → Int} : ((List.range 64).all fun i => s i == t i) = true ↔ ∀ i, i < 64 → s i = t i := by
  rw [List.all_eq_true]
  constructor
  · intro h i hi; simpa using h i (List.mem_range.2 hi)
  · intro h i hi; simpa using h i (List.mem_range.1 hi)

theorem alike97 {w : World} {q1 q2 : Nat} {s t : Nat → Int} (h1 : PageC w q1 (many s) s) (h2 : PageC w q2 (many t) t) :
    Calls Try.prog 97 #[.pointer (some ⟨q1, 0, none⟩), .pointer (some ⟨q2, 0, none⟩)] w fun e w' => ∃ r : Bool, e = .returned (.bool r) ∧ ((r = true ↔ ∀ i, i < 64 → s i = t i) ∧ Chg [] w w') := by
  refine go_shadow_alike_878 _ _ _ _ ?_
  unfold W_shadow_alike_878
  refine ⟨_, rfl, fun w1 c1 => ?_⟩
  obtain ⟨c, p1, p2, p3, p4⟩ := h1.chg c1 (by simp)
  obtain ⟨d, q1, q2, q3, q4⟩ := h2.chg c1 (by simp)
  refine ⟨c.toList, by simp [p2], cellsAt_of (by simpa using p1), _, rfl, d.toList, by simp [q2], cellsAt_of (by simpa using q1), ((many s : Int) == (many t : Int)) && (List.range 64).all fun i => s i == t i, fun w => ?_, ?_, c1⟩
  · have := eq181 (x := .tmp 7) (y := .tmp 10) c d _ _ s t p2 q2 p3 q3 p4 q4 w
    simpa using this
  · rw [Bool.and_eq_true, all_iff]
    refine ⟨fun h => h.2, fun h => ⟨by rw [many_congr h]; simp, h⟩⟩

theorem equal_pages {w : World} {r1 r2 : Nat} {l1 l2 : List (Int × Nat)} {g1 g2 : Int → Int} (h1 : MapIs w r1 (fun n : Int => .int .i64 n) encPg l1) (h2 : MapIs w r2 (fun n : Int => .int .i64 n) encPg l2)
    (p1 : ∀ x ∈ l1, PageC w x.2 (many (pg g1 x.1)) (pg g1 x.1)) (p2 : ∀ x ∈ l2, PageC w x.2 (many (pg g2 x.1)) (pg g2 x.1)) :
    Calls Try.prog 96 #[.map (some r1), .map (some r2), .func (.func 97) #[] #[]] w fun e w' => ∃ r : Bool, e = .returned (.bool r) ∧ ((r = true ↔ (l1.length = l2.length ∧ ∀ x ∈ l1, (∃ q, lookK x.1 l2 = some q) ∧ ∀ i, i < 64 → pg g1 x.1 i = pg g2 x.1 i)) ∧ Chg [] w w') := by
  refine go_maps_EqualFunc_324 _ _ _ _ _ ?_
  unfold W_maps_EqualFunc_324
  refine ⟨_, map_len h1 _, _, map_len h2 _, fun hb => ?_, fun hb => ?_⟩
  · have : ¬ l1.length = l2.length := by simp at hb; omega
    exact ⟨⟨fun h => (by cases h), fun h => absurd h.1 this⟩, Chg.refl _ _⟩
  have hlen : l1.length = l2.length := by simp at hb; omega
  obtain ⟨it, w1, hrg, c1, hit, hI1⟩ := iter_range (P := Try.prog) (T := 173) h1 u173
  have hlr := h1.lt
  have hlr2 := h2.lt
  have hne : it ≠ r1 := by omega
  have s1 := c1.size
  refine ⟨some ⟨it, 0, none⟩, w1, hrg, fun x w2 => x = false ∧ ∃ done, IterAt w2 it r1 (fun n : Int => .int .i64 n) encPg l1 done ∧ Chg [] w w2 ∧ (∀ x ∈ done, (∃ q, lookK x.1 l2 = some q) ∧ ∀ i, i < 64 → pg g1 x.1 i = pg g2 x.1 i), fun _ w2 => l1.length - seenN w2 it, ⟨rfl, [], hI1, c1, by simp⟩, ?_⟩
  rintro _ w2 ⟨rfl, done, hIt, c2, hd⟩
  rcases iter_next (P := Try.prog) hIt hne keyInt.inj 0 with ⟨hnx, hall⟩ | ⟨k, v, w3, hkl, hnew, hrun, c3, hI3, hent⟩
  · exact ⟨_, false, w2, hnx, rfl, fun h => by simp at h, fun _ => ⟨⟨fun _ => ⟨hlen, fun x hx => hd x (hall x hx)⟩, fun _ => rfl⟩, c2⟩⟩
  have c03 : Chg [] w w3 := c2.trans c3 (fun i hi hlt => by simp at hi; omega)
  have hlk := (h2.chg c03 (by simp)).lookup (P := Try.prog) (T := 173) u173 keyInt (z := .pointer none) (fun _ => by kernel_rfl) k true
  refine ⟨_, true, w3, hrun, rfl, fun _ => ⟨k, some ⟨v, 0, none⟩, hent, (lookK k l2).map fun q => ⟨q, 0, none⟩, (lookK k l2).isSome, ?_, ?_⟩, fun h => by simp at h⟩
  · rw [hlk]
    cases lookK k l2 <;> rfl
  have a1 := hIt.count
  have a2 := hI3.count
  have a3 := hIt.more hkl hnew
  simp at a2
  refine ⟨fun b1 w4 => (b1 = false ↔ ((∃ q, lookK k l2 = some q) ∧ ∀ i, i < 64 → pg g1 k i = pg g2 k i)) ∧ Chg [] w3 w4, ?_, fun hs => ?_, fun hn => ?_⟩
  · rintro b1 w4 ⟨hb1, c4⟩
    refine ⟨fun ht => ?_, fun hf => ?_⟩
    · subst ht
      refine ⟨⟨fun h => (by cases h), fun h => ?_⟩, c03.trans0 c4⟩
      have := hb1.2 (h.2 (k, v) hkl)
      cases this
    · have hok := hb1.1 hf
      have hlt : it < w3.heap.size := hI3.lt
      have a4 : seenN w4 it = seenN w3 it := by unfold seenN; rw [c4.block it hlt (by simp)]
      refine ⟨⟨rfl, done ++ [(k, v)], hI3.chg c4 (by simp) (by simp), c03.trans0 c4, fun x hx => ?_⟩, by simp only []; omega⟩
      rcases List.mem_append.1 hx with h | h
      · exact hd x h
      · simp at h; subst h; exact hok
  · cases hl : lookK k l2 with
    | none => rw [hl] at hs; simp at hs
    | some q =>
      refine .inl ⟨97, #[], Try.f97, rfl, Try.func97, by kernel_rfl, by kernel_rfl, ?_⟩
      refine (alike97 ((p1 _ hkl).chg c03 (by simp)) ((p2 _ (lookK_mem hl)).chg c03 (by simp))).mono ?_
      rintro _ w5 ⟨r, rfl, hr, c5⟩
      refine ⟨r, rfl, ?_, c5⟩
      constructor
      · intro h; exact ⟨⟨q, rfl⟩, hr.1 (by simpa using h)⟩
      · intro h; rw [hr.2 h.2]; rfl
  · cases hl : lookK k l2 with
    | none => exact ⟨⟨fun h => (by cases h), fun ⟨⟨q, h⟩, _⟩ => (by cases h)⟩, Chg.refl _ _⟩
    | some q => rw [hl] at hn; simp at hn

theorem same_iff {w : World} {pages : Int} {ga gb : Int → Int} {la lb : List (Int × Nat)} (na : (la.map Prod.fst).Nodup) (nb : (lb.map Prod.fst).Nodup)
    (ha3 : ∀ x ∈ la, 0 ≤ x.1 ∧ x.1 < pages ∧ PageC w x.2 (many (pg ga x.1)) (pg ga x.1) ∧ 0 < many (pg ga x.1)) (ha4 : ∀ n, lookK n la = none → ∀ i, i < 64 → pg ga n i = 0)
    (hb3 : ∀ x ∈ lb, 0 ≤ x.1 ∧ x.1 < pages ∧ PageC w x.2 (many (pg gb x.1)) (pg gb x.1) ∧ 0 < many (pg gb x.1)) (hb4 : ∀ n, lookK n lb = none → ∀ i, i < 64 → pg gb n i = 0) :
    (la.length = lb.length ∧ ∀ x ∈ la, (∃ q, lookK x.1 lb = some q) ∧ ∀ i, i < 64 → pg ga x.1 i = pg gb x.1 i) ↔ ∀ i, ga i = gb i := by
  constructor
  · rintro ⟨hl, hx⟩ i
    have e : ∀ (g : Int → Int), pg g (i / 64) (i % 64).toNat = g i := fun g => by unfold pg; congr 1; omega
    have hi : (i % 64).toNat < 64 := by omega
    rw [← e ga, ← e gb]
    cases h : lookK (i / 64) la with
    | some q => exact (hx _ (lookK_mem h)).2 _ hi
    | none =>
      rw [ha4 _ h _ hi]
      cases h' : lookK (i / 64) lb with
      | none => exact (hb4 _ h' _ hi).symm
      | some q =>
        have := nodup_sub_length (a := i / 64 :: la.map Prod.fst) (b := lb.map Prod.fst) (List.nodup_cons.2 ⟨fun hm => by
          obtain ⟨x, hx, e⟩ := List.mem_map.1 hm
          exact lookK_none.1 h x hx e, na⟩) (fun y hy => by
          rcases List.mem_cons.1 hy with rfl | hy
          · exact List.mem_map.2 ⟨_, lookK_mem h', rfl⟩
          · obtain ⟨x, hx', rfl⟩ := List.mem_map.1 hy
            obtain ⟨⟨q, hq⟩, _⟩ := hx x hx'
            exact List.mem_map.2 ⟨_, lookK_mem hq, rfl⟩)
        simp at this; omega
  · intro h
    have e : ga = gb := funext h
    subst e
    refine ⟨?_, fun x hx => ⟨?_, fun _ _ => rfl⟩⟩
    · have e1 := pages_len na ha3 ha4
      have e2 := pages_len nb hb3 hb4
      omega
    · have e1 := priv_look ha3 ha4 x.1
      have e2 := priv_look hb3 hb4 x.1
      rw [← e1] at e2
      cases hl : lookK x.1 la with
      | none => exact absurd rfl (lookK_none.1 hl x hx)
      | some q =>
        rw [hl] at e2
        exact Option.isSome_iff_exists.1 e2

theorem shadow_same {w : World} {a b : Nat} {pa pb : Int} {ga gb : Int → Int} {fa fb : List Nat} (ha : ShadowAt w a pa ga fa) (hb : ShadowAt w b pb gb fb) :
    Calls Try.prog 53 #[.pointer (some ⟨a, 0, none⟩), .pointer (some ⟨b, 0, none⟩)] w fun e w' => ∃ r : Bool, e = .returned (.bool r) ∧ ((r = true ↔ pa = pb ∧ ∀ i, ga i = gb i) ∧ Chg [] w w') := by
  refine go_shadow_Same _ _ _ _ ?_
  unfold W_shadow_Same
  refine (shadow_none ha).mono ?_
  rintro _ w1 ⟨_, rfl, rfl, hw⟩
  subst w1
  refine ⟨_, rfl, fun b2 w' => b2 = false ∧ w' = w, ?_, fun _ => ?_, fun hf => by simp at hf⟩
  rotate_left
  · refine (shadow_none hb).mono ?_
    rintro _ w1 ⟨_, rfl, rfl, hw⟩
    subst w1
    exact ⟨_, rfl, rfl, rfl⟩
  rintro _ w2 ⟨rfl, hw⟩
  subst w2
  refine ⟨fun h => by simp at h, fun _ => ⟨_, rfl, fun w7 c7 => ?_⟩⟩
  obtain ⟨ra, la, a1, a2, a3, a4, rfl⟩ := (ha.chg c7 (by simp)).there
  obtain ⟨rb, lb, b1, b2, b3, b4, rfl⟩ := (hb.chg c7 (by simp)).there
  refine ⟨pa, by rw [cell_of a1]; rfl, _, rfl, pb, by rw [cell_of b1]; rfl, fun b4 w8 => (b4 = true ↔ pa = pb ∧ ∀ i, ga i = gb i) ∧ Chg [] w w8, fun _ _ h => h, fun he => ?_, fun hne => ?_⟩
  · have he' : pa = pb := by simpa using he
    subst he'
    refine ⟨some ra, by rw [add_at, cell_of a1]; rfl, some rb, by rw [add_at, cell_of b1]; rfl, ?_⟩
    refine (equal_pages a2 b2 (fun x hx => (a3 x hx).2.2.1) (fun x hx => (b3 x hx).2.2.1)).mono ?_
    rintro _ w9 ⟨r, rfl, hr, c9⟩
    obtain ⟨_, _, _, _, na, _⟩ := a2
    obtain ⟨_, _, _, _, nb, _⟩ := b2
    refine ⟨r, rfl, ?_, c7.trans0 c9⟩
    rw [hr, same_iff na nb a3 a4 b3 b4]
    simp
  · have hne' : pa ≠ pb := by simpa using hne
    exact ⟨⟨fun h => (by cases h), fun h => absurd h.1 hne'⟩, c7⟩
end Go.Proofs.Ytkfncibmfcdokaa
