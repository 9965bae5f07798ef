/- Going over a map: the engine's rule for an entry; what the steps yield, by the kit's laws. -/
import Derived.Test.YtkfncibmfcdokaaXHeap
import Derived.Maps.RangeRun
set_option linter.unusedVariables false
set_option linter.unusedSimpArgs false
set_option linter.unusedSectionVars false
namespace Go.X
open Go Go.RowKit Go.MapKept Go.ChangeMaps
section
variable {P : Program} {N : Nat} {D : List Deferred} {E : Env} {w w' : World} {d : Option Nat} {T : TypeId} {p : String} {af : Array Edge} {g : Option (Nat × Bool)} {S : World → Prop} {v : Value}
theorem Rd.entry {x : Operand} {vx : Value} (hx : opd E x = some vx) (hl : ∀ w, S w → (Instr.entry vx).run P w = .ok v w) : Rd P N D E ⟨d, .entry x, T, p, af, g⟩ v S := fun a ha w hS => by
  simp [execOp, ha.eval hx, hl w hS]
end

section
variable {P : Program} {K V : Type} [DecidableEq K] {ke : K → Value} {ve : V → Value} {kt et T : TypeId} {w w' : World} {it m : Nat} {l done : List (K × V)}
/-- An iterator over a map that reads as l; the pairs that it has yielded, in order. -/
def IterAt (w : World) (it m : Nat) (ke : K → Value) (ve : V → Value) (l done : List (K × V)) : Prop :=
  ∃ (es : Array MapEntry) (clk since c0 : Nat) (seen : Array Nat) (ds : List MapEntry), w.heap[it]? = some (.mapIter (some m) since seen c0) ∧ since ≤ c0 ∧ since ≤ clk ∧ w.heap[m]? = some (.map es clk) ∧ (∀ x ∈ es.toList, x.born < since) ∧
    es.toList.map (fun (e : MapEntry) => (e.key, e.val)) = l.map (fun (p : K × V) => (ke p.1, ve p.2)) ∧ (l.map Prod.fst).Nodup ∧ (es.toList.map (·.born)).Nodup ∧
    ds.map (·.born) = seen.toList ∧ (∀ d ∈ ds, d ∈ es.toList) ∧ ds.map (fun (e : MapEntry) => (e.key, e.val)) = done.map (fun (p : K × V) => (ke p.1, ve p.2)) ∧ (∀ x ∈ done, x ∈ l) ∧ (done.map Prod.fst).Nodup
theorem IterAt.chg {f : List Nat} (h : IterAt w it m ke ve l done) (hc : Chg f w w') (h1 : it ∉ f) (h2 : m ∉ f) : IterAt w' it m ke ve l done := by
  obtain ⟨es, clk, since, c0, seen, ds, a, b, b', c, rest⟩ := h
  exact ⟨es, clk, since, c0, seen, ds, hc.obj h1 a, b, b', hc.obj h2 c, rest⟩
theorem iter_range (h : MapIs w m ke ve l) (hm : P.underlying T = some (.map kt et)) :
    ∃ it w', (Instr.range T (.map (some m))).run P w = .ok (.pointer (some ⟨it, 0, none⟩)) w' ∧ Chg [] w w' ∧ it = w.heap.size ∧ IterAt w' it m ke ve l [] := by
  obtain ⟨es, clk, hb, he, hn, hbn, hbd⟩ := h
  refine ⟨w.heap.size, w.alloc (.mapIter (some m) clk #[] clk), ?_, Chg.alloc _ _, rfl, es, clk, clk, clk, #[], [], heap_new w _, Nat.le_refl _, Nat.le_refl _, (Chg.alloc w _).obj (by simp) hb, hbn, he, hn, hbd, rfl, by simp, rfl, by simp, by simp⟩
  simp [Instr.range, run_underlying hm, MapKept.run_getObj_map hb, newObj, Result.andThen]
  rfl
theorem iter_next (h : IterAt w it m ke ve l done) (hne : it ≠ m) (hinj : ∀ a b, ke a = ke b → a = b) (ty : TypeId) :
    ((Instr.next (.pointer (some ⟨it, 0, none⟩)) false ty).run P w = .ok (.tuple #[.bool false]) w ∧ ∀ x ∈ l, x ∈ done) ∨
    (∃ (k : K) (v : V) (w' : World), (k, v) ∈ l ∧ k ∉ done.map Prod.fst ∧ (Instr.next (.pointer (some ⟨it, 0, none⟩)) false ty).run P w = .ok (.tuple #[.bool true, ke k, ve v]) w' ∧ Chg [it] w w' ∧
      IterAt w' it m ke ve l (done ++ [(k, v)]) ∧ (Instr.entry (.pointer (some ⟨it, 0, none⟩))).run P w' = .ok (.tuple #[ke k, ve v]) w') := by
  obtain ⟨es, clk, since, c0, seen, ds, h1, h2, h2', h3, h4, h5, h6, h7, h8, h9, h10, h11, h12⟩ := h
  have keyuniq : ∀ e ∈ es.toList, ∀ e' ∈ es.toList, e.key = e'.key → e = e' := by
    intro e he e' he' hk
    obtain ⟨i, hi⟩ := List.getElem?_of_mem he
    obtain ⟨j, hj⟩ := List.getElem?_of_mem he'
    have pi : (l.map (fun (p : K × V) => (ke p.1, ve p.2)))[i]? = some (e.key, e.val) := by rw [← h5, List.getElem?_map, hi]; rfl
    have pj : (l.map (fun (p : K × V) => (ke p.1, ve p.2)))[j]? = some (e'.key, e'.val) := by rw [← h5, List.getElem?_map, hj]; rfl
    rw [List.getElem?_map] at pi pj
    cases li : l[i]? with
    | none => rw [li] at pi; cases pi
    | some a =>
      cases lj : l[j]? with
      | none => rw [lj] at pj; cases pj
      | some b =>
        rw [li] at pi; rw [lj] at pj
        simp at pi pj
        have hab : a.1 = b.1 := hinj _ _ (by rw [pi.1, pj.1, hk])
        have e1 : (l.map Prod.fst)[i]? = (l.map Prod.fst)[j]? := by simp [li, lj, hab]
        have hlt : i < (l.map Prod.fst).length := by have := (List.getElem?_eq_some_iff.1 li).1; simpa using this
        have := (List.getElem?_inj hlt h6).1 e1
        subst this
        rw [hi] at hj; cases hj; rfl
  rcases run_next_at (P := P) w ty it m since c0 seen es clk h1 h3 h4 h2 with ⟨k1, k2⟩ | ⟨e, he, w1, hw1, hrun⟩
  · left
    refine ⟨k2, fun x hx => ?_⟩
    have hx' : (ke x.1, ve x.2) ∈ es.toList.map (fun (e : MapEntry) => (e.key, e.val)) := h5 ▸ List.mem_map.2 ⟨x, hx, rfl⟩
    obtain ⟨e, he, hee⟩ := List.mem_map.1 hx'
    have hseen : e.born ∈ seen.toList := by
      refine Classical.byContradiction fun hn => ?_
      have hl : e ∈ (leftOf es seen) := by
        unfold leftOf
        rw [Array.mem_filter]
        exact ⟨by simpa using he, by simpa using hn⟩
      have := Array.size_pos_of_mem hl
      omega
    rw [← h8] at hseen
    obtain ⟨d, hd, hde⟩ := List.mem_map.1 hseen
    have hdd : (d.key, d.val) ∈ done.map (fun (p : K × V) => (ke p.1, ve p.2)) := h10 ▸ List.mem_map.2 ⟨d, hd, rfl⟩
    obtain ⟨y, hy, hye⟩ := List.mem_map.1 hdd
    have hborn : d = e := by
      obtain ⟨i, hi⟩ := List.getElem?_of_mem (h9 d hd)
      obtain ⟨j, hj⟩ := List.getElem?_of_mem he
      have e1 : (es.toList.map (·.born))[i]? = (es.toList.map (·.born))[j]? := by rw [List.getElem?_map, List.getElem?_map, hi, hj]; simp [hde]
      have hlt : i < (es.toList.map (·.born)).length := by have := (List.getElem?_eq_some_iff.1 hi).1; simpa using this
      have := (List.getElem?_inj hlt h7).1 e1
      subst this
      rw [hi] at hj; cases hj; rfl
    have hk : y.1 = x.1 := hinj _ _ ((congrArg Prod.fst hye).trans (by rw [hborn]; exact congrArg Prod.fst hee))
    have hyl := h11 y hy
    have hxy : y = x := by
      have a1 : lookK y.1 l = some y.2 := (lookK_iff h6).2 hyl
      have a2 : lookK x.1 l = some x.2 := (lookK_iff h6).2 hx
      rw [hk, a2] at a1
      exact Prod.ext hk (by simpa using a1.symm)
    rw [← hxy]; exact hy
  · right
    have he' : e ∈ es.toList ∧ e.born ∉ seen.toList := by
      unfold leftOf at he
      simpa using he
    have hm : (e.key, e.val) ∈ l.map (fun (p : K × V) => (ke p.1, ve p.2)) := h5 ▸ List.mem_map.2 ⟨e, he'.1, rfl⟩
    obtain ⟨⟨k, v⟩, hkl, hkv⟩ := List.mem_map.1 hm
    simp only [Prod.mk.injEq] at hkv
    obtain ⟨hk, hv⟩ := hkv
    have hnew : k ∉ done.map Prod.fst := by
      intro hmem
      obtain ⟨y, hy, rfl⟩ := List.mem_map.1 hmem
      have hyd : (ke y.1, ve y.2) ∈ ds.map (fun (e : MapEntry) => (e.key, e.val)) := h10 ▸ List.mem_map.2 ⟨y, hy, rfl⟩
      obtain ⟨d, hd, hde⟩ := List.mem_map.1 hyd
      have := keyuniq d (h9 d hd) e he'.1 ((congrArg Prod.fst hde).trans hk)
      subst this
      exact he'.2 (h8 ▸ List.mem_map.2 ⟨d, hd, rfl⟩)
    have hw1' : Chg [] w w1 := by rcases hw1 with rfl | rfl; exact Chg.refl _ _; exact Chg.drew _
    have hput : Chg [it] w1 (setBlock w1 it (.mapIter (some m) since (seen.push e.born) clk)) := Chg.put
    have hit1 := hw1'.obj (by simp) h1
    have hm1 := hw1'.obj (by simp) h3
    have hit2 : (setBlock w1 it (.mapIter (some m) since (seen.push e.born) clk)).heap[it]? = some (.mapIter (some m) since (seen.push e.born) clk) := (MapKept.heap_set hit1).1
    have hm2 := hput.obj (by simpa using Ne.symm hne) hm1
    refine ⟨k, v, _, hkl, hnew, by rw [hk, hv]; exact hrun, hw1'.nil.trans hput (fun _ h _ => h), ?_, ?_⟩
    · refine ⟨es, clk, since, clk, seen.push e.born, ds ++ [e], hit2, h2', h2', hm2, h4, h5, h6, h7, by simp [h8], fun d hd => ?_, by simp [h10, hk, hv], fun x hx => ?_, ?_⟩
      · rcases List.mem_append.1 hd with hd | hd
        · exact h9 d hd
        · simp at hd; rw [hd]; exact he'.1
      · rcases List.mem_append.1 hx with hx | hx
        · exact h11 x hx
        · simp at hx; rw [hx]; exact hkl
      · rw [List.map_append, List.nodup_append]
        refine ⟨h12, by simp, fun a ha b hb e => ?_⟩
        simp at hb; subst hb; subst e; exact hnew ha
    · rw [hk, hv]
      exact run_entry_at _ it m since seen es clk e hit2 hm2 he'.1 h7
end
theorem nodup_sub_length {α : Type} : ∀ {a b : List α}, a.Nodup → (∀ x ∈ a, x ∈ b) → a.length ≤ b.length
  | [], _, _, _ => Nat.zero_le _
  | x :: a, b, h, hs => by
    obtain ⟨s, t, rfl⟩ := List.append_of_mem (hs x (.head _))
    have := nodup_sub_length (a := a) (b := s ++ t) (List.nodup_cons.1 h).2 (fun y hy => by
      have h1 := hs y (.tail _ hy)
      have hne : y ≠ x := fun e => (List.nodup_cons.1 h).1 (e ▸ hy)
      simp only [List.mem_append, List.mem_cons] at h1 ⊢
      rcases h1 with h1 | h1 | h1
      · exact .inl h1
      · exact absurd h1 hne
      · exact .inr h1)
    simp at this ⊢; omega
/-- How many an iterator has yielded. -/
def seenN (w : World) (it : Nat) : Nat := match w.heap[it]? with | some (.mapIter _ _ seen _) => seen.size | _ => 0
theorem IterAt.count {K V : Type} [DecidableEq K] {ke : K → Value} {ve : V → Value} {w : World} {it m : Nat} {l done : List (K × V)} (h : IterAt w it m ke ve l done) : seenN w it = done.length := by
  obtain ⟨es, clk, since, c0, seen, ds, h1, h2, h2', h3, h4, h5, h6, h7, h8, h9, h10, h11, h12⟩ := h
  unfold seenN
  rw [h1]
  have a := congrArg List.length h8
  have b := congrArg List.length h10
  simp at a b
  simp only []
  omega
theorem IterAt.more {K V : Type} [DecidableEq K] {ke : K → Value} {ve : V → Value} {w : World} {it m : Nat} {l done : List (K × V)} (h : IterAt w it m ke ve l done) {k : K} {v : V} (hk : (k, v) ∈ l) (hn : k ∉ done.map Prod.fst) : done.length < l.length := by
  obtain ⟨es, clk, since, c0, seen, ds, h1, h2, h2', h3, h4, h5, h6, h7, h8, h9, h10, h11, h12⟩ := h
  have := nodup_sub_length (a := k :: done.map Prod.fst) (b := l.map Prod.fst) (List.nodup_cons.2 ⟨hn, h12⟩) (fun x hx => by
    rcases List.mem_cons.1 hx with rfl | hx
    · exact List.mem_map.2 ⟨_, hk, rfl⟩
    · obtain ⟨y, hy, rfl⟩ := List.mem_map.1 hx
      exact List.mem_map.2 ⟨y, h11 y hy, rfl⟩)
  simp at this; omega
theorem IterAt.sub {K V : Type} [DecidableEq K] {ke : K → Value} {ve : V → Value} {w : World} {it m : Nat} {l done : List (K × V)} (h : IterAt w it m ke ve l done) : (∀ x ∈ done, x ∈ l) ∧ (done.map Prod.fst).Nodup ∧ (l.map Prod.fst).Nodup := by
  obtain ⟨es, clk, since, c0, seen, ds, h1, h2, h2', h3, h4, h5, h6, h7, h8, h9, h10, h11, h12⟩ := h
  exact ⟨h11, h12, h6⟩
/-- At the end all has been yielded. -/
theorem IterAt.end_look {K V : Type} [DecidableEq K] {ke : K → Value} {ve : V → Value} {w : World} {it m : Nat} {l done : List (K × V)} (h : IterAt w it m ke ve l done) (ha : ∀ x ∈ l, x ∈ done) (k : K) : lookK k done = lookK k l := by
  obtain ⟨h1, h2, h3⟩ := h.sub
  cases hd : lookK k done with
  | some v => exact ((lookK_iff h3).2 (h1 _ ((lookK_iff h2).1 hd))).symm
  | none =>
    cases hl : lookK k l with
    | none => rfl
    | some v => rw [(lookK_iff h2).2 (ha _ ((lookK_iff h3).1 hl))] at hd; cases hd
theorem mem_upd {K V : Type} [DecidableEq K] {k : K} {v : V} {l : List (K × V)} {x : K × V} (h : x ∈ upd k v l) : x = (k, v) ∨ x ∈ l := by
  unfold upd at h
  split at h
  · obtain ⟨y, hy, e⟩ := List.mem_map.1 h
    split at e
    · exact .inl e.symm
    · exact .inr (e ▸ hy)
  · rcases List.mem_append.1 h with h | h
    · exact .inr h
    · simp at h; exact .inl h
end Go.X
