/- Chains of places: what touches make of them, one at a time and at once. -/
import Derived.Test.YtkfncibmfcdokaaXDoes
import Derived.Test.YtkfncibmfcdokaaXClone
set_option linter.unusedVariables false
set_option linter.unusedSimpArgs false
namespace Go.Proofs.Ytkfncibmfcdokaa
open Go Go.RowKit Go.X

def chainT (l : List (Int × Int)) : List Tch := List.zipWith (fun a b => (a, [b])) l.tail l
theorem chainT_get {l : List (Int × Int)} {k : Nat} {a b : Int × Int} (ha : l[k + 1]? = some a) (hb : l[k]? = some b) : (chainT l)[k]? = some (a, [b]) := by
  unfold chainT
  rw [List.getElem?_zipWith, List.getElem?_tail, ha, hb]
theorem chainT_len (l : List (Int × Int)) : (chainT l).length = l.length - 1 := by unfold chainT; simp
theorem chainT_mem {l : List (Int × Int)} {t : Tch} (h : t ∈ chainT l) : ∃ k a b, l[k + 1]? = some a ∧ l[k]? = some b ∧ t = (a, [b]) := by
  obtain ⟨k, hk⟩ := List.getElem?_of_mem h
  have hlt : k < (chainT l).length := (List.getElem?_eq_some_iff.1 hk).1
  rw [chainT_len] at hlt
  obtain ⟨a, ha⟩ := get_of (l := l) (j := k + 1) (by omega)
  obtain ⟨b, hb⟩ := get_of (l := l) (j := k) (by omega)
  rw [chainT_get ha hb] at hk
  exact ⟨k, a, b, ha, hb, by simpa using hk.symm⟩

theorem join_one (g : Int × Int → Int) (p : Int × Int) (h : u16 (g p)) : joinP g [p] = g p := by
  show bits .or .u32 0 (g p) = g p
  exact or0 _ h.1 (by have := h.2; omega)

theorem keepE_mem {most : Int} {sets : List Int} {s : Int} (h : s ∈ sets) (h1 : s < 65536) : keepE most sets s = 0 ∧ keepS most sets s = sets := by
  unfold keepE keepS
  exact ⟨by rw [if_neg (by omega), if_pos h], by rw [if_pos (.inr (.inl h))]⟩
theorem keepAll_easy {most : Int} {g : Int × Int → Int} {sets : List Int} : ∀ {ts : List Tch}, (∀ t ∈ ts, t.1 ≠ (0, 0) ∧ joinP g t.2 ∈ sets ∧ joinP g t.2 < 65536) →
    (keepAll most g ts sets).1 = sets ∧ (keepAll most g ts sets).2.2 = 0 ∧ ∀ q, lookK q (keepAll most g ts sets).2.1 = (ts.reverse.find? (fun t => t.1 = q)).map (fun t => joinP g t.2) := by
  intro ts
  have : ∀ (ts us : List Tch) (s : List Int × List Pr × Int), (∀ t ∈ ts, t.1 ≠ (0, 0) ∧ joinP g t.2 ∈ sets ∧ joinP g t.2 < 65536) → s.1 = sets → s.2.2 = 0 → (∀ q, lookK q s.2.1 = (us.reverse.find? (fun t => t.1 = q)).map (fun t => joinP g t.2)) →
      (ts.foldl (keepStep most g) s).1 = sets ∧ (ts.foldl (keepStep most g) s).2.2 = 0 ∧ ∀ q, lookK q (ts.foldl (keepStep most g) s).2.1 = ((us ++ ts).reverse.find? (fun t => t.1 = q)).map (fun t => joinP g t.2) := by
    intro ts
    induction ts with
    | nil => intro us s _ h1 h2 h3; exact ⟨h1, h2, by simpa using h3⟩
    | cons t ts ih =>
      intro us s h h1 h2 h3
      obtain ⟨k1, k2, k3⟩ := h t (.head _)
      have hk := keepE_mem (most := most) k2 k3
      have e : keepStep most g s t = (sets, upd t.1 (joinP g t.2) s.2.1, 0) := by
        unfold keepStep
        rw [h1, h2, if_neg (by rintro (h | h); exact h rfl; exact k1 h), if_neg (by rw [hk.1]; simp), hk.2]
      rw [List.foldl_cons, e]
      have := ih (us ++ [t]) (sets, upd t.1 (joinP g t.2) s.2.1, 0) (fun u hu => h u (.tail _ hu)) rfl rfl (fun q => by
        simp only [List.reverse_append, List.reverse_cons, List.reverse_nil, List.nil_append, List.cons_append, List.find?_cons]
        rw [lookK_upd, h3 q]
        by_cases hq : q = t.1
        · subst hq; simp
        · simp [hq, Ne.symm hq])
      simpa using this
  intro h
  have := this ts [] (sets, [], 0) h rfl rfl (fun q => by simp [lookK_nil])
  simpa [keepAll] using this

/-- A mark of one place on a new flow. -/
theorem mark_one {most : Int} {p : Int × Int} {set : Int} (hm : mayP 2 2 p) (h0 : 0 ≤ set) (h1 : set < 65536) (hmost : 2 ≤ most) :
    markE (flowNew 2 2 most) p 1 set = 0 ∧ (markF (flowNew 2 2 most) p 1 set).g = putP (fun _ => 0) p set ∧ 0 ∈ (markF (flowNew 2 2 most) p 1 set).sets ∧ set ∈ (markF (flowNew 2 2 most) p 1 set).sets ∧
      (markF (flowNew 2 2 most) p 1 set).fr = 2 ∧ (markF (flowNew 2 2 most) p 1 set).se = 2 ∧ (markF (flowNew 2 2 most) p 1 set).most = most := by
  have hE : markE (flowNew 2 2 most) p 1 set = 0 := by
    unfold markE flowNew
    simp only []
    rw [if_neg (by rintro (h | h); exact h hm; omega), if_neg (by
      rintro (h | h | ⟨_, h⟩)
      · omega
      · omega
      · apply h
        have : (p.1, p.2 + 1 - 1) = p := by ext <;> simp
        rw [this]; exact hm)]
    unfold keepE
    rw [if_neg (by omega)]
    split
    · rfl
    · rw [if_neg (by simp; omega)]
  have hF : markF (flowNew 2 2 most) p 1 set = { flowNew 2 2 most with sets := keepS most [0] set, g := fillP (fun _ => 0) p set 1 } := by
    unfold markF; rw [if_pos hE]; rfl
  rw [hF]
  refine ⟨hE, ?_, ?_, ?_, rfl, rfl, rfl⟩
  · show putP (fun _ => 0) (p.1, p.2 + ((0 : Nat) : Int)) set = _
    simp
  · show 0 ∈ keepS most [0] set
    unfold keepS; split <;> simp
  · show set ∈ keepS most [0] set
    unfold keepS
    split
    · rename_i h
      rcases h with h | h | h
      · omega
      · exact h
      · simp at h; omega
    · simp

/-- One touch of the chain. -/
theorem step_one {F : Fl} {a b : Int × Int} (ha : mayP F.fr F.se a) (hb : mayP F.fr F.se b) (hu : ∀ p, u16 (F.g p)) (hs : F.g b ∈ F.sets) :
    applyE F [(a, [b])] = 0 ∧ applyF F [(a, [b])] = { F with g := putP F.g a (F.g b) } := by
  have hr : rightAll F.fr F.se [(a, [b])] := fun t ht => by
    simp at ht; subst ht
    exact ⟨.inr ha, fun p hp => by simp at hp; subst hp; exact hb⟩
  have ha0 : a ≠ (0, 0) := by rintro rfl; unfold mayP at ha; simp at ha
  obtain ⟨k1, k2, k3⟩ := keepAll_easy (most := F.most) (g := F.g) (sets := F.sets) (ts := [(a, [b])]) (fun t ht => by
    simp at ht; subst ht
    rw [join_one F.g b (hu b)]
    exact ⟨ha0, hs, (hu b).2⟩)
  refine ⟨by unfold applyE; rw [if_pos hr]; exact k2, ?_⟩
  unfold applyF
  rw [if_pos hr, if_pos k2, k1]
  congr 1
  funext q
  unfold overP putP
  rw [k3 q]
  by_cases hq : q = a
  · subst hq; simp [join_one F.g b (hu b)]
  · simp [hq, Ne.symm hq]

/-- All touches of the chain at once, of a flow where the first place alone has a set. -/
theorem all_once {F : Fl} {l : List (Int × Int)} {p0 : Int × Int} {set : Int} (hl : ∀ p ∈ l, mayP F.fr F.se p) (hn : l.Nodup) (h0 : l[0]? = some p0) (hg : F.g = putP (fun _ => 0) p0 set) (hset : u16 set) (hz : 0 ∈ F.sets) (hs : set ∈ F.sets) :
    applyE F (chainT l) = 0 ∧ ∀ (i : Nat) (p : Int × Int), l[i]? = some p → (applyF F (chainT l)).g p = if i < 2 then set else 0 := by
  have hu : ∀ p, u16 (F.g p) := fun p => by
    rw [hg]; unfold putP
    split
    · exact hset
    · exact ⟨by simp, by simp⟩
  have hr : rightAll F.fr F.se (chainT l) := fun t ht => by
    obtain ⟨k, a, b, ha, hb, rfl⟩ := chainT_mem ht
    exact ⟨.inr (hl a (List.mem_of_getElem? ha)), fun p hp => by simp at hp; subst hp; exact hl p (List.mem_of_getElem? hb)⟩
  have hne : ∀ p ∈ l, p ≠ (0, 0) := fun p hp => by rintro rfl; have := hl _ hp; unfold mayP at this; simp at this
  have hidx : ∀ {i k : Nat} {p : Int × Int}, l[i]? = some p → l[k]? = some p → i = k := fun {i k p} h1 h2 =>
    (List.getElem?_inj (List.getElem?_eq_some_iff.1 h1).1 hn).1 (h1.trans h2.symm)
  have hgk : ∀ {k : Nat} {b : Int × Int}, l[k]? = some b → F.g b = if k = 0 then set else 0 := fun {k b} hb => by
    rw [hg]; unfold putP
    by_cases hk : k = 0
    · subst hk; rw [h0] at hb; cases hb; simp
    · have : b ≠ p0 := fun e => hk (hidx hb (e ▸ h0))
      simp [this, hk]
  obtain ⟨k1, k2, k3⟩ := keepAll_easy (most := F.most) (g := F.g) (sets := F.sets) (ts := chainT l) (fun t ht => by
    obtain ⟨k, a, b, ha, hb, rfl⟩ := chainT_mem ht
    simp only []
    rw [join_one F.g b (hu b), hgk hb]
    refine ⟨hne a (List.mem_of_getElem? ha), ?_, ?_⟩
    · split
      · exact hs
      · exact hz
    · split
      · exact hset.2
      · omega)
  refine ⟨by unfold applyE; rw [if_pos hr]; exact k2, fun i p hp => ?_⟩
  unfold applyF
  rw [if_pos hr, if_pos k2]
  simp only []
  unfold overP
  rw [k3 p]
  cases i with
  | zero =>
    have hnone : (chainT l).reverse.find? (fun t => t.1 = p) = none := by
      rw [List.find?_eq_none]
      intro t ht
      obtain ⟨k, a, b, ha, hb, rfl⟩ := chainT_mem (List.mem_reverse.1 ht)
      simp only [decide_eq_true_eq]
      intro e; subst e
      have := hidx hp ha; omega
    rw [hnone]
    simp only [Option.map_none, Option.getD_none]
    rw [hgk hp]; simp
  | succ i =>
    obtain ⟨b, hb⟩ := get_of (l := l) (j := i) (by have := (List.getElem?_eq_some_iff.1 hp).1; omega)
    have hmem : (p, [b]) ∈ chainT l := List.mem_of_getElem? (chainT_get hp hb)
    cases hf : (chainT l).reverse.find? (fun t => t.1 = p) with
    | none =>
      rw [List.find?_eq_none] at hf
      have := hf _ (List.mem_reverse.2 hmem)
      simp at this
    | some t =>
      have h1 := List.find?_some hf
      have h2 := List.mem_of_find?_eq_some hf
      obtain ⟨k, a, b', ha, hb', rfl⟩ := chainT_mem (List.mem_reverse.1 h2)
      simp only [decide_eq_true_eq] at h1
      subst h1
      have hk := hidx hp ha
      have hk' : k = i := by omega
      subst hk'
      simp only [Option.map_some, Option.getD_some]
      rw [join_one F.g b' (hu b'), hgk hb']
      by_cases hk0 : k = 0
      · simp [hk0]
      · rw [if_neg hk0, if_neg (by omega)]
end Go.Proofs.Ytkfncibmfcdokaa
