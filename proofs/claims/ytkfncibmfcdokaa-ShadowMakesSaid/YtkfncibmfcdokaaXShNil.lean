/- Shadows: what no shadow answers. -/
import Derived.Test.YtkfncibmfcdokaaXSame
set_option linter.unusedVariables false
set_option linter.unusedSimpArgs false
namespace Go.Proofs.Ytkfncibmfcdokaa
open Go Go.RowKit Go.X Go.XR

theorem nil_none (w : World) : Calls Try.prog 90 #[.pointer none] w fun e w' => ∃ r : Bool, e = .returned (.bool r) ∧ (r = true ∧ w' = w) := by
  refine ok_shadow_Shadow_none _ _ _ ?_
  unfold V_shadow_Shadow_none
  exact ⟨fun b w' => b = true ∧ w' = w, fun _ _ h => h, fun h => by simp at h, fun _ => ⟨rfl, rfl⟩⟩
theorem nil_through (w : World) (at1 n : Int) (on : Value) : Calls Try.prog 85 #[.pointer none, .int .i64 at1, .int .i64 n, on] w fun e w' => ∃ r : Int, e = .returned (.int .i64 r) ∧ (r = 1 ∧ w' = w) := by
  refine ok_shadow_Shadow_through _ _ _ _ _ _ ?_
  unfold V_shadow_Shadow_through
  refine (nil_none w).mono ?_
  rintro _ w1 ⟨_, rfl, rfl, hw⟩
  exact ⟨_, rfl, fun _ => ⟨rfl, hw⟩, fun h => by simp at h⟩
theorem nil_union (w : World) (at1 n : Int) : Calls Try.prog 46 #[.pointer none, .int .i64 at1, .int .i64 n] w fun e w' => ∃ (r1 : Int) (r2 : Int), e = .returned (.tuple #[.int .u32 r1, .int .i64 r2]) ∧ (r2 = 1 ∧ Chg [] w w') := by
  refine ok_shadow_Shadow_Union _ _ _ _ _ ?_
  unfold V_shadow_Shadow_Union
  refine v_alloc fun b1 w1 e1 h1 c1 => ?_
  refine v_alloc fun b2 w2 e2 h2 c2 => ?_
  have l1 := lt_of_heap h1
  refine v_set0 h2 (by simp) fun w3 h3 c3 s3 => ?_
  have h13 := c3.obj (by simp; omega) (c2.obj (by simp) h1)
  refine ⟨_, by rw [cell_of h13]; rfl, ?_⟩
  refine (nil_through w3 _ _ _).mono ?_
  rintro _ w4 ⟨_, rfl, rfl, hw⟩
  subst w4
  exact ⟨_, rfl, 0, by rw [cell_of h3]; rfl, rfl, (c1.trans0 c2).trans c3 (fun i hi hlt => by simp at hi; have := c1.size; omega)⟩
theorem nil_get (w : World) (at1 : Int) : Calls Try.prog 42 #[.pointer none, .int .i64 at1] w fun e w' => ∃ (r1 : Int) (r2 : Int), e = .returned (.tuple #[.int .u32 r1, .int .i64 r2]) ∧ (r2 = 1 ∧ Chg [] w w') := by
  refine ok_shadow_Shadow_Get _ _ _ _ ?_
  unfold V_shadow_Shadow_Get
  refine (nil_union w at1 1).mono ?_
  rintro _ w1 ⟨r1, r2, rfl, h⟩
  exact ⟨_, _, rfl, h⟩
theorem nil_fill (w : World) (at1 n set : Int) : Calls Try.prog 49 #[.pointer none, .int .i64 at1, .int .i64 n, .int .u32 set] w fun e w' => ∃ r : Int, e = .returned (.int .i64 r) ∧ (r = 1 ∧ Chg [] w w') := by
  refine ok_shadow_Shadow_Fill _ _ _ _ _ _ ?_
  unfold V_shadow_Shadow_Fill
  refine v_alloc fun b1 w1 e1 h1 c1 => ?_
  refine v_alloc fun b2 w2 e2 h2 c2 => ?_
  have h12 := c2.obj (by simp) h1
  refine ⟨_, by rw [cell_of h12]; rfl, ?_⟩
  refine (nil_none w2).mono ?_
  rintro _ w3 ⟨_, rfl, rfl, hw⟩
  subst w3
  refine ⟨_, rfl, fun b w' => b = false ∧ w' = w2, ?_, fun h => by simp at h, fun _ => ⟨rfl, rfl⟩⟩
  rintro _ w3 ⟨rfl, hw⟩
  subst w3
  refine ⟨fun h => by simp at h, fun _ => ⟨_, by rw [cell_of h12]; rfl, ?_⟩⟩
  refine (nil_through w2 _ _ _).mono ?_
  rintro _ w4 ⟨_, rfl, rfl, hw⟩
  subst w4
  exact ⟨_, rfl, rfl, c1.trans0 c2⟩
theorem nil_set (w : World) (at1 set : Int) : Calls Try.prog 52 #[.pointer none, .int .i64 at1, .int .u32 set] w fun e w' => ∃ r : Int, e = .returned (.int .i64 r) ∧ (r = 1 ∧ Chg [] w w') := by
  refine ok_shadow_Shadow_Set _ _ _ _ _ ?_
  unfold V_shadow_Shadow_Set
  refine (nil_fill w at1 1 set).mono ?_
  rintro _ w1 ⟨r, rfl, h⟩
  exact ⟨_, rfl, h⟩
theorem nil_size (w : World) : Calls Try.prog 54 #[.pointer none] w fun e w' => ∃ r : Int, e = .returned (.int .i64 r) ∧ (r = 0 ∧ w' = w) := by
  refine ok_shadow_Shadow_Size _ _ _ ?_
  unfold V_shadow_Shadow_Size
  refine (nil_none w).mono ?_
  rintro _ w1 ⟨_, rfl, rfl, hw⟩
  exact ⟨_, rfl, fun _ => ⟨rfl, hw⟩, fun h => by simp at h⟩
theorem nil_pages (w : World) : Calls Try.prog 55 #[.pointer none] w fun e w' => ∃ r : Int, e = .returned (.int .i64 r) ∧ (r = 0 ∧ w' = w) := by
  refine go_shadow_Shadow_Pages _ _ _ ?_
  unfold W_shadow_Shadow_Pages
  refine (nil_none w).mono ?_
  rintro _ w1 ⟨_, rfl, rfl, hw⟩
  exact ⟨_, rfl, fun _ => ⟨rfl, hw⟩, fun h => by simp at h⟩
theorem nil_private (w : World) (n : Int) : Calls Try.prog 56 #[.pointer none, .int .i64 n] w fun e w' => ∃ r : Bool, e = .returned (.bool r) ∧ (r = false ∧ w' = w) := by
  refine go_shadow_Shadow_Private _ _ _ _ ?_
  unfold W_shadow_Shadow_Private
  refine (nil_none w).mono ?_
  rintro _ w1 ⟨_, rfl, rfl, hw⟩
  exact ⟨_, rfl, fun _ => ⟨rfl, hw⟩, fun h => by simp at h⟩
theorem nil_copy (w : World) : Calls Try.prog 57 #[.pointer none] w fun e w' => ∃ r : Option Addr, e = .returned (.pointer r) ∧ (r = none ∧ w' = w) := by
  refine go_shadow_Shadow_Copy _ _ _ ?_
  unfold W_shadow_Shadow_Copy
  refine (nil_none w).mono ?_
  rintro _ w1 ⟨_, rfl, rfl, hw⟩
  exact ⟨_, rfl, fun _ => ⟨rfl, hw⟩, fun h => by simp at h⟩
theorem nil_all (w : World) : Calls Try.prog 50 #[.pointer none] w fun e w' => ∃ r : Value, e = .returned r ∧ ∃ cb, r = .func (.func 93) #[] #[.pointer (some ⟨cb, 0, none⟩)] ∧ w'.heap[cb]? = some (.cells #[.pointer none] 90 (0, 0)) ∧ Chg [] w w' := by
  refine go_shadow_Shadow_All _ _ _ ?_
  unfold W_shadow_Shadow_All
  refine v_alloc fun b1 w1 e1 hb1 c1 => ?_
  refine ⟨_, by rw [cell_of hb1]; rfl, ?_⟩
  refine (nil_copy w1).mono ?_
  rintro _ w2 ⟨_, rfl, rfl, hw⟩
  subst w2
  refine ⟨_, rfl, ?_⟩
  refine v_set0 hb1 (by simp) fun w3 hb3 c3 s3 => ?_
  exact ⟨b1, rfl, hb3, c1.trans c3 (fun i hi hlt => by simp at hi; omega)⟩
theorem nil_iterates {w : World} {cb : Nat} (hcb : w.heap[cb]? = some (.cells #[.pointer none] 90 (0, 0))) :
    Iterates Try.prog (.func (.func 93) #[] #[.pointer (some ⟨cb, 0, none⟩)]) (fun x : Int × Int => #[.int .i64 x.1, .int .u32 x.2]) (fun xs => xs = []) (fun pre => pre = []) [cb] w := by
  intro W yv I Ix hW hI hIx h0 hround
  refine ⟨93, #[.pointer (some ⟨cb, 0, none⟩)], Try.f93, rfl, Try.func93, by kernel_rfl, by kernel_rfl, ?_⟩
  have hcW := hW.obj (by simp) hcb
  refine (go_shadow_Shadow_All_1 yv ⟨cb, 0, none⟩ W (fun w' => ∃ Own, InO W Own w' ∧ ((∃ xs, xs = [] ∧ I Own xs w') ∨ ∃ pre, pre = [] ∧ Ix Own pre w')) ?_).mono (fun e w' h => ⟨⟨_, h.1⟩, h.2⟩)
  unfold W_shadow_Shadow_All_1
  refine ⟨_, by rw [cell_of hcW]; rfl, ?_⟩
  refine (nil_none W).mono ?_
  rintro _ w1 ⟨_, rfl, rfl, hw⟩
  subst w1
  exact ⟨_, rfl, fun _ => ⟨[], (by intro i hi; cases hi), .inl ⟨_, rfl, h0⟩⟩, fun h => by simp at h⟩
theorem nil_same (w : World) : Calls Try.prog 53 #[.pointer none, .pointer none] w fun e w' => ∃ r : Bool, e = .returned (.bool r) ∧ (r = true ∧ w' = w) := by
  refine go_shadow_Same _ _ _ _ ?_
  unfold W_shadow_Same
  refine (nil_none w).mono ?_
  rintro _ w1 ⟨_, rfl, rfl, hw⟩
  subst w1
  refine ⟨_, rfl, fun b2 w' => b2 = true ∧ w' = w, ?_, fun h => by simp at h, fun _ => ⟨rfl, rfl⟩⟩
  rintro _ w2 ⟨rfl, hw⟩
  subst w2
  refine ⟨fun _ => ?_, fun h => by simp at h⟩
  refine (nil_none w).mono ?_
  rintro _ w1 ⟨_, rfl, rfl, hw⟩
  subst w1
  refine ⟨_, rfl, fun b2 w' => b2 = true ∧ w' = w, fun _ _ h => h, fun _ => ?_, fun h => by simp at h⟩
  refine (nil_none w).mono ?_
  rintro _ w1 ⟨_, rfl, rfl, hw⟩
  subst w1
  exact ⟨_, rfl, rfl, rfl⟩
theorem nil_same_l {w : World} {b : Nat} {pages : Int} {g : Int → Int} {fp : List Nat} (h : ShadowAt w b pages g fp) : Calls Try.prog 53 #[.pointer none, .pointer (some ⟨b, 0, none⟩)] w fun e w' => ∃ r : Bool, e = .returned (.bool r) ∧ (r = false ∧ w' = w) := by
  refine go_shadow_Same _ _ _ _ ?_
  unfold W_shadow_Same
  refine (nil_none w).mono ?_
  rintro _ w1 ⟨_, rfl, rfl, hw⟩
  subst w1
  refine ⟨_, rfl, fun b2 w' => b2 = true ∧ w' = w, ?_, fun h => by simp at h, fun _ => ⟨rfl, rfl⟩⟩
  rintro _ w2 ⟨rfl, hw⟩
  subst w2
  refine ⟨fun _ => ?_, fun h => by simp at h⟩
  refine (nil_none w).mono ?_
  rintro _ w1 ⟨_, rfl, rfl, hw⟩
  subst w1
  refine ⟨_, rfl, fun b2 w' => b2 = false ∧ w' = w, fun _ _ h => h, fun _ => ?_, fun h => by simp at h⟩
  refine (shadow_none h).mono ?_
  rintro _ w1 ⟨_, rfl, rfl, hw⟩
  subst w1
  exact ⟨_, rfl, rfl, rfl⟩
theorem nil_same_r {w : World} {b : Nat} {pages : Int} {g : Int → Int} {fp : List Nat} (h : ShadowAt w b pages g fp) : Calls Try.prog 53 #[.pointer (some ⟨b, 0, none⟩), .pointer none] w fun e w' => ∃ r : Bool, e = .returned (.bool r) ∧ (r = false ∧ w' = w) := by
  refine go_shadow_Same _ _ _ _ ?_
  unfold W_shadow_Same
  refine (shadow_none h).mono ?_
  rintro _ w1 ⟨_, rfl, rfl, hw⟩
  subst w1
  refine ⟨_, rfl, fun b2 w' => b2 = true ∧ w' = w, ?_, fun _ => ?_, fun h => by simp at h⟩
  · rintro _ w2 ⟨rfl, hw⟩
    subst w2
    refine ⟨fun _ => ?_, fun h => by simp at h⟩
    refine (shadow_none h).mono ?_
    rintro _ w1 ⟨_, rfl, rfl, hw⟩
    subst w1
    exact ⟨_, rfl, fun b2 w' => b2 = false ∧ w' = w, fun _ _ h => h, fun h => by simp at h, fun _ => ⟨rfl, rfl⟩⟩
  · refine (nil_none w).mono ?_
    rintro _ w1 ⟨_, rfl, rfl, hw⟩
    subst w1
    exact ⟨_, rfl, rfl, rfl⟩
end Go.Proofs.Ytkfncibmfcdokaa
