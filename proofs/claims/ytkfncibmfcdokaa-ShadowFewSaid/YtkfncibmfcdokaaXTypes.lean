/- Facts of the seat's types. -/
import Derived.Test.YtkfncibmfcdokaaProg
import Derived.Test.YtkfncibmfcdokaaXRow
import Derived.Test.YtkfncibmfcdokaaXEq
import Derived.DeepKeys3
set_option linter.unusedVariables false
set_option linter.unusedSimpArgs false
namespace Go.Proofs.Ytkfncibmfcdokaa
open Go Go.RowKit Go.X Go.MapKept
theorem u198 : Try.prog.underlying 198 = some (.map 22 3) := by kernel_rfl
theorem u143 : Try.prog.underlying 143 = some (.map 56 22) := by kernel_rfl
theorem u173 : Try.prog.underlying 173 = some (.map 3 174) := by kernel_rfl
theorem keyU32 : KeyT Try.prog 22 (fun n : Int => .int .u32 n) := int_keyT (by kernel_rfl)
theorem keyInt : KeyT Try.prog 3 (fun n : Int => .int .i64 n) := int_keyT (by kernel_rfl)
theorem zero22 (w : World) : (zeroValue 22).run Try.prog w = .ok (.int .u32 0) w := by simp [go_sem, zeroValue]; rfl
theorem zero3 (w : World) : (zeroValue 3).run Try.prog w = .ok (.int .i64 0) w := by simp [go_sem, zeroValue]; rfl
theorem zero174 (w : World) : (zeroValue 174).run Try.prog w = .ok (.pointer none) w := by simp [go_sem, zeroValue]; rfl
def encP (p : Int × Int) : Value := .agg #[.int .i64 p.1, .int .i64 p.2]
theorem find56 (k : Int × Int) (w : World) : ∀ (es : List MapEntry) (i : Nat), (∀ x ∈ es, ∃ a, x.key = encP a) →
    ((∀ x ∈ es, x.key ≠ encP k) ∧ (Instr.findAsking 56 (encP k) es i).run Try.prog w = .ok none w) ∨
    (∃ j e, es[j]? = some e ∧ e.key = encP k ∧ (Instr.findAsking 56 (encP k) es i).run Try.prog w = .ok (some (i + j, e.val)) w) := by
  intro es
  induction es with
  | nil => intro i _; exact .inl ⟨by simp, by simp [Instr.findAsking]⟩
  | cons e es ih =>
    intro i h
    obtain ⟨a, ha⟩ := h e (.head _)
    have heq : ∀ w, (Op.equal 56 (encP k) e.key).run Try.prog w = .ok ((k.1 == a.1) && (k.2 == a.2)) w := by
      intro w
      rw [ha]
      cases h0 : (k.1 == a.1) <;> cases h1 : (k.2 == a.2) <;> simp [go_sem, Op.equal, Op.maxDepth, encP, h0, h1]
    by_cases hk : k = a
    · refine .inr ⟨0, e, rfl, by rw [ha, hk], ?_⟩
      have hb : ((k.1 == a.1) && (k.2 == a.2)) = true := by simp [hk]
      simp [Instr.findAsking, heq, hb, Result.andThen]
    · have hb : ((k.1 == a.1) && (k.2 == a.2)) = false := by
        cases hq : ((k.1 == a.1) && (k.2 == a.2)) with
        | false => rfl
        | true => simp at hq; exact absurd (Prod.ext hq.1 hq.2) hk
      have hne : e.key ≠ encP k := by
        rw [ha]; intro he
        simp [encP] at he
        exact hk (Prod.ext he.1.symm he.2.symm)
      have hrun : (Instr.findAsking 56 (encP k) (e :: es) i).run Try.prog w = (Instr.findAsking 56 (encP k) es (i + 1)).run Try.prog w := by
        simp [Instr.findAsking, heq, hb, Result.andThen]
      rcases ih (i + 1) (fun x hx => h x (.tail _ hx)) with ⟨h1, h2⟩ | ⟨j, e', h1, h2, h3⟩
      · refine .inl ⟨fun x hx => ?_, hrun.trans h2⟩
        cases hx with
        | head => exact hne
        | tail _ hx => exact h1 x hx
      · exact .inr ⟨j + 1, e', by simpa using h1, h2, by rw [hrun, h3, show i + 1 + j = i + (j + 1) from by omega]⟩
theorem check56 (e : Bool) (n : Nat) (w : World) (k : Int × Int) : (Instr.checkKey e (n + 2) 56 (encP k)).run Try.prog w = .ok () w := by
  have hp : ∀ (t : TypeId) (x : Int), Try.prog.underlying t = some (.int .i64) → (Instr.checkKey e (n + 1) t (.int .i64 x)).run Try.prog w = .ok () w := fun t x ht => run_checkKey (d := .int .i64) ht (by simp [IsKey]) e n
  unfold Instr.checkKey encP
  simp [go_sem, hp]
theorem keyPlace : KeyT Try.prog 56 encP where
  inj := fun a b h => by simp [encP] at h; exact Prod.ext h.1 h.2
  check := fun e w k => by
    exact check56 e 9998 w k
  find := fun w k es hes => by
    rw [run_findKey_eq w (k := 56) (P := Try.prog) (by kernel_rfl)]
    rcases find56 k w es 0 hes with h | ⟨j, e, h1, h2, h3⟩
    · exact .inl h
    · exact .inr ⟨j, e, h1, h2, by simpa using h3⟩
  stays := fun k => by
    show Instr.sameBits (9999 + 1) (encP k) (encP k) = true
    unfold Instr.sameBits encP
    simp [Instr.sameBits]
end Go.Proofs.Ytkfncibmfcdokaa
