/- Equality of rules. -/
import Derived.Test.YtkfncibmfcdokaaXEq
import Derived.Test.YtkfncibmfcdokaaXTypes
import Derived.ChangeKeysEq
set_option linter.unusedVariables false
set_option linter.unusedSimpArgs false
set_option maxRecDepth 100000
namespace Go.Proofs.Ytkfncibmfcdokaa
open Go Go.RowKit Go.X
theorem eqN (d : Nat) (w : World) (xs ys : Array Value) (f g : Nat → Int) : ∀ (is : List Nat), (∀ i ∈ is, xs[i]? = some (.int .u32 (f i)) ∧ ys[i]? = some (.int .u32 (g i))) →
    (Op.eqItems (d + 1) 22 1 xs ys is).run Try.prog w = .ok (is.all fun i => f i == g i) w
  | [], _ => by simp [Op.eqItems]
  | i :: is, h => by
    obtain ⟨h1, h2⟩ := h i (.head _)
    have ih := eqN d w xs ys f g is (fun j hj => h j (.tail _ hj))
    have p1 : (part 22 xs (i * 1)).run Try.prog w = .ok (.int .u32 (f i)) w := by simp [part, go_sem, h1]
    have p2 : (part 22 ys (i * 1)).run Try.prog w = .ok (.int .u32 (g i)) w := by simp [part, go_sem, h2]
    have p3 : (Op.equalIn (d + 1) 22 (.int .u32 (f i)) (.int .u32 (g i))).run Try.prog w = .ok (f i == g i) w := by simp [go_sem]
    unfold Op.eqItems
    simp only [Sem.run_bind, p1, p2, p3, Result.andThen_ok, List.all_cons]
    cases hq : (f i == g i)
    · simp
    · simpa using ih
theorem eq64 (d : Nat) (w : World) (xs ys : List Int) (hx : xs.length = 5) (hy : ys.length = 5) :
    (Op.equalIn (d + 2) 64 (.agg (xs.map (Value.int .u32)).toArray) (.agg (ys.map (Value.int .u32)).toArray)).run Try.prog w = .ok (decide (xs = ys)) w := by
  rw [run_equalIn_array (P := Try.prog) (w := w) (d + 1) (e := 22) (n := 5) (i := Try.t22) _ _ (by kernel_rfl) (by kernel_rfl)]
  rw [show Try.prog.cellsOf 22 = 1 by kernel_rfl]
  rw [eqN d w _ _ (fun i => xs.getD i 0) (fun i => ys.getD i 0)]
  · congr 1
    apply Bool.eq_iff_iff.2
    simp only [List.all_eq_true, List.mem_range, beq_iff_eq, decide_eq_true_eq]
    constructor
    · intro h
      apply List.ext_getElem (by omega)
      intro i h1 h2
      have := h i (by omega)
      simpa [List.getD, h1, h2] using this
    · rintro rfl; simp
  · intro i hi
    have hi' : i < 5 := by simpa using hi
    constructor
    · simp [List.getD, show i < xs.length by omega]
    · simp [List.getD, show i < ys.length by omega]
theorem eq64' (w : World) (a1 a2 a3 a4 a5 b1 b2 b3 b4 b5 : Int) : (Op.equalIn 9999 64 (.agg #[.int .u32 a1, .int .u32 a2, .int .u32 a3, .int .u32 a4, .int .u32 a5]) (.agg #[.int .u32 b1, .int .u32 b2, .int .u32 b3, .int .u32 b4, .int .u32 b5])).run Try.prog w = .ok (decide ([a1, a2, a3, a4, a5] = [b1, b2, b3, b4, b5])) w := eq64 9997 w [a1, a2, a3, a4, a5] [b1, b2, b3, b4, b5] rfl rfl
theorem eq66 (x y : Operand) (w : World) (a1 a2 a3 a4 a5 a6 a7 a8 a9 a10 a11 b1 b2 b3 b4 b5 b6 b7 b8 b9 b10 b11 : Int) : ((do eqGuard .eql 66 x y (.agg #[.int .u32 a1, .int .u32 a2, .int .u32 a3, .int .u32 a4, .int .u32 a5, .int .u32 a6, .int .u32 a7, .int .u32 a8, .int .u32 a9, .int .u32 a10, .int .u32 a11]) (.agg #[.int .u32 b1, .int .u32 b2, .int .u32 b3, .int .u32 b4, .int .u32 b5, .int .u32 b6, .int .u32 b7, .int .u32 b8, .int .u32 b9, .int .u32 b10, .int .u32 b11]); binOp .eql 66 (.agg #[.int .u32 a1, .int .u32 a2, .int .u32 a3, .int .u32 a4, .int .u32 a5, .int .u32 a6, .int .u32 a7, .int .u32 a8, .int .u32 a9, .int .u32 a10, .int .u32 a11]) (.agg #[.int .u32 b1, .int .u32 b2, .int .u32 b3, .int .u32 b4, .int .u32 b5, .int .u32 b6, .int .u32 b7, .int .u32 b8, .int .u32 b9, .int .u32 b10, .int .u32 b11]) : Sem Value)).run Try.prog w = .ok (.bool (decide ([a1, a2, a3, a4, a5, a6, a7, a8, a9, a10, a11] = [b1, b2, b3, b4, b5, b6, b7, b8, b9, b10, b11]))) w := by
  by_cases h1 : [a1, a2, a3, a4, a5] = [b1, b2, b3, b4, b5] <;> by_cases h2 : [a6, a7, a8, a9, a10] = [b6, b7, b8, b9, b10] <;> by_cases h3 : a11 = b11 <;> simp [go_sem, eq64', h1, h2, h3]
  all_goals try simp at h1 h2
  all_goals try simp_all
  all_goals try omega
theorem ne66 (x y : Operand) (w : World) (a1 a2 a3 a4 a5 a6 a7 a8 a9 a10 a11 b1 b2 b3 b4 b5 b6 b7 b8 b9 b10 b11 : Int) : ((do eqGuard .neq 66 x y (.agg #[.int .u32 a1, .int .u32 a2, .int .u32 a3, .int .u32 a4, .int .u32 a5, .int .u32 a6, .int .u32 a7, .int .u32 a8, .int .u32 a9, .int .u32 a10, .int .u32 a11]) (.agg #[.int .u32 b1, .int .u32 b2, .int .u32 b3, .int .u32 b4, .int .u32 b5, .int .u32 b6, .int .u32 b7, .int .u32 b8, .int .u32 b9, .int .u32 b10, .int .u32 b11]); binOp .neq 66 (.agg #[.int .u32 a1, .int .u32 a2, .int .u32 a3, .int .u32 a4, .int .u32 a5, .int .u32 a6, .int .u32 a7, .int .u32 a8, .int .u32 a9, .int .u32 a10, .int .u32 a11]) (.agg #[.int .u32 b1, .int .u32 b2, .int .u32 b3, .int .u32 b4, .int .u32 b5, .int .u32 b6, .int .u32 b7, .int .u32 b8, .int .u32 b9, .int .u32 b10, .int .u32 b11]) : Sem Value)).run Try.prog w = .ok (.bool (!decide ([a1, a2, a3, a4, a5, a6, a7, a8, a9, a10, a11] = [b1, b2, b3, b4, b5, b6, b7, b8, b9, b10, b11]))) w := by
  by_cases h1 : [a1, a2, a3, a4, a5] = [b1, b2, b3, b4, b5] <;> by_cases h2 : [a6, a7, a8, a9, a10] = [b6, b7, b8, b9, b10] <;> by_cases h3 : a11 = b11 <;> simp [go_sem, eq64', h1, h2, h3]
  all_goals try simp at h1 h2
  all_goals try simp_all
  all_goals try omega
end Go.Proofs.Ytkfncibmfcdokaa
