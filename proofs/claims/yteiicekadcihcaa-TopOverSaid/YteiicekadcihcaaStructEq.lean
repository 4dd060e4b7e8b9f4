/- '==' and '!=' of pixels and rects. No conditions. -/
import Derived.Test.YteiicekadcihcaaErr
import Derived.Laws.StructEq
namespace Fb
open Go Go.Proofs Go.RowKit
def eqPx (a b c d : Int) : Bool := decide (a = c ∧ b = d)
def eqRect (a b c d a' b' c' d' : Int) : Bool := decide (a = a' ∧ b = b' ∧ c = c' ∧ d = d')
theorem underlying_px : Try.prog.underlying 39 = some (.struct (Try.prog.fieldsOf 39)) := by kernel_rfl
theorem underlying_rect : Try.prog.underlying 23 = some (.struct (Try.prog.fieldsOf 23)) := by kernel_rfl
theorem held_px : Try.prog.stoodInHeld 39 = false := by kernel_rfl
theorem held_rect : Try.prog.stoodInHeld 23 = false := by kernel_rfl
theorem equalIn_px (a b c d : Int) (w : World) : (Op.equalIn 10000 39 (.agg #[.int .i64 a, .int .i64 b]) (.agg #[.int .i64 c, .int .i64 d])).run Try.prog w = .ok (eqPx a b c d) w := by
  have u3 := Try.underlying3
  have a3 := Try.isAgg3
  have z3 := Try.sizeOf3
  rw [show (10000 : Nat) = 9999 + 1 from rfl, run_equalIn_agg w 9999 39 _ _ underlying_px held_px]
  simp only [Program.fieldsOf, Try.underlying39]
  go_simp
  unfold eqPx
  by_cases h1 : a = c <;> by_cases h2 : b = d <;> simp [h1, h2]
theorem eql_px (a b c d : Int) (w : World) : (binOp .eql 39 (.agg #[.int .i64 a, .int .i64 b]) (.agg #[.int .i64 c, .int .i64 d])).run Try.prog w = .ok (.bool (eqPx a b c d)) w := by
  rw [run_eql_struct, equalIn_px]; rfl
theorem neq_px (a b c d : Int) (w : World) : (binOp .neq 39 (.agg #[.int .i64 a, .int .i64 b]) (.agg #[.int .i64 c, .int .i64 d])).run Try.prog w = .ok (.bool (!eqPx a b c d)) w := by
  rw [run_neq_struct, equalIn_px]; rfl
theorem equalIn_rect (a b c d a' b' c' d' : Int) (w : World) : (Op.equalIn 10000 23 (.agg #[.int .i64 a, .int .i64 b, .int .i64 c, .int .i64 d]) (.agg #[.int .i64 a', .int .i64 b', .int .i64 c', .int .i64 d'])).run Try.prog w = .ok (eqRect a b c d a' b' c' d') w := by
  have u3 := Try.underlying3
  have a3 := Try.isAgg3
  have z3 := Try.sizeOf3
  rw [show (10000 : Nat) = 9999 + 1 from rfl, run_equalIn_agg w 9999 23 _ _ underlying_rect held_rect]
  simp only [Program.fieldsOf, Try.underlying23]
  go_simp
  unfold eqRect
  by_cases h1 : a = a' <;> by_cases h2 : b = b' <;> by_cases h3 : c = c' <;> by_cases h4 : d = d' <;> simp [h1, h2, h3, h4]
theorem eql_rect (a b c d a' b' c' d' : Int) (w : World) : (binOp .eql 23 (.agg #[.int .i64 a, .int .i64 b, .int .i64 c, .int .i64 d]) (.agg #[.int .i64 a', .int .i64 b', .int .i64 c', .int .i64 d'])).run Try.prog w = .ok (.bool (eqRect a b c d a' b' c' d')) w := by
  rw [run_eql_struct, equalIn_rect]; rfl
theorem neq_rect (a b c d a' b' c' d' : Int) (w : World) : (binOp .neq 23 (.agg #[.int .i64 a, .int .i64 b, .int .i64 c, .int .i64 d]) (.agg #[.int .i64 a', .int .i64 b', .int .i64 c', .int .i64 d'])).run Try.prog w = .ok (.bool (!eqRect a b c d a' b' c' d')) w := by
  rw [run_neq_struct, equalIn_rect]; rfl
end Fb
