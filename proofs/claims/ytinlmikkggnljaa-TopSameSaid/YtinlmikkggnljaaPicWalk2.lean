/- picture.guesses returns a new slice of four functions, told and row: see PicWalk. Conditions: none. -/
import Derived.Test.YtinlmikkggnljaaPicWalk
namespace Fb
open Go Go.Proofs Go.RowKit Go.Sort
/-- the four functions -/
def guessObj : Go.Obj := .cells #[.func (.func 77) #[] #[], .func (.func 78) #[] #[], .func (.func 79) #[] #[], .func (.func 80) #[] #[]] 116
/-- the number of the function of a way -/
def guessF (way : Nat) : FuncId := match way with | 0 => 77 | 1 => 78 | 2 => 79 | _ => 80
set_option maxHeartbeats 400000 in
theorem guesses_any (w : World) : Calls Try.prog 44 #[] w fun e w' => e = .returned (.slice (some ⟨w.heap.size, 0, none⟩) 4 4) ∧ w' = w.alloc (.cells #[.func (.func 77) #[] #[], .func (.func 78) #[] #[], .func (.func 79) #[] #[], .func (.func 80) #[] #[]] 116) := by
  go_enter Try.func44, Try.ntmps44
  go_wp2
  go_ret
  exact ⟨rfl, rfl⟩
theorem guess_any (way : Nat) (h : way < 4) (a b : Int) (w : World) (ha : 0 ≤ a ∧ a ≤ 255) (hb : 0 ≤ b ∧ b ≤ 255) : Calls Try.prog (guessF way) #[.int .i64 a, .int .i64 b] w fun e w' => e = .returned (.int .i64 (guessI way a b)) ∧ w = w' := by
  rcases (show way = 0 ∨ way = 1 ∨ way = 2 ∨ way = 3 by omega) with rfl | rfl | rfl | rfl
  · exact guess0_any a b w
  · exact guess1_any a b w
  · exact guess2_any a b w
  · exact guess3_any a b w ha hb
end Fb
