/- flickerbooklaw.same: an error against a number. Conditions: the error's number is small. -/
import Derived.Test.YteiicekadcihcaaErr
namespace Fb
open Go Go.Proofs Go.RowKit
def sameB (a : Nat) (f : Int) : Bool := decide ((a : Int) = f)
set_option maxRecDepth 100000 in
set_option maxHeartbeats 400000 in
theorem same_any (a : Nat) (f : Int) (w : World) (ha : a ≤ 100) :
    Calls Try.prog 8 #[errV a, .int .i64 f] w (Ret (.bool (sameB a f)) w) := by
  by_cases h0 : a = 0
  · subst h0
    rw [errV_zero]
    go_enter Try.func8, Try.ntmps8
    go_wp2
    go_ret
    exact ⟨ret_bool (by unfold sameB; rw [Bool.eq_iff_iff]; simp; omega), Below.refl _ _⟩
  · rw [errV_pos h0]
    have hta := assert_ok (a : Int)
    by_cases hf : 0 < f
    · go_enter Try.func8, Try.ntmps8
      go_wp2
      go_ret
      exact ⟨ret_bool (by unfold sameB; rw [Bool.eq_iff_iff]; simp), Below.refl _ _⟩
    · have hf' : f ≤ 0 := by omega
      go_enter Try.func8, Try.ntmps8
      go_wp2
      go_ret
      exact ⟨ret_bool (by unfold sameB; rw [Bool.eq_iff_iff]; simp; omega), Below.refl _ _⟩
set_option maxRecDepth 100000 in
set_option maxHeartbeats 400000 in
theorem number_any (a : Nat) (w : World) (ha : a ≤ 100) :
    Calls Try.prog 19 #[errV a] w (Ret (.int .i64 a) w) := by
  by_cases h0 : a = 0
  · subst h0
    rw [errV_zero]
    go_enter Try.func19, Try.ntmps19
    go_wp2
    go_ret
    exact ⟨rfl, Below.refl _ _⟩
  · rw [errV_pos h0]
    have hta := assert_ok (a : Int)
    go_enter Try.func19, Try.ntmps19
    go_wp2
    go_ret
    exact ⟨rfl, Below.refl _ _⟩
theorem sameB_self (a : Nat) : sameB a (a : Int) = true := by simp [sameB]
end Fb
