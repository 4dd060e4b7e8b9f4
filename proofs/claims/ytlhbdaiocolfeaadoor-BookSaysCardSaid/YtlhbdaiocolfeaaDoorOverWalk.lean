/- blend.Over, the reference's Over and the two tests of a pixel: they return what the plain laws say. Conditions: pixels that may be (for Over). -/
import Derived.Test.YtlhbdaiocolfeaaDoorOverLaw
import Derived.Test.YtlhbdaiocolfeaaDoorErr
namespace Fb
open Go Go.Proofs Go.RowKit
theorem over_zero {av aa bv ba : Int} (h : aa + through aa ba = 0) : overV av aa bv ba = 0 ∧ overA aa ba = 0 := by unfold overV overA; rw [if_pos h]; exact ⟨rfl, h⟩
theorem over_some {av aa bv ba : Int} (h : aa + through aa ba ≠ 0) : overV av aa bv ba = (av * aa + bv * through aa ba) / (aa + through aa ba) := by unfold overV; rw [if_neg h]
theorem ret_px {a b c d : Int} (h1 : c = a) (h2 : d = b) : Ending.returned (.agg #[.int .i64 a, .int .i64 b]) = .returned (.agg #[.int .i64 c, .int .i64 d]) := by rw [h1, h2]
def pixB (v a : Int) : Bool := decide (0 ≤ v ∧ v ≤ 255 ∧ 0 ≤ a ∧ a ≤ 255)
end Fb
