/- rect.Both returns the rect that both have. Conditions: bounds on places and sides. -/
import Derived.Test.YtlhbdaiocolfeaaDoorRectLaw
import Derived.Test.YtlhbdaiocolfeaaDoorErr
namespace Fb
open Go Go.Proofs Go.RowKit
theorem ite_max (x y : Int) : (if x < y then y else x) = max x y := by omega
theorem ite_min (x y : Int) : (if y < x then y else x) = min x y := by omega
theorem both_zero {a b : FRect} (h : min (a.x + a.w) (b.x + b.w) - max a.x b.x ≤ 0 ∨ min (a.y + a.h) (b.y + b.h) - max a.y b.y ≤ 0) : both a b = ⟨0, 0, 0, 0⟩ := by unfold both; rw [if_pos h]
theorem both_some {a b : FRect} (h : ¬ (min (a.x + a.w) (b.x + b.w) - max a.x b.x ≤ 0 ∨ min (a.y + a.h) (b.y + b.h) - max a.y b.y ≤ 0)) : both a b = ⟨max a.x b.x, max a.y b.y, min (a.x + a.w) (b.x + b.w) - max a.x b.x, min (a.y + a.h) (b.y + b.h) - max a.y b.y⟩ := by unfold both; rw [if_neg h]
theorem ret_rect {r s : FRect} (h : s = r) : Ending.returned (.agg #[.int .i64 r.x, .int .i64 r.y, .int .i64 r.w, .int .i64 r.h]) = .returned (.agg #[.int .i64 s.x, .int .i64 s.y, .int .i64 s.w, .int .i64 s.h]) := by rw [h]
end Fb
