/- reel.Length, At, Same, slices.Equal at pixels, and the reference's: they return what the plain laws of frames say. Conditions: bounds on lengths. -/
import Derived.Test.YtbddmpbifkgloaaReelLaw
import Derived.Test.YtbddmpbifkgloaaErr
import Derived.Test.YtbddmpbifkgloaaStructEq
namespace Fb
open Go Go.Proofs Go.RowKit Go.Sort
theorem neq_px_same (p : Px) (w : World) : (binOp .neq 33 (.agg #[.int .i64 p.1, .int .i64 p.2]) (.agg #[.int .i64 p.1, .int .i64 p.2])).run Try.prog w = .ok (.bool false) w := by
  rw [neq_px]; simp [eqPx]
theorem neq_px_other {p q : Px} (h : p ≠ q) (w : World) : (binOp .neq 33 (.agg #[.int .i64 p.1, .int .i64 p.2]) (.agg #[.int .i64 q.1, .int .i64 q.2])).run Try.prog w = .ok (.bool true) w := by
  rw [neq_px]
  have : eqPx p.1 p.2 q.1 q.2 = false := by
    unfold eqPx
    rw [decide_eq_false_iff_not]
    rintro ⟨h1, h2⟩
    exact h (Prod.ext h1 h2)
  rw [this]; rfl
theorem take_eq_step {α : Type} {l m : List α} {k : Nat} (h1 : k < l.length) (h2 : k < m.length) (ht : l.take k = m.take k) (he : l[k] = m[k]) : l.take (k + 1) = m.take (k + 1) := by
  rw [List.take_succ_eq_append_getElem h1, List.take_succ_eq_append_getElem h2, ht, he]
theorem ne_at {α : Type} {l m : List α} {k : Nat} (h1 : k < l.length) (h2 : k < m.length) (he : l[k] ≠ m[k]) : l ≠ m := by
  rintro rfl; exact he rfl
end Fb
