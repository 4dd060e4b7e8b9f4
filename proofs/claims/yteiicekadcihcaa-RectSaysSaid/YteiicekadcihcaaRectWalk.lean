/- package rect and the reference's two: they return what the plain laws of rects say. Conditions: bounds on places and sides. -/
import Derived.Test.YteiicekadcihcaaRectLaw
import Derived.Test.YteiicekadcihcaaErr
namespace Fb
open Go Go.Proofs Go.RowKit
set_option maxRecDepth 100000 in
set_option maxHeartbeats 400000 in
theorem has_any (r : FRect) (x y : Int) (h1 : -1000 ≤ r.x ∧ r.x ≤ 1000) (h2 : -1000 ≤ r.y ∧ r.y ≤ 1000) (h3 : 0 ≤ r.w ∧ r.w ≤ 1000) (h4 : 0 ≤ r.h ∧ r.h ≤ 1000) (w : World) :
    Calls Try.prog 7 #[.agg #[.int .i64 r.x, .int .i64 r.y, .int .i64 r.w, .int .i64 r.h], .int .i64 x, .int .i64 y] w (Ret (.bool (hasB r x y)) w) := by
  go_enter Try.func7, Try.ntmps7
  go_wp2
  all_goals
    go_ret
    refine ⟨ret_bool ?_, (Below.refl _ _).alloc (Nat.le_refl _) _⟩
    unfold hasB
    rw [Bool.eq_iff_iff]
    simp
    try omega
set_option maxRecDepth 100000 in
set_option maxHeartbeats 400000 in
theorem rhas_any (r : FRect) (x y : Int) (h1 : -1000 ≤ r.x ∧ r.x ≤ 1000) (h2 : -1000 ≤ r.y ∧ r.y ≤ 1000) (h3 : 0 ≤ r.w ∧ r.w ≤ 1000) (h4 : 0 ≤ r.h ∧ r.h ≤ 1000) (w : World) :
    Calls Try.prog 11 #[.agg #[.int .i64 r.x, .int .i64 r.y, .int .i64 r.w, .int .i64 r.h], .int .i64 x, .int .i64 y] w (Ret (.bool (hasB r x y)) w) := by
  go_enter Try.func11, Try.ntmps11
  go_wp2
  all_goals
    go_ret
    refine ⟨ret_bool ?_, (Below.refl _ _).alloc (Nat.le_refl _) _⟩
    unfold hasB
    rw [Bool.eq_iff_iff]
    simp
    try omega
theorem rect_ways (r : FRect) : (r.x < -20) ∨ (-20 ≤ r.x ∧ 20 < r.x) ∨ (-20 ≤ r.x ∧ r.x ≤ 20 ∧ r.y < -20) ∨ (-20 ≤ r.x ∧ r.x ≤ 20 ∧ -20 ≤ r.y ∧ 20 < r.y) ∨ (-20 ≤ r.x ∧ r.x ≤ 20 ∧ -20 ≤ r.y ∧ r.y ≤ 20 ∧ r.w < 0) ∨
    (-20 ≤ r.x ∧ r.x ≤ 20 ∧ -20 ≤ r.y ∧ r.y ≤ 20 ∧ 0 ≤ r.w ∧ 20 < r.w) ∨ (-20 ≤ r.x ∧ r.x ≤ 20 ∧ -20 ≤ r.y ∧ r.y ≤ 20 ∧ 0 ≤ r.w ∧ r.w ≤ 20 ∧ r.h < 0) ∨
    (-20 ≤ r.x ∧ r.x ≤ 20 ∧ -20 ≤ r.y ∧ r.y ≤ 20 ∧ 0 ≤ r.w ∧ r.w ≤ 20 ∧ 0 ≤ r.h ∧ 20 < r.h) ∨ (-20 ≤ r.x ∧ r.x ≤ 20 ∧ -20 ≤ r.y ∧ r.y ≤ 20 ∧ 0 ≤ r.w ∧ r.w ≤ 20 ∧ 0 ≤ r.h ∧ r.h ≤ 20) := by
  by_cases c1 : r.x < -20
  · exact .inl c1
  by_cases c2 : 20 < r.x
  · exact .inr (.inl ⟨by omega, c2⟩)
  by_cases c3 : r.y < -20
  · exact .inr (.inr (.inl ⟨by omega, by omega, c3⟩))
  by_cases c4 : 20 < r.y
  · exact .inr (.inr (.inr (.inl ⟨by omega, by omega, by omega, c4⟩)))
  by_cases c5 : r.w < 0
  · exact .inr (.inr (.inr (.inr (.inl ⟨by omega, by omega, by omega, by omega, c5⟩))))
  by_cases c6 : 20 < r.w
  · exact .inr (.inr (.inr (.inr (.inr (.inl ⟨by omega, by omega, by omega, by omega, by omega, c6⟩)))))
  by_cases c7 : r.h < 0
  · exact .inr (.inr (.inr (.inr (.inr (.inr (.inl ⟨by omega, by omega, by omega, by omega, by omega, by omega, c7⟩))))))
  by_cases c8 : 20 < r.h
  · exact .inr (.inr (.inr (.inr (.inr (.inr (.inr (.inl ⟨by omega, by omega, by omega, by omega, by omega, by omega, by omega, c8⟩)))))))
  · exact .inr (.inr (.inr (.inr (.inr (.inr (.inr (.inr ⟨by omega, by omega, by omega, by omega, by omega, by omega, by omega, by omega⟩)))))))
set_option maxRecDepth 100000 in
set_option maxHeartbeats 800000 in
theorem rcheck_any (r : FRect) (w : World) :
    Calls Try.prog 9 #[.agg #[.int .i64 r.x, .int .i64 r.y, .int .i64 r.w, .int .i64 r.h]] w (Ret (errV (rectFault r)) w) := by
  rcases rect_ways r with h | h | h | h | h | h | h | h | h
  all_goals
    go_enter Try.func9, Try.ntmps9
    go_wp2
    go_ret
    refine ⟨?_, (Below.refl _ _).alloc (Nat.le_refl _) _⟩
    first
      | (rw [rectFault_one (by omega)]; rfl)
      | (rw [rectFault_zero (by omega)]; rfl)
set_option maxRecDepth 100000 in
set_option maxHeartbeats 800000 in
theorem rrectfault_any (r : FRect) (w : World) :
    Calls Try.prog 10 #[.agg #[.int .i64 r.x, .int .i64 r.y, .int .i64 r.w, .int .i64 r.h]] w (Ret (.int .i64 (rectFault r)) w) := by
  rcases rect_ways r with h | h | h | h | h | h | h | h | h
  all_goals
    go_enter Try.func10, Try.ntmps10
    go_wp2
    go_ret
    refine ⟨?_, (Below.refl _ _).alloc (Nat.le_refl _) _⟩
    first
      | (rw [rectFault_one (by omega)]; rfl)
      | (rw [rectFault_zero (by omega)]; rfl)
end Fb
