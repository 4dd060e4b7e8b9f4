/- rect.Both returns the rect that both have. Conditions: bounds on places and sides. -/
import Derived.Test.YteiicekadcihcaaRectLaw
import Derived.Test.YteiicekadcihcaaErr
namespace Fb
open Go Go.Proofs Go.RowKit
theorem ite_max (x y : Int) : (if x < y then y else x) = max x y := by omega
theorem ite_min (x y : Int) : (if y < x then y else x) = min x y := by omega
theorem both_zero {a b : FRect} (h : min (a.x + a.w) (b.x + b.w) - max a.x b.x ≤ 0 ∨ min (a.y + a.h) (b.y + b.h) - max a.y b.y ≤ 0) : both a b = ⟨0, 0, 0, 0⟩ := by unfold both; rw [if_pos h]
theorem both_some {a b : FRect} (h : ¬ (min (a.x + a.w) (b.x + b.w) - max a.x b.x ≤ 0 ∨ min (a.y + a.h) (b.y + b.h) - max a.y b.y ≤ 0)) : both a b = ⟨max a.x b.x, max a.y b.y, min (a.x + a.w) (b.x + b.w) - max a.x b.x, min (a.y + a.h) (b.y + b.h) - max a.y b.y⟩ := by unfold both; rw [if_neg h]
theorem ret_rect {r s : FRect} (h : s = r) : Ending.returned (.agg #[.int .i64 r.x, .int .i64 r.y, .int .i64 r.w, .int .i64 r.h]) = .returned (.agg #[.int .i64 s.x, .int .i64 s.y, .int .i64 s.w, .int .i64 s.h]) := by rw [h]
set_option maxRecDepth 100000 in
set_option maxHeartbeats 800000 in
theorem both_any (a b : FRect) (h1 : -1000 ≤ a.x ∧ a.x ≤ 1000) (h2 : -1000 ≤ a.y ∧ a.y ≤ 1000) (h3 : 0 ≤ a.w ∧ a.w ≤ 1000) (h4 : 0 ≤ a.h ∧ a.h ≤ 1000)
    (h5 : -1000 ≤ b.x ∧ b.x ≤ 1000) (h6 : -1000 ≤ b.y ∧ b.y ≤ 1000) (h7 : 0 ≤ b.w ∧ b.w ≤ 1000) (h8 : 0 ≤ b.h ∧ b.h ≤ 1000) (w : World) :
    Calls Try.prog 12 #[.agg #[.int .i64 a.x, .int .i64 a.y, .int .i64 a.w, .int .i64 a.h], .agg #[.int .i64 b.x, .int .i64 b.y, .int .i64 b.w, .int .i64 b.h]] w
      (Ret (.agg #[.int .i64 (both a b).x, .int .i64 (both a b).y, .int .i64 (both a b).w, .int .i64 (both a b).h]) w) := by
  have m1 := ite_max a.x b.x
  have m2 := ite_max a.y b.y
  have m3 := ite_min (a.x + a.w) (b.x + b.w)
  have m4 := ite_min (a.y + a.h) (b.y + b.h)
  have B1 : -1000 ≤ max a.x b.x ∧ max a.x b.x ≤ 1000 := by omega
  have B2 : -1000 ≤ max a.y b.y ∧ max a.y b.y ≤ 1000 := by omega
  have B3 : -1000 ≤ min (a.x + a.w) (b.x + b.w) ∧ min (a.x + a.w) (b.x + b.w) ≤ 2000 := by omega
  have B4 : -1000 ≤ min (a.y + a.h) (b.y + b.h) ∧ min (a.y + a.h) (b.y + b.h) ≤ 2000 := by omega
  have s1 : IntKind.i64.wrap (a.x + a.w) = a.x + a.w := IntWalk.i64_in _ (by omega)
  have s2 : IntKind.i64.wrap (b.x + b.w) = b.x + b.w := IntWalk.i64_in _ (by omega)
  have s3 : IntKind.i64.wrap (a.y + a.h) = a.y + a.h := IntWalk.i64_in _ (by omega)
  have s4 : IntKind.i64.wrap (b.y + b.h) = b.y + b.h := IntWalk.i64_in _ (by omega)
  have s5 : IntKind.i64.wrap (min (a.x + a.w) (b.x + b.w) - max a.x b.x) = min (a.x + a.w) (b.x + b.w) - max a.x b.x := IntWalk.i64_in _ (by omega)
  have s6 : IntKind.i64.wrap (min (a.y + a.h) (b.y + b.h) - max a.y b.y) = min (a.y + a.h) (b.y + b.h) - max a.y b.y := IntWalk.i64_in _ (by omega)
  go_enter Try.func12, Try.ntmps12
  go_wp2_with fail
  go_quiet (fail)
  clear m1 m2
  go_wp2_with fail
  go_quiet (fail)
  clear m3 m4 s1 s2 s3 s4 s5 s6
  have hz := hid (both_zero (a := a) (b := b))
  have hs := hid (both_some (a := a) (b := b))
  clear B1 B2 B3 B4
  generalize max a.x b.x = X at *
  generalize max a.y b.y = Y at *
  generalize min (a.x + a.w) (b.x + b.w) - X = W at *
  generalize min (a.y + a.h) (b.y + b.h) - Y = H at *
  by_cases hW : W ≤ 0
  · have hr := hid (hz.out (.inl hW))
    clear hz hs
    go_wp2
    refine bodyPost_ret (v := .agg #[.int .i64 0, .int .i64 0, .int .i64 0, .int .i64 0]) (by simp [results, Try.results12, go_sem]) rfl ⟨ret_rect hr.out, ?_⟩
    (repeat (first | with_reducible exact Below.refl _ _ | with_reducible refine Below.alloc ?_ (by simp; try omega) _ | with_reducible refine Below.setCell ?_ (by simp; try omega) _ | with_reducible refine below_drewN ?_ _ | with_reducible refine Below.drew ?_))
  by_cases hH : H ≤ 0
  · have hr := hid (hz.out (.inr hH))
    clear hz hs
    go_wp2
    refine bodyPost_ret (v := .agg #[.int .i64 0, .int .i64 0, .int .i64 0, .int .i64 0]) (by simp [results, Try.results12, go_sem]) rfl ⟨ret_rect hr.out, ?_⟩
    (repeat (first | with_reducible exact Below.refl _ _ | with_reducible refine Below.alloc ?_ (by simp; try omega) _ | with_reducible refine Below.setCell ?_ (by simp; try omega) _ | with_reducible refine below_drewN ?_ _ | with_reducible refine Below.drew ?_))
  · have hr := hid (hs.out (by omega))
    clear hz hs
    go_wp2
    refine bodyPost_ret (v := .agg #[.int .i64 X, .int .i64 Y, .int .i64 W, .int .i64 H]) (by simp [results, Try.results12, go_sem]) rfl ⟨ret_rect hr.out, ?_⟩
    (repeat (first | with_reducible exact Below.refl _ _ | with_reducible refine Below.alloc ?_ (by simp; try omega) _ | with_reducible refine Below.setCell ?_ (by simp; try omega) _ | with_reducible refine below_drewN ?_ _ | with_reducible refine Below.drew ?_))
end Fb
