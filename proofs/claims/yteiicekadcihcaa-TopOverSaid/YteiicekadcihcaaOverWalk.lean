/- blend.Over, the reference's Over and the two tests of a pixel: they return what the plain laws say. Conditions: pixels that may be (for Over). -/
import Derived.Test.YteiicekadcihcaaOverLaw
import Derived.Test.YteiicekadcihcaaErr
namespace Fb
open Go Go.Proofs Go.RowKit
theorem over_zero {av aa bv ba : Int} (h : aa + through aa ba = 0) : overV av aa bv ba = 0 ∧ overA aa ba = 0 := by unfold overV overA; rw [if_pos h]; exact ⟨rfl, h⟩
theorem over_some {av aa bv ba : Int} (h : aa + through aa ba ≠ 0) : overV av aa bv ba = (av * aa + bv * through aa ba) / (aa + through aa ba) := by unfold overV; rw [if_neg h]
theorem ret_px {a b c d : Int} (h1 : c = a) (h2 : d = b) : Ending.returned (.agg #[.int .i64 a, .int .i64 b]) = .returned (.agg #[.int .i64 c, .int .i64 d]) := by rw [h1, h2]
set_option maxRecDepth 100000 in
set_option maxHeartbeats 800000 in
theorem over_any (av aa bv ba : Int) (h1 : 0 ≤ av ∧ av ≤ 255) (h2 : 0 ≤ aa ∧ aa ≤ 255) (h3 : 0 ≤ bv ∧ bv ≤ 255) (h4 : 0 ≤ ba ∧ ba ≤ 255) (w : World) :
    Calls Try.prog 17 #[.agg #[.int .i64 av, .int .i64 aa], .agg #[.int .i64 bv, .int .i64 ba]] w (Ret (.agg #[.int .i64 (overV av aa bv ba), .int .i64 (overA aa ba)]) w) := by
  have p1 : 0 ≤ (255 - aa) * ba := Int.mul_nonneg (by omega) (by omega)
  have p2 : (255 - aa) * ba ≤ (255 - aa) * 255 := Int.mul_le_mul_of_nonneg_left (by omega) (by omega)
  have p3 : 0 ≤ av * aa := Int.mul_nonneg (by omega) (by omega)
  have p4 : av * aa ≤ 255 * aa := Int.mul_le_mul_of_nonneg_right (by omega) (by omega)
  have tb := through_bd aa ba h2 h4
  have p5 : 0 ≤ bv * through aa ba := Int.mul_nonneg (by omega) (by omega)
  have p6 : bv * through aa ba ≤ 255 * through aa ba := Int.mul_le_mul_of_nonneg_right (by omega) (by omega)
  by_cases hz : aa + through aa ba = 0
  · have hr := hid (over_zero (av := av) (bv := bv) hz)
    unfold through at tb p5 p6 hz
    have hz' : (aa + (255 - aa) * ba / 255 == 0) = true := by simp; exact hz
    clear hz
    go_enter Try.func17, Try.ntmps17
    go_wp2
    refine bodyPost_ret (v := .agg #[.int .i64 0, .int .i64 0]) (by simp [results, Try.results17, go_sem]) rfl ⟨ret_px hr.out.1 hr.out.2, ?_⟩
    (repeat (first | with_reducible exact Below.refl _ _ | with_reducible refine Below.alloc ?_ (by simp; try omega) _ | with_reducible refine Below.setCell ?_ (by simp; try omega) _ | with_reducible refine below_drewN ?_ _ | with_reducible refine Below.drew ?_))
  · have hr := hid (over_some (av := av) (bv := bv) hz)
    have hs := hid (show overA aa ba = aa + through aa ba from rfl)
    unfold through at tb p5 p6 hz hr hs
    have hz' : (aa + (255 - aa) * ba / 255 == 0) = false := by simp; exact hz
    have hz2 : 1 ≤ aa + (255 - aa) * ba / 255 := by omega
    clear hz
    go_enter Try.func17, Try.ntmps17
    go_wp2
    refine bodyPost_ret (v := .agg #[.int .i64 ((av * aa + bv * ((255 - aa) * ba / 255)) / (aa + (255 - aa) * ba / 255)), .int .i64 (aa + (255 - aa) * ba / 255)]) (by simp [results, Try.results17, go_sem]) rfl ⟨ret_px hr.out hs.out, ?_⟩
    (repeat (first | with_reducible exact Below.refl _ _ | with_reducible refine Below.alloc ?_ (by simp; try omega) _ | with_reducible refine Below.setCell ?_ (by simp; try omega) _ | with_reducible refine below_drewN ?_ _ | with_reducible refine Below.drew ?_))
def pixB (v a : Int) : Bool := decide (0 ≤ v ∧ v ≤ 255 ∧ 0 ≤ a ∧ a ≤ 255)
set_option maxRecDepth 100000 in
set_option maxHeartbeats 800000 in
theorem tpixel_any (v a : Int) (w : World) :
    Calls Try.prog 18 #[.agg #[.int .i64 v, .int .i64 a]] w (Ret (.bool (pixB v a)) w) := by
  go_enter Try.func18, Try.ntmps18
  go_wp2
  all_goals
    go_ret
    refine ⟨ret_bool ?_, (Below.refl _ _).alloc (Nat.le_refl _) _⟩
    unfold pixB
    rw [Bool.eq_iff_iff]
    simp
    try omega
end Fb
