/- The reference's Over returns what the plain law says. Condition: pixels that may be. -/
import Derived.Test.YtgkemeclpidmcaaBlendWalk
namespace Fb
open Go Go.Proofs Go.RowKit Go.Sort
set_option maxRecDepth 100000 in
set_option maxHeartbeats 1600000 in
theorem rover_any (av aa bv ba : Int) (h1 : 0 ≤ av ∧ av ≤ 255) (h2 : 0 ≤ aa ∧ aa ≤ 255) (h3 : 0 ≤ bv ∧ bv ≤ 255) (h4 : 0 ≤ ba ∧ ba ≤ 255) (w : World) :
    Calls Try.prog 72 #[.agg #[.int .i64 av, .int .i64 aa], .agg #[.int .i64 bv, .int .i64 ba]] w (Ret (.agg #[.int .i64 (overV av aa bv ba), .int .i64 (overA aa ba)]) w) := by
  have p1 : 0 ≤ (255 - aa) * ba := Int.mul_nonneg (by omega) (by omega)
  have p2 : (255 - aa) * ba ≤ (255 - aa) * 255 := Int.mul_le_mul_of_nonneg_left (by omega) (by omega)
  have p3 : 0 ≤ av * aa := Int.mul_nonneg (by omega) (by omega)
  have p4 : av * aa ≤ 255 * aa := Int.mul_le_mul_of_nonneg_right (by omega) (by omega)
  have tb := through_bd aa ba h2 h4
  have p5 : 0 ≤ bv * through aa ba := Int.mul_nonneg (by omega) (by omega)
  have p6 : bv * through aa ba ≤ 255 * through aa ba := Int.mul_le_mul_of_nonneg_right (by omega) (by omega)
  by_cases hz : aa + through aa ba = 0
  · have hr := hid (over_zero (av := av) (bv := bv) hz)
    unfold through at tb p5 p6 hz
    have hz' : (aa + (255 - aa) * ba / 255 == 0) = true := by simp; exact hz
    clear hz
    go_enter Try.func72, Try.ntmps72
    go_wp2
    refine bodyPost_ret (v := .agg #[.int .i64 0, .int .i64 0]) (by simp [results, Try.results72, go_sem]) rfl ⟨ret_px hr.out.1 hr.out.2, ?_⟩
    (repeat (first | with_reducible exact Below.refl _ _ | with_reducible refine Below.alloc ?_ (by simp; try omega) _ | with_reducible refine Below.setCell ?_ (by simp; try omega) _ | with_reducible refine below_drewN ?_ _ | with_reducible refine Below.drew ?_))
  · have hr := hid (over_some (av := av) (bv := bv) hz)
    have hs := hid (show overA aa ba = aa + through aa ba from rfl)
    unfold through at tb p5 p6 hz hr hs
    have hz' : (aa + (255 - aa) * ba / 255 == 0) = false := by simp; exact hz
    have hz2 : 1 ≤ aa + (255 - aa) * ba / 255 := by omega
    clear hz
    go_enter Try.func72, Try.ntmps72
    go_wp2_with fail
    generalize ht : (255 - aa) * ba / 255 = t at *
    clear ht p1 p2
    generalize hx : av * aa = x at *
    generalize hy : bv * t = y at *
    have s1 : IntKind.i64.wrap x = x := IntWalk.i64_in _ (by omega)
    have s2 : IntKind.i64.wrap y = y := IntWalk.i64_in _ (by omega)
    have s3 : IntKind.i64.wrap (x + y) = x + y := IntWalk.i64_in _ (by omega)
    have s4 : IntKind.i64.wrap (aa + t) = aa + t := IntWalk.i64_in _ (by omega)
    have dd : 0 ≤ (x + y) / (aa + t) := Int.ediv_nonneg (by omega) (by omega)
    have dd2 : (x + y) / (aa + t) ≤ x + y := by
      exact Int.ediv_le_self _ (by omega)
    have s5 : IntKind.i64.wrap ((x + y) / (aa + t)) = (x + y) / (aa + t) := IntWalk.i64_in _ (by omega)
    have s6 : Int.tdiv (x + y) (aa + t) = (x + y) / (aa + t) := Int.tdiv_eq_ediv_of_nonneg (by omega)
    have s7 : ((aa + t) == 0) = false := by simp; omega
    have s8 : 0 ≤ x + y := by omega
    go_region
    all_goals
      clear s1 s2 s3 s4 s5 s6
      go_wp2_with fail
      refine bodyPost_ret (v := .agg #[.int .i64 ((x + y) / (aa + t)), .int .i64 (aa + t)]) (by simp [results, Try.results72, go_sem]) rfl ⟨ret_px hr.out hs.out, ?_⟩
      (repeat (first | with_reducible exact Below.refl _ _ | with_reducible refine Below.alloc ?_ (by simp; try omega) _ | with_reducible refine Below.setCell ?_ (by simp; try omega) _ | with_reducible refine below_drewN ?_ _ | with_reducible refine Below.drew ?_))
end Fb
