/- Plain laws of one pixel before another. Conditions: shades and covers from 0 to 255. -/
import Derived.Test.YteiicekadcihcaaBase
namespace Fb
def through (a b : Int) : Int := (255 - a) * b / 255
def overV (av aa bv ba : Int) : Int := if aa + through aa ba = 0 then 0 else (av * aa + bv * through aa ba) / (aa + through aa ba)
def overA (aa ba : Int) : Int := aa + through aa ba
def PxOk (v a : Int) : Prop := 0 ≤ v ∧ v ≤ 255 ∧ 0 ≤ a ∧ a ≤ 255
theorem through_bd (a b : Int) (h1 : 0 ≤ a ∧ a ≤ 255) (h2 : 0 ≤ b ∧ b ≤ 255) : 0 ≤ through a b ∧ through a b ≤ 255 - a := by
  unfold through
  have h : 0 ≤ (255 - a) * b := Int.mul_nonneg (by omega) (by omega)
  have h' : (255 - a) * b ≤ (255 - a) * 255 := Int.mul_le_mul_of_nonneg_left (by omega) (by omega)
  omega
theorem overA_bd (aa ba : Int) (h1 : 0 ≤ aa ∧ aa ≤ 255) (h2 : 0 ≤ ba ∧ ba ≤ 255) : aa ≤ overA aa ba ∧ ba ≤ overA aa ba ∧ overA aa ba ≤ 255 := by
  have h := through_bd aa ba h1 h2
  refine ⟨by unfold overA; omega, ?_, by unfold overA; omega⟩
  unfold overA through
  have e : (255 - aa) * ba = 255 * ba - aa * ba := by rw [Int.sub_mul]
  have h3 : aa * ba ≤ aa * 255 := Int.mul_le_mul_of_nonneg_left (by omega) (by omega)
  rw [e]
  omega
theorem overV_bd (av aa bv ba : Int) (h1 : 0 ≤ aa ∧ aa ≤ 255) (h2 : 0 ≤ ba ∧ ba ≤ 255) (hc : overA aa ba ≠ 0) : min av bv ≤ overV av aa bv ba ∧ overV av aa bv ba ≤ max av bv := by
  have h := through_bd aa ba h1 h2
  unfold overA at hc
  unfold overV
  rw [if_neg hc]
  generalize through aa ba = t at *
  have hp : 0 < aa + t := by omega
  have a1 : min av bv * aa ≤ av * aa := Int.mul_le_mul_of_nonneg_right (by omega) (by omega)
  have a2 : min av bv * t ≤ bv * t := Int.mul_le_mul_of_nonneg_right (by omega) (by omega)
  have a3 : av * aa ≤ max av bv * aa := Int.mul_le_mul_of_nonneg_right (by omega) (by omega)
  have a4 : bv * t ≤ max av bv * t := Int.mul_le_mul_of_nonneg_right (by omega) (by omega)
  have e1 : min av bv * (aa + t) = min av bv * aa + min av bv * t := by rw [Int.mul_add]
  have e2 : max av bv * (aa + t) = max av bv * aa + max av bv * t := by rw [Int.mul_add]
  constructor
  · exact (Int.le_ediv_iff_mul_le hp).2 (by omega)
  · have : (av * aa + bv * t) / (aa + t) < max av bv + 1 := Int.ediv_lt_of_lt_mul hp (by rw [Int.add_mul]; omega)
    omega
theorem overV_full (av bv ba : Int) : overV av 255 bv ba = av := by
  unfold overV through
  simp
theorem overA_full (ba : Int) : overA 255 ba = 255 := by unfold overA through; simp
theorem through_zero (ba : Int) : through 0 ba = ba := by unfold through; omega
theorem overA_none (ba : Int) : overA 0 ba = ba := by unfold overA; rw [through_zero]; omega
theorem overV_none (av bv ba : Int) (h : ba ≠ 0) : overV av 0 bv ba = bv := by
  unfold overV
  rw [through_zero, if_neg (by omega)]
  simp
  exact Int.mul_ediv_cancel _ h
theorem overV_nil (av bv : Int) : overV av 0 bv 0 = 0 := by unfold overV; rw [through_zero]; rfl
end Fb
