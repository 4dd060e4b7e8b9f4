/- Plain laws of rects. No conditions. -/
import Derived.Test.YteiicekadcihcaaBase
namespace Fb
def rectFault (r : FRect) : Nat := if r.x < -20 ∨ 20 < r.x ∨ r.y < -20 ∨ 20 < r.y ∨ r.w < 0 ∨ 20 < r.w ∨ r.h < 0 ∨ 20 < r.h then 1 else 0
theorem rectFault_bd {r : FRect} (h : rectFault r = 0) : (-20 ≤ r.x ∧ r.x ≤ 20) ∧ (-20 ≤ r.y ∧ r.y ≤ 20) ∧ (0 ≤ r.w ∧ r.w ≤ 20) ∧ (0 ≤ r.h ∧ r.h ≤ 20) := by
  unfold rectFault at h
  split at h
  · cases h
  · omega
theorem rectFault_le (r : FRect) : rectFault r ≤ 1 := by unfold rectFault; split <;> omega
theorem rectFault_zero {r : FRect} (h : (-20 ≤ r.x ∧ r.x ≤ 20) ∧ (-20 ≤ r.y ∧ r.y ≤ 20) ∧ (0 ≤ r.w ∧ r.w ≤ 20) ∧ (0 ≤ r.h ∧ r.h ≤ 20)) : rectFault r = 0 := by
  unfold rectFault
  rw [if_neg (by omega)]
theorem rectFault_one {r : FRect} (h : r.x < -20 ∨ 20 < r.x ∨ r.y < -20 ∨ 20 < r.y ∨ r.w < 0 ∨ 20 < r.w ∨ r.h < 0 ∨ 20 < r.h) : rectFault r = 1 := by
  unfold rectFault
  rw [if_pos h]
def hasB (r : FRect) (x y : Int) : Bool := decide (r.x ≤ x ∧ x < r.x + r.w ∧ r.y ≤ y ∧ y < r.y + r.h)
/-- the rect that both have -/
def both (a b : FRect) : FRect :=
  if min (a.x + a.w) (b.x + b.w) - max a.x b.x ≤ 0 ∨ min (a.y + a.h) (b.y + b.h) - max a.y b.y ≤ 0 then ⟨0, 0, 0, 0⟩
  else ⟨max a.x b.x, max a.y b.y, min (a.x + a.w) (b.x + b.w) - max a.x b.x, min (a.y + a.h) (b.y + b.h) - max a.y b.y⟩
theorem both_has (a b : FRect) (x y : Int) : hasB (both a b) x y = (hasB a x y && hasB b x y) := by
  unfold both hasB
  rw [Bool.eq_iff_iff]
  simp only [Bool.and_eq_true, decide_eq_true_eq]
  split
  · constructor
    · intro h; simp at h; omega
    · intro h; simp; omega
  · simp; omega
theorem both_comm (a b : FRect) : both a b = both b a := by
  unfold both
  rw [Int.min_comm (a.x + a.w), Int.min_comm (a.y + a.h), Int.max_comm a.x, Int.max_comm a.y]
theorem both_self (a : FRect) (h1 : 0 ≤ a.w) (h2 : 0 ≤ a.h) : both a a = if a.w = 0 ∨ a.h = 0 then ⟨0, 0, 0, 0⟩ else a := by
  unfold both
  simp only [Int.min_self, Int.max_self]
  by_cases h : a.w = 0 ∨ a.h = 0
  · rw [if_pos h, if_pos (by omega)]
  · rw [if_neg h, if_neg (by omega)]
    cases a; simp; omega
/-- bounds of the rect that both have -/
theorem both_bd (a b : FRect) (hb : b.x ≤ 1000 ∧ b.y ≤ 1000) (ha : -1000 ≤ a.x ∧ a.x ≤ 1000 ∧ -1000 ≤ a.y ∧ a.y ≤ 1000 ∧ 0 ≤ a.w ∧ a.w ≤ 1000 ∧ 0 ≤ a.h ∧ a.h ≤ 1000) :
    (-1000 ≤ (both a b).x ∧ (both a b).x ≤ 1000 ∧ -1000 ≤ (both a b).y ∧ (both a b).y ≤ 1000 ∧ 0 ≤ (both a b).w ∧ (both a b).w ≤ 1000 ∧ 0 ≤ (both a b).h ∧ (both a b).h ≤ 1000) := by
  unfold both
  split
  · simp
  · simp; omega
/-- what is in both is in the first -/
theorem both_in (a b : FRect) (h : 0 < (both a b).w ∨ 0 < (both a b).h) : a.x ≤ (both a b).x ∧ (both a b).x + (both a b).w ≤ a.x + a.w ∧ a.y ≤ (both a b).y ∧ (both a b).y + (both a b).h ≤ a.y + a.h ∧
    b.x ≤ (both a b).x ∧ (both a b).x + (both a b).w ≤ b.x + b.w ∧ b.y ≤ (both a b).y ∧ (both a b).y + (both a b).h ≤ b.y + b.h := by
  unfold both at h ⊢
  split
  · rename_i h'
    rw [if_pos h'] at h
    simp at h
  · simp; omega
end Fb
