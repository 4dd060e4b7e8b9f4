/- The reference's ObjectFault returns what the plain law says. Condition: few pixels. -/
import Derived.Test.YtgkemeclpidmcaaPicFault
namespace Fb
open Go Go.Proofs Go.RowKit Go.Sort
def objFault (o : FObj) : Nat := if 1 ≤ o.id ∧ o.id ≤ 6 ∧ -20 ≤ o.x ∧ o.x ≤ 20 ∧ -20 ≤ o.y ∧ o.y ≤ 20 then (if rectFault o.clip = 0 then picFault o.pic else 1) else 1
theorem objFault_le (o : FObj) : objFault o ≤ 3 := by
  have := picFault_le o.pic
  unfold objFault
  split
  · split <;> omega
  · omega
/-- an object that may be -/
def ObjFine (o : FObj) : Prop := (1 ≤ o.id ∧ o.id ≤ 6 ∧ -20 ≤ o.x ∧ o.x ≤ 20 ∧ -20 ≤ o.y ∧ o.y ≤ 20) ∧ rectFault o.clip = 0 ∧ PicFine o.pic
theorem objFault_fine {o : FObj} : objFault o = 0 ↔ ObjFine o := by
  unfold objFault ObjFine
  constructor
  · intro h
    by_cases h1 : 1 ≤ o.id ∧ o.id ≤ 6 ∧ -20 ≤ o.x ∧ o.x ≤ 20 ∧ -20 ≤ o.y ∧ o.y ≤ 20
    · rw [if_pos h1] at h
      by_cases h2 : rectFault o.clip = 0
      · rw [if_pos h2] at h
        exact ⟨h1, h2, picFault_fine.1 h⟩
      · rw [if_neg h2] at h; cases h
    · rw [if_neg h1] at h; cases h
  · rintro ⟨h1, h2, h3⟩
    rw [if_pos h1, if_pos h2]
    exact picFault_fine.2 h3
theorem obj_ways (i x y : Int) : (i < 1) ∨ (1 ≤ i ∧ 6 < i) ∨ (1 ≤ i ∧ i ≤ 6 ∧ x < -20) ∨ (1 ≤ i ∧ i ≤ 6 ∧ -20 ≤ x ∧ 20 < x) ∨ (1 ≤ i ∧ i ≤ 6 ∧ -20 ≤ x ∧ x ≤ 20 ∧ y < -20) ∨ (1 ≤ i ∧ i ≤ 6 ∧ -20 ≤ x ∧ x ≤ 20 ∧ -20 ≤ y ∧ 20 < y) ∨
    (1 ≤ i ∧ i ≤ 6 ∧ -20 ≤ x ∧ x ≤ 20 ∧ -20 ≤ y ∧ y ≤ 20) := by omega
end Fb
