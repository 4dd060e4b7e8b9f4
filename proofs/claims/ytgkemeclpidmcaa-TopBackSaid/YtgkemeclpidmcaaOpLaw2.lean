/- Ops, in plain Lean: the numbers' bounds as two lists. Conditions: a kind that there is. -/
import Derived.Test.YtgkemeclpidmcaaOpLaw
namespace Fb
def lows (k : Int) : List Int := if k = 1 then [1, 1, 0, 0] else if k = 3 ∨ k = 8 ∨ k = 9 ∨ k = 4 then [-20, -20, 0, 0] else if k = 6 then [1, 0, 0, 0] else [0, 0, 0, 0]
def highs (k : Int) : List Int := if k = 1 then [8, 8, 0, 0] else if k = 3 ∨ k = 8 ∨ k = 9 then [20, 20, 0, 0] else if k = 4 then [20, 20, 20, 20] else if k = 5 then [1, 0, 0, 0] else if k = 6 then [6, 0, 0, 0] else if k = 10 then [255, 255, 0, 0] else if k = 11 then [99, 0, 0, 0] else if k = 12 then [9, 0, 0, 0] else [0, 0, 0, 0]
/-- number j of an op lies between the bounds -/
def inJ (o : FOp) (j : Nat) : Prop := (lows o.kind).getD j 0 ≤ (opNums o).getD j 0 ∧ (opNums o).getD j 0 ≤ (highs o.kind).getD j 0
theorem all_four {M : Nat} (hM : M ≤ 4) {p : Nat → Prop} : (∀ j, j < M → p j) ↔ (0 < M → p 0) ∧ (1 < M → p 1) ∧ (2 < M → p 2) ∧ (3 < M → p 3) := by
  constructor
  · intro h; exact ⟨h 0, h 1, h 2, h 3⟩
  · rintro ⟨h0, h1, h2, h3⟩ j hj
    match j, hj with
    | 0, hj => exact h0 hj
    | 1, hj => exact h1 hj
    | 2, hj => exact h2 hj
    | 3, hj => exact h3 hj
    | j + 4, hj => omega
theorem boundB_iff {o : FOp} (h1 : 1 ≤ o.kind) (h2 : o.kind ≤ 16) : boundB o = true ↔ ∀ j, j < manyN o.kind → inJ o j := by
  rw [all_four (manyN_le _)]
  obtain ⟨k, i, a, b, c, d, p⟩ := o
  simp only at h1 h2
  rcases (show k = 1 ∨ k = 2 ∨ k = 3 ∨ k = 4 ∨ k = 5 ∨ k = 6 ∨ k = 7 ∨ k = 8 ∨ k = 9 ∨ k = 10 ∨ k = 11 ∨ k = 12 ∨ k = 13 ∨ k = 14 ∨ k = 15 ∨ k = 16 by omega) with rfl | rfl | rfl | rfl | rfl | rfl | rfl | rfl | rfl | rfl | rfl | rfl | rfl | rfl | rfl | rfl
  all_goals
    simp [boundB, manyN, inJ, lows, highs, opNums, inB, rectFault]
  all_goals (try omega)
end Fb
