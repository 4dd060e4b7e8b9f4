/- Pixels changed one after the other inside a rect, row by row, in plain Lean. Conditions: those of each lemma. -/
import Derived.Test.YtgkemeclpidmcaaBlendLaw
import Derived.Test.YtgkemeclpidmcaaRectBoth
namespace Fb
/-- the rect R is just where c says, inside w columns and h rows -/
structure Area (w h : Nat) (c : Nat → Nat → Bool) (R : FRect) : Prop where
  x0 : 0 ≤ R.x
  y0 : 0 ≤ R.y
  w0 : 0 ≤ R.w
  h0 : 0 ≤ R.h
  xw : R.x + R.w ≤ w
  yh : R.y + R.h ≤ h
  has : ∀ j i : Nat, j < h → i < w → c j i = hasB R i j
/-- what is changed ahead of row j, column i -/
def doneB (c : Nat → Nat → Bool) (j i : Nat) : Nat → Nat → Bool := fun j' i' => c j' i' && (decide (j' < j) || (decide (j' = j) && decide (i' < i)))
def upd (w : Nat) (l : List Px) (c : Nat → Nat → Bool) (v : Nat → Nat → Px) (j i : Nat) : List Px := updL w l (doneB c j i) v
theorem upd_len (w : Nat) (l : List Px) (c v j i) : (upd w l c v j i).length = l.length := updL_len _ _ _ _
theorem kdiv {w h k : Nat} (hw : 0 < w) (hk : k < w * h) : k / w < h ∧ k % w < w := ⟨Nat.div_lt_of_lt_mul hk, Nat.mod_lt _ hw⟩
theorem has_iff {R : FRect} {j i : Nat} : hasB R (i : Int) (j : Int) = true ↔ (R.x ≤ i ∧ (i : Int) < R.x + R.w ∧ R.y ≤ j ∧ (j : Int) < R.y + R.h) := by unfold hasB; simp
variable {w h : Nat} {l : List Px} {c : Nat → Nat → Bool} {v : Nat → Nat → Px} {R : FRect}
theorem upd_congr (hw : 0 < w) (hl : l.length = w * h) {j i j2 i2 : Nat} (H : ∀ a b, a < h → b < w → doneB c j i a b = doneB c j2 i2 a b) : upd w l c v j i = upd w l c v j2 i2 := by
  refine updL_congr (fun k hk => ?_) (fun _ _ _ => rfl)
  obtain ⟨h1, h2⟩ := kdiv hw (by rw [hl] at hk; exact hk)
  exact H _ _ h1 h2
theorem upd_start (A : Area w h c R) (hw : 0 < w) (hl : l.length = w * h) {j : Nat} (hj : (j : Int) = R.y) : upd w l c v j 0 = l := by
  have e : upd w l c v j 0 = updL w l (fun _ _ => false) v := by
    refine updL_congr (fun k hk => ?_) (fun k hk hc => ?_)
    · obtain ⟨h1, h2⟩ := kdiv hw (by rw [hl] at hk; exact hk)
      unfold doneB
      rw [A.has _ _ h1 h2]
      by_cases hh : hasB R ((k % w : Nat) : Int) ((k / w : Nat) : Int) = true
      · have := has_iff.1 hh
        have : ¬ k / w < j := by omega
        simp [this]
      · rw [Bool.eq_false_iff.2 hh]; rfl
    · rfl
  rw [e, updL_none (fun _ _ => rfl)]
theorem upd_row (A : Area w h c R) (hw : 0 < w) (hl : l.length = w * h) {j i : Nat} (hi : (i : Int) = R.x) : upd w l c v j 0 = upd w l c v j i := by
  refine upd_congr hw hl fun a b ha hb => ?_
  unfold doneB
  rw [A.has _ _ ha hb]
  by_cases hh : hasB R (b : Int) (a : Int) = true
  · have := has_iff.1 hh
    have e1 : ¬ b < i := by omega
    simp [e1]
  · simp [hh]
theorem upd_end (A : Area w h c R) (hw : 0 < w) (hl : l.length = w * h) {j i : Nat} (hi : R.x + R.w ≤ (i : Int)) : upd w l c v j i = upd w l c v (j + 1) 0 := by
  refine upd_congr hw hl fun a b ha hb => ?_
  unfold doneB
  rw [A.has _ _ ha hb]
  by_cases hh : hasB R (b : Int) (a : Int) = true
  · have := has_iff.1 hh
    have e1 : b < i := by omega
    rw [hh]
    simp only [Bool.true_and, e1, decide_true, Bool.and_true, Nat.not_lt_zero, decide_false, Bool.and_false, Bool.or_false]
    rw [Bool.eq_iff_iff]
    simp
    omega
  · simp [hh]
theorem upd_done (A : Area w h c R) (hw : 0 < w) (hl : l.length = w * h) {j : Nat} (hj : R.y + R.h ≤ (j : Int)) : upd w l c v j 0 = updL w l c v := by
  refine updL_congr (fun k hk => ?_) (fun _ _ _ => rfl)
  obtain ⟨h1, h2⟩ := kdiv hw (by rw [hl] at hk; exact hk)
  unfold doneB
  rw [A.has _ _ h1 h2]
  by_cases hh : hasB R ((k % w : Nat) : Int) ((k / w : Nat) : Int) = true
  · have := has_iff.1 hh
    have : k / w < j := by omega
    rw [hh]; simp [this]
  · rw [Bool.eq_false_iff.2 hh]; rfl
theorem upd_step (hl : l.length = w * h) {j i : Nat} (hj : j < h) (hi : i < w) (hc : c j i = true) : (upd w l c v j i).set (j * w + i) (v j i) = upd w l c v j (i + 1) := by
  refine updL_set hi (by rw [hl]; exact at_lt hj hi) fun a b => ?_
  unfold doneB
  by_cases h1 : a = j
  · subst h1
    by_cases h2 : b = i
    · subst h2; simp [hc]
    · have : (b < i + 1) ↔ b < i := by omega
      simp [h2, this]
  · simp [h1]
theorem upd_skip {j i : Nat} (hc : c j i = false) : upd w l c v j i = upd w l c v j (i + 1) := by
  unfold upd
  congr 1
  funext a b
  unfold doneB
  by_cases h1 : a = j
  · subst h1
    by_cases h2 : b = i
    · subst h2; simp [hc]
    · have : (b < i + 1) ↔ b < i := by omega
      simp [this]
  · simp [h1]
theorem upd_next (hw : 0 < w) (hl : l.length = w * h) {j i : Nat} (hi : w ≤ i) : upd w l c v j i = upd w l c v (j + 1) 0 := by
  refine upd_congr hw hl fun a b ha hb => ?_
  unfold doneB
  have e1 : b < i := by omega
  simp only [e1, decide_true, Bool.and_true, Nat.not_lt_zero, decide_false, Bool.and_false, Bool.or_false]
  congr 1
  rw [Bool.eq_iff_iff]
  simp
  omega
theorem upd_zero : upd w l c v 0 0 = l := by
  unfold upd
  exact updL_none fun a b => by simp [doneB]
theorem upd_all (hw : 0 < w) (hl : l.length = w * h) {j : Nat} (hj : h ≤ j) : upd w l c v j 0 = updL w l c v := by
  refine updL_congr (fun k hk => ?_) (fun _ _ _ => rfl)
  obtain ⟨h1, h2⟩ := kdiv hw (by rw [hl] at hk; exact hk)
  unfold doneB
  have : k / w < j := by omega
  simp [this]
/-- the pixel that comes next is as it was -/
theorem upd_at (hl : l.length = w * h) {j i : Nat} (hj : j < h) (hi : i < w) : (upd w l c v j i)[j * w + i]? = l[j * w + i]? := by
  have hk : j * w + i < l.length := by rw [hl]; exact at_lt hj hi
  obtain ⟨e1, e2⟩ := div_mod_at (j := j) hi
  have hk' : j * w + i < (updL w l (doneB c j i) v).length := by rw [updL_len]; exact hk
  show (updL w l (doneB c j i) v)[j * w + i]? = _
  rw [List.getElem?_eq_getElem hk', List.getElem?_eq_getElem hk, updL_at hk, e1, e2]
  simp [doneB]
theorem both_area {pw ph : Int} {Q : FRect} (h1 : 1 ≤ pw) (h2 : 1 ≤ ph) (q1 : 0 ≤ Q.w) (q2 : 0 ≤ Q.h) : Area pw.toNat ph.toNat (onB Q) (both ⟨0, 0, pw, ph⟩ Q) := by
  have hh := both_has ⟨0, 0, pw, ph⟩ Q
  by_cases hz : min (0 + pw) (Q.x + Q.w) - max 0 Q.x ≤ 0 ∨ min (0 + ph) (Q.y + Q.h) - max 0 Q.y ≤ 0
  · have hb := both_zero (a := ⟨0, 0, pw, ph⟩) (b := Q) hz
    refine ⟨by rw [hb]; simp, by rw [hb]; simp, by rw [hb]; simp, by rw [hb]; simp, by rw [hb]; simp; omega, by rw [hb]; simp; omega, fun j i hj hi => ?_⟩
    rw [hh]
    have : hasB ⟨0, 0, pw, ph⟩ (i : Int) (j : Int) = true := by unfold hasB; simp; omega
    rw [this]; rfl
  · have hb := both_some (a := ⟨0, 0, pw, ph⟩) (b := Q) hz
    refine ⟨by rw [hb]; simp; omega, by rw [hb]; simp; omega, by rw [hb]; simp; omega, by rw [hb]; simp; omega, by rw [hb]; simp; omega, by rw [hb]; simp; omega, fun j i hj hi => ?_⟩
    rw [hh]
    have : hasB ⟨0, 0, pw, ph⟩ (i : Int) (j : Int) = true := by unfold hasB; simp; omega
    rw [this]; rfl
end Fb
