/- package rect and the reference's two: they return what the plain laws of rects say. Conditions: bounds on places and sides. rect.Both returns the rect that both have. Conditions: bounds on places and sides. Pixels changed one after the other inside a rect, row by row, in plain Lean. Conditions: those of each lemma. Pictures that an object was laid on, or that were added or put: pixel by pixel, in plain Lean. Conditions: pictures and objects that may be. blend.Over, the reference's Over and the two tests of a pixel: they return what the plain laws say. Conditions: pixels that may be (for Over). slices.Clone at pixels, blend.whole, the closures of Add and Put, the reference's Over. Conditions: bounds on lengths and pixels. The reference's Over returns what the plain law says. Condition: pixels that may be. slices.Repeat of one pixel, and blend.Plain: so many of that pixel, in new memory. Conditions: from 1 to 1000 pixels. -/
import Derived.Test.YtgkemeclpidmcaaPlainA
import Derived.RegionTactic
import Derived.Laws.CopyOwn
import Derived.Lib.Mul64
import Derived.Laws.Bits64b
import Derived.Deep.RegionLaw
namespace Fb
open Go Go.Proofs Go.RowKit
set_option maxRecDepth 100000 in
set_option maxHeartbeats 400000 in
theorem rhas_any (r : FRect) (x y : Int) (h1 : -1000 ≤ r.x ∧ r.x ≤ 1000) (h2 : -1000 ≤ r.y ∧ r.y ≤ 1000) (h3 : 0 ≤ r.w ∧ r.w ≤ 1000) (h4 : 0 ≤ r.h ∧ r.h ≤ 1000) (w : World) :
    Calls Try.prog 71 #[.agg #[.int .i64 r.x, .int .i64 r.y, .int .i64 r.w, .int .i64 r.h], .int .i64 x, .int .i64 y] w (Ret (.bool (hasB r x y)) w) := by
  go_enter Try.func71, Try.ntmps71
  go_wp2
  all_goals
    go_ret
    refine ⟨ret_bool ?_, (Below.refl _ _).alloc (Nat.le_refl _) _⟩
    unfold hasB
    rw [Bool.eq_iff_iff]
    simp
    try omega
theorem rect_ways (r : FRect) : (r.x < -20) ∨ (-20 ≤ r.x ∧ 20 < r.x) ∨ (-20 ≤ r.x ∧ r.x ≤ 20 ∧ r.y < -20) ∨ (-20 ≤ r.x ∧ r.x ≤ 20 ∧ -20 ≤ r.y ∧ 20 < r.y) ∨ (-20 ≤ r.x ∧ r.x ≤ 20 ∧ -20 ≤ r.y ∧ r.y ≤ 20 ∧ r.w < 0) ∨
    (-20 ≤ r.x ∧ r.x ≤ 20 ∧ -20 ≤ r.y ∧ r.y ≤ 20 ∧ 0 ≤ r.w ∧ 20 < r.w) ∨ (-20 ≤ r.x ∧ r.x ≤ 20 ∧ -20 ≤ r.y ∧ r.y ≤ 20 ∧ 0 ≤ r.w ∧ r.w ≤ 20 ∧ r.h < 0) ∨
    (-20 ≤ r.x ∧ r.x ≤ 20 ∧ -20 ≤ r.y ∧ r.y ≤ 20 ∧ 0 ≤ r.w ∧ r.w ≤ 20 ∧ 0 ≤ r.h ∧ 20 < r.h) ∨ (-20 ≤ r.x ∧ r.x ≤ 20 ∧ -20 ≤ r.y ∧ r.y ≤ 20 ∧ 0 ≤ r.w ∧ r.w ≤ 20 ∧ 0 ≤ r.h ∧ r.h ≤ 20) := by
  by_cases c1 : r.x < -20
  · exact .inl c1
  by_cases c2 : 20 < r.x
  · exact .inr (.inl ⟨by omega, c2⟩)
  by_cases c3 : r.y < -20
  · exact .inr (.inr (.inl ⟨by omega, by omega, c3⟩))
  by_cases c4 : 20 < r.y
  · exact .inr (.inr (.inr (.inl ⟨by omega, by omega, by omega, c4⟩)))
  by_cases c5 : r.w < 0
  · exact .inr (.inr (.inr (.inr (.inl ⟨by omega, by omega, by omega, by omega, c5⟩))))
  by_cases c6 : 20 < r.w
  · exact .inr (.inr (.inr (.inr (.inr (.inl ⟨by omega, by omega, by omega, by omega, by omega, c6⟩)))))
  by_cases c7 : r.h < 0
  · exact .inr (.inr (.inr (.inr (.inr (.inr (.inl ⟨by omega, by omega, by omega, by omega, by omega, by omega, c7⟩))))))
  by_cases c8 : 20 < r.h
  · exact .inr (.inr (.inr (.inr (.inr (.inr (.inr (.inl ⟨by omega, by omega, by omega, by omega, by omega, by omega, by omega, c8⟩)))))))
  · exact .inr (.inr (.inr (.inr (.inr (.inr (.inr (.inr ⟨by omega, by omega, by omega, by omega, by omega, by omega, by omega, by omega⟩)))))))
set_option maxRecDepth 100000 in
set_option maxHeartbeats 800000 in
theorem rcheck_any (r : FRect) (w : World) :
    Calls Try.prog 82 #[.agg #[.int .i64 r.x, .int .i64 r.y, .int .i64 r.w, .int .i64 r.h]] w (Ret (errV (rectFault r)) w) := by
  rcases rect_ways r with h | h | h | h | h | h | h | h | h
  all_goals
    go_enter Try.func82, Try.ntmps82
    go_wp2
    go_ret
    refine ⟨?_, (Below.refl _ _).alloc (Nat.le_refl _) _⟩
    first
      | (rw [rectFault_one (by omega)]; rfl)
      | (rw [rectFault_zero (by omega)]; rfl)
end Fb
namespace Fb
open Go Go.Proofs Go.RowKit
theorem ite_max (x y : Int) : (if x < y then y else x) = max x y := by omega
theorem ite_min (x y : Int) : (if y < x then y else x) = min x y := by omega
theorem both_zero {a b : FRect} (h : min (a.x + a.w) (b.x + b.w) - max a.x b.x ≤ 0 ∨ min (a.y + a.h) (b.y + b.h) - max a.y b.y ≤ 0) : both a b = ⟨0, 0, 0, 0⟩ := by unfold both; rw [if_pos h]
theorem both_some {a b : FRect} (h : ¬ (min (a.x + a.w) (b.x + b.w) - max a.x b.x ≤ 0 ∨ min (a.y + a.h) (b.y + b.h) - max a.y b.y ≤ 0)) : both a b = ⟨max a.x b.x, max a.y b.y, min (a.x + a.w) (b.x + b.w) - max a.x b.x, min (a.y + a.h) (b.y + b.h) - max a.y b.y⟩ := by unfold both; rw [if_neg h]
theorem ret_rect {r s : FRect} (h : s = r) : Ending.returned (.agg #[.int .i64 r.x, .int .i64 r.y, .int .i64 r.w, .int .i64 r.h]) = .returned (.agg #[.int .i64 s.x, .int .i64 s.y, .int .i64 s.w, .int .i64 s.h]) := by rw [h]
set_option maxRecDepth 100000 in
set_option maxHeartbeats 800000 in
theorem both_any (a b : FRect) (h1 : -1000 ≤ a.x ∧ a.x ≤ 1000) (h2 : -1000 ≤ a.y ∧ a.y ≤ 1000) (h3 : 0 ≤ a.w ∧ a.w ≤ 1000) (h4 : 0 ≤ a.h ∧ a.h ≤ 1000)
    (h5 : -1000 ≤ b.x ∧ b.x ≤ 1000) (h6 : -1000 ≤ b.y ∧ b.y ≤ 1000) (h7 : 0 ≤ b.w ∧ b.w ≤ 1000) (h8 : 0 ≤ b.h ∧ b.h ≤ 1000) (w : World) :
    Calls Try.prog 85 #[.agg #[.int .i64 a.x, .int .i64 a.y, .int .i64 a.w, .int .i64 a.h], .agg #[.int .i64 b.x, .int .i64 b.y, .int .i64 b.w, .int .i64 b.h]] w
      (Ret (.agg #[.int .i64 (both a b).x, .int .i64 (both a b).y, .int .i64 (both a b).w, .int .i64 (both a b).h]) w) := by
  have m1 := ite_max a.x b.x
  have m2 := ite_max a.y b.y
  have m3 := ite_min (a.x + a.w) (b.x + b.w)
  have m4 := ite_min (a.y + a.h) (b.y + b.h)
  have B1 : -1000 ≤ max a.x b.x ∧ max a.x b.x ≤ 1000 := by omega
  have B2 : -1000 ≤ max a.y b.y ∧ max a.y b.y ≤ 1000 := by omega
  have B3 : -1000 ≤ min (a.x + a.w) (b.x + b.w) ∧ min (a.x + a.w) (b.x + b.w) ≤ 2000 := by omega
  have B4 : -1000 ≤ min (a.y + a.h) (b.y + b.h) ∧ min (a.y + a.h) (b.y + b.h) ≤ 2000 := by omega
  have s1 : IntKind.i64.wrap (a.x + a.w) = a.x + a.w := IntWalk.i64_in _ (by omega)
  have s2 : IntKind.i64.wrap (b.x + b.w) = b.x + b.w := IntWalk.i64_in _ (by omega)
  have s3 : IntKind.i64.wrap (a.y + a.h) = a.y + a.h := IntWalk.i64_in _ (by omega)
  have s4 : IntKind.i64.wrap (b.y + b.h) = b.y + b.h := IntWalk.i64_in _ (by omega)
  have s5 : IntKind.i64.wrap (min (a.x + a.w) (b.x + b.w) - max a.x b.x) = min (a.x + a.w) (b.x + b.w) - max a.x b.x := IntWalk.i64_in _ (by omega)
  have s6 : IntKind.i64.wrap (min (a.y + a.h) (b.y + b.h) - max a.y b.y) = min (a.y + a.h) (b.y + b.h) - max a.y b.y := IntWalk.i64_in _ (by omega)
  go_enter Try.func85, Try.ntmps85
  go_wp2_with fail
  go_quiet (fail)
  clear m1 m2
  go_wp2_with fail
  go_quiet (fail)
  clear m3 m4 s1 s2 s3 s4 s5 s6
  have hz := hid (both_zero (a := a) (b := b))
  have hs := hid (both_some (a := a) (b := b))
  clear B1 B2 B3 B4
  generalize max a.x b.x = X at *
  generalize max a.y b.y = Y at *
  generalize min (a.x + a.w) (b.x + b.w) - X = W at *
  generalize min (a.y + a.h) (b.y + b.h) - Y = H at *
  by_cases hW : W ≤ 0
  · have hr := hid (hz.out (.inl hW))
    clear hz hs
    go_wp2
    refine bodyPost_ret (v := .agg #[.int .i64 0, .int .i64 0, .int .i64 0, .int .i64 0]) (by simp [results, Try.results85, go_sem]) rfl ⟨ret_rect hr.out, ?_⟩
    (repeat (first | with_reducible exact Below.refl _ _ | with_reducible refine Below.alloc ?_ (by simp; try omega) _ | with_reducible refine Below.setCell ?_ (by simp; try omega) _ | with_reducible refine below_drewN ?_ _ | with_reducible refine Below.drew ?_))
  by_cases hH : H ≤ 0
  · have hr := hid (hz.out (.inr hH))
    clear hz hs
    go_wp2
    refine bodyPost_ret (v := .agg #[.int .i64 0, .int .i64 0, .int .i64 0, .int .i64 0]) (by simp [results, Try.results85, go_sem]) rfl ⟨ret_rect hr.out, ?_⟩
    (repeat (first | with_reducible exact Below.refl _ _ | with_reducible refine Below.alloc ?_ (by simp; try omega) _ | with_reducible refine Below.setCell ?_ (by simp; try omega) _ | with_reducible refine below_drewN ?_ _ | with_reducible refine Below.drew ?_))
  · have hr := hid (hs.out (by omega))
    clear hz hs
    go_wp2
    refine bodyPost_ret (v := .agg #[.int .i64 X, .int .i64 Y, .int .i64 W, .int .i64 H]) (by simp [results, Try.results85, go_sem]) rfl ⟨ret_rect hr.out, ?_⟩
    (repeat (first | with_reducible exact Below.refl _ _ | with_reducible refine Below.alloc ?_ (by simp; try omega) _ | with_reducible refine Below.setCell ?_ (by simp; try omega) _ | with_reducible refine below_drewN ?_ _ | with_reducible refine Below.drew ?_))
end Fb
namespace Fb
/-- the rect R is just where c says, inside w columns and h rows -/
structure Area (w h : Nat) (c : Nat → Nat → Bool) (R : FRect) : Prop where
  x0 : 0 ≤ R.x
  y0 : 0 ≤ R.y
  w0 : 0 ≤ R.w
  h0 : 0 ≤ R.h
  xw : R.x + R.w ≤ w
  yh : R.y + R.h ≤ h
  has : ∀ j i : Nat, j < h → i < w → c j i = hasB R i j
/-- what is changed ahead of row j, column i -/
def doneB (c : Nat → Nat → Bool) (j i : Nat) : Nat → Nat → Bool := fun j' i' => c j' i' && (decide (j' < j) || (decide (j' = j) && decide (i' < i)))
def upd (w : Nat) (l : List Px) (c : Nat → Nat → Bool) (v : Nat → Nat → Px) (j i : Nat) : List Px := updL w l (doneB c j i) v
theorem upd_len (w : Nat) (l : List Px) (c v j i) : (upd w l c v j i).length = l.length := updL_len _ _ _ _
theorem kdiv {w h k : Nat} (hw : 0 < w) (hk : k < w * h) : k / w < h ∧ k % w < w := ⟨Nat.div_lt_of_lt_mul hk, Nat.mod_lt _ hw⟩
theorem has_iff {R : FRect} {j i : Nat} : hasB R (i : Int) (j : Int) = true ↔ (R.x ≤ i ∧ (i : Int) < R.x + R.w ∧ R.y ≤ j ∧ (j : Int) < R.y + R.h) := by unfold hasB; simp
variable {w h : Nat} {l : List Px} {c : Nat → Nat → Bool} {v : Nat → Nat → Px} {R : FRect}
theorem upd_congr (hw : 0 < w) (hl : l.length = w * h) {j i j2 i2 : Nat} (H : ∀ a b, a < h → b < w → doneB c j i a b = doneB c j2 i2 a b) : upd w l c v j i = upd w l c v j2 i2 := by
  refine updL_congr (fun k hk => ?_) (fun _ _ _ => rfl)
  obtain ⟨h1, h2⟩ := kdiv hw (by rw [hl] at hk; exact hk)
  exact H _ _ h1 h2
theorem upd_start (A : Area w h c R) (hw : 0 < w) (hl : l.length = w * h) {j : Nat} (hj : (j : Int) = R.y) : upd w l c v j 0 = l := by
  have e : upd w l c v j 0 = updL w l (fun _ _ => false) v := by
    refine updL_congr (fun k hk => ?_) (fun k hk hc => ?_)
    · obtain ⟨h1, h2⟩ := kdiv hw (by rw [hl] at hk; exact hk)
      unfold doneB
      rw [A.has _ _ h1 h2]
      by_cases hh : hasB R ((k % w : Nat) : Int) ((k / w : Nat) : Int) = true
      · have := has_iff.1 hh
        have : ¬ k / w < j := by omega
        simp [this]
      · rw [Bool.eq_false_iff.2 hh]; rfl
    · rfl
  rw [e, updL_none (fun _ _ => rfl)]
theorem upd_row (A : Area w h c R) (hw : 0 < w) (hl : l.length = w * h) {j i : Nat} (hi : (i : Int) = R.x) : upd w l c v j 0 = upd w l c v j i := by
  refine upd_congr hw hl fun a b ha hb => ?_
  unfold doneB
  rw [A.has _ _ ha hb]
  by_cases hh : hasB R (b : Int) (a : Int) = true
  · have := has_iff.1 hh
    have e1 : ¬ b < i := by omega
    simp [e1]
  · simp [hh]
theorem upd_end (A : Area w h c R) (hw : 0 < w) (hl : l.length = w * h) {j i : Nat} (hi : R.x + R.w ≤ (i : Int)) : upd w l c v j i = upd w l c v (j + 1) 0 := by
  refine upd_congr hw hl fun a b ha hb => ?_
  unfold doneB
  rw [A.has _ _ ha hb]
  by_cases hh : hasB R (b : Int) (a : Int) = true
  · have := has_iff.1 hh
    have e1 : b < i := by omega
    rw [hh]
    simp only [Bool.true_and, e1, decide_true, Bool.and_true, Nat.not_lt_zero, decide_false, Bool.and_false, Bool.or_false]
    rw [Bool.eq_iff_iff]
    simp
    omega
  · simp [hh]
theorem upd_done (A : Area w h c R) (hw : 0 < w) (hl : l.length = w * h) {j : Nat} (hj : R.y + R.h ≤ (j : Int)) : upd w l c v j 0 = updL w l c v := by
  refine updL_congr (fun k hk => ?_) (fun _ _ _ => rfl)
  obtain ⟨h1, h2⟩ := kdiv hw (by rw [hl] at hk; exact hk)
  unfold doneB
  rw [A.has _ _ h1 h2]
  by_cases hh : hasB R ((k % w : Nat) : Int) ((k / w : Nat) : Int) = true
  · have := has_iff.1 hh
    have : k / w < j := by omega
    rw [hh]; simp [this]
  · rw [Bool.eq_false_iff.2 hh]; rfl
theorem upd_step (hl : l.length = w * h) {j i : Nat} (hj : j < h) (hi : i < w) (hc : c j i = true) : (upd w l c v j i).set (j * w + i) (v j i) = upd w l c v j (i + 1) := by
  refine updL_set hi (by rw [hl]; exact at_lt hj hi) fun a b => ?_
  unfold doneB
  by_cases h1 : a = j
  · subst h1
    by_cases h2 : b = i
    · subst h2; simp [hc]
    · have : (b < i + 1) ↔ b < i := by omega
      simp [h2, this]
  · simp [h1]
theorem upd_skip {j i : Nat} (hc : c j i = false) : upd w l c v j i = upd w l c v j (i + 1) := by
  unfold upd
  congr 1
  funext a b
  unfold doneB
  by_cases h1 : a = j
  · subst h1
    by_cases h2 : b = i
    · subst h2; simp [hc]
    · have : (b < i + 1) ↔ b < i := by omega
      simp [this]
  · simp [h1]
theorem upd_next (hw : 0 < w) (hl : l.length = w * h) {j i : Nat} (hi : w ≤ i) : upd w l c v j i = upd w l c v (j + 1) 0 := by
  refine upd_congr hw hl fun a b ha hb => ?_
  unfold doneB
  have e1 : b < i := by omega
  simp only [e1, decide_true, Bool.and_true, Nat.not_lt_zero, decide_false, Bool.and_false, Bool.or_false]
  congr 1
  rw [Bool.eq_iff_iff]
  simp
  omega
theorem upd_zero : upd w l c v 0 0 = l := by
  unfold upd
  exact updL_none fun a b => by simp [doneB]
theorem upd_all (hw : 0 < w) (hl : l.length = w * h) {j : Nat} (hj : h ≤ j) : upd w l c v j 0 = updL w l c v := by
  refine updL_congr (fun k hk => ?_) (fun _ _ _ => rfl)
  obtain ⟨h1, h2⟩ := kdiv hw (by rw [hl] at hk; exact hk)
  unfold doneB
  have : k / w < j := by omega
  simp [this]
/-- the pixel that comes next is as it was -/
theorem upd_at (hl : l.length = w * h) {j i : Nat} (hj : j < h) (hi : i < w) : (upd w l c v j i)[j * w + i]? = l[j * w + i]? := by
  have hk : j * w + i < l.length := by rw [hl]; exact at_lt hj hi
  obtain ⟨e1, e2⟩ := div_mod_at (j := j) hi
  have hk' : j * w + i < (updL w l (doneB c j i) v).length := by rw [updL_len]; exact hk
  show (updL w l (doneB c j i) v)[j * w + i]? = _
  rw [List.getElem?_eq_getElem hk', List.getElem?_eq_getElem hk, updL_at hk, e1, e2]
  simp [doneB]
theorem both_area {pw ph : Int} {Q : FRect} (h1 : 1 ≤ pw) (h2 : 1 ≤ ph) (q1 : 0 ≤ Q.w) (q2 : 0 ≤ Q.h) : Area pw.toNat ph.toNat (onB Q) (both ⟨0, 0, pw, ph⟩ Q) := by
  have hh := both_has ⟨0, 0, pw, ph⟩ Q
  by_cases hz : min (0 + pw) (Q.x + Q.w) - max 0 Q.x ≤ 0 ∨ min (0 + ph) (Q.y + Q.h) - max 0 Q.y ≤ 0
  · have hb := both_zero (a := ⟨0, 0, pw, ph⟩) (b := Q) hz
    refine ⟨by rw [hb]; simp, by rw [hb]; simp, by rw [hb]; simp, by rw [hb]; simp, by rw [hb]; simp; omega, by rw [hb]; simp; omega, fun j i hj hi => ?_⟩
    rw [hh]
    have : hasB ⟨0, 0, pw, ph⟩ (i : Int) (j : Int) = true := by unfold hasB; simp; omega
    rw [this]; rfl
  · have hb := both_some (a := ⟨0, 0, pw, ph⟩) (b := Q) hz
    refine ⟨by rw [hb]; simp; omega, by rw [hb]; simp; omega, by rw [hb]; simp; omega, by rw [hb]; simp; omega, by rw [hb]; simp; omega, by rw [hb]; simp; omega, fun j i hj hi => ?_⟩
    rw [hh]
    have : hasB ⟨0, 0, pw, ph⟩ (i : Int) (j : Int) = true := by unfold hasB; simp; omega
    rw [this]; rfl
end Fb
set_option linter.unusedSimpArgs false
set_option linter.unusedVariables false
namespace Fb
theorem fine_nat {p : FPic} (h : PicFine p) : ∃ W H : Nat, p.w = W ∧ p.h = H ∧ 1 ≤ W ∧ 1 ≤ H ∧ p.w.toNat = W ∧ p.p.length = W * H := by
  obtain ⟨h1, h2, h3, h4, h5, -⟩ := h
  refine ⟨p.w.toNat, p.h.toNat, by omega, by omega, by omega, by omega, rfl, ?_⟩
  have e : (p.p.length : Int) = ((p.w.toNat * p.h.toNat : Nat) : Int) := by
    rw [h5, Int.natCast_mul]
    congr 1 <;> omega
  omega
theorem upd_get {W H : Nat} {l : List Px} {c : Nat → Nat → Bool} {v : Nat → Nat → Px} (hl : l.length = W * H) {j i : Nat} (hj : j < H) (hi : i < W) : ∃ (h1 : j * W + i < (updL W l c v).length) (h2 : j * W + i < l.length), (updL W l c v)[j * W + i] = if c j i then v j i else l[j * W + i] := by
  have hk : j * W + i < l.length := by rw [hl]; exact at_lt hj hi
  refine ⟨by rw [updL_len]; exact hk, hk, ?_⟩
  rw [updL_at hk]
  obtain ⟨e1, e2⟩ := div_mod_at (j := j) hi
  rw [e1, e2]
theorem overP_all {v : Int} (b : Px) (h0 : 0 ≤ v) (h1 : v ≤ 255) (hb : PxFine b) : overP (v, 255) b = (v, 255) := by
  unfold overP overV overA through
  simp only
  have e : (255 - (255 : Int)) * b.2 / 255 = 0 := by simp
  rw [e]
  simp
/-- whatever is changed by what may be, may be -/
theorem upd_fine {W : Nat} {l : List Px} {c : Nat → Nat → Bool} {v : Nat → Nat → Px} (hl : ∀ q ∈ l, PxFine q) (hv : ∀ j i, c j i = true → j * W + i < l.length → i < W → PxFine (v j i)) (hW : 0 < W) : ∀ q ∈ updL W l c v, PxFine q := by
  intro q hq
  obtain ⟨k, hk, rfl⟩ := List.getElem_of_mem hq
  have hk' : k < l.length := by rw [updL_len] at hk; exact hk
  rw [updL_at hk']
  by_cases hc : c (k / W) (k % W) = true
  · rw [if_pos hc]
    exact hv _ _ hc (by rw [Nat.mul_comm, Nat.div_add_mod]; exact hk') (Nat.mod_lt _ hW)
  · rw [if_neg hc]; exact hl _ (List.getElem_mem hk')
theorem lay_fine {p : FPic} {o : FObj} (hp : PicFine p) (ho : PicFine o.pic) : PicFine (layP p o) := by
  obtain ⟨W, H, e1, e2, h1, h2, e3, e4⟩ := fine_nat hp
  obtain ⟨a1, a2, a3, a4, a5, a6⟩ := hp
  have el : (layP p o).p.length = p.p.length := by unfold layP; simp only [updL_len]
  refine ⟨a1, a2, a3, a4, by rw [el]; exact a5, ?_⟩
  unfold layP
  dsimp only
  refine upd_fine a6 (fun j i hc hk hi => ?_) (by omega)
  simp only [Bool.and_eq_true] at hc
  refine overP_fine (src_fine ho hc.2.2) ?_
  rw [List.getD_eq_getElem?_getD, List.getElem?_eq_getElem hk]
  exact a6 _ (List.getElem_mem hk)
theorem change_fine {g : Px → Px → Px} (hg : ∀ a b, PxFine a → PxFine b → PxFine (g a b)) {p q : FPic} {x y : Int} (hp : PicFine p) (hq : PicFine q) : PicFine (changeP g p q x y) := by
  obtain ⟨W, H, e1, e2, h1, h2, e3, e4⟩ := fine_nat hp
  obtain ⟨a1, a2, a3, a4, a5, a6⟩ := hp
  have el : (changeP g p q x y).p.length = p.p.length := by unfold changeP; simp only [updL_len]
  refine ⟨a1, a2, a3, a4, by rw [el]; exact a5, ?_⟩
  unfold changeP
  dsimp only
  refine upd_fine a6 (fun j i hc hk hi => ?_) (by omega)
  refine hg _ _ ?_ (src_fine hq hc)
  rw [List.getD_eq_getElem?_getD, List.getElem?_eq_getElem hk]
  exact a6 _ (List.getElem_mem hk)
/-- the pixel of a picture that an object was laid on -/
theorem lay_get {p : FPic} {o : FObj} {W H : Nat} (hp : PicFine p) (hW : p.w = (W : Int)) (hH : p.h = (H : Int)) {j i : Nat} (hj : j < H) (hi : i < W) : ∃ (h1 : j * W + i < (layP p o).p.length) (h2 : j * W + i < p.p.length),
    (layP p o).p[j * W + i] = if o.shown && (onB o.clip j i && onB ⟨o.x, o.y, o.pic.w, o.pic.h⟩ j i) then overP (srcP o.pic o.x o.y j i) p.p[j * W + i] else p.p[j * W + i] := by
  obtain ⟨W', H', e1, e2, h1, h2, e3, e4⟩ := fine_nat hp
  obtain rfl : W' = W := by omega
  obtain rfl : H' = H := by omega
  obtain ⟨g1, g2, g3⟩ := upd_get (c := fun j i => o.shown && (onB o.clip j i && onB ⟨o.x, o.y, o.pic.w, o.pic.h⟩ j i)) (v := fun j i => overP (srcP o.pic o.x o.y j i) (p.p.getD (j * W' + i) (0, 0))) e4 hj hi
  have e : (layP p o).p = updL W' p.p (fun j i => o.shown && (onB o.clip j i && onB ⟨o.x, o.y, o.pic.w, o.pic.h⟩ j i)) (fun j i => overP (srcP o.pic o.x o.y j i) (p.p.getD (j * W' + i) (0, 0))) := by
    unfold layP; simp only [e3]
  refine ⟨by rw [e]; exact g1, g2, ?_⟩
  simp only [e, g3]
  rw [List.getD_eq_getElem?_getD, List.getElem?_eq_getElem g2, Option.getD_some]
theorem getD_at {l : List Px} {k : Nat} (h : k < l.length) : l.getD k (0, 0) = l[k] := by rw [List.getD_eq_getElem?_getD, List.getElem?_eq_getElem h, Option.getD_some]
theorem lay_get? {p : FPic} {o : FObj} {W H : Nat} (hp : PicFine p) (hW : p.w = (W : Int)) (hH : p.h = (H : Int)) {j i : Nat} (hj : j < H) (hi : i < W) : j * W + i < (layP p o).p.length ∧ j * W + i < p.p.length ∧
    (layP p o).p.getD (j * W + i) (0, 0) = if o.shown && (onB o.clip j i && onB ⟨o.x, o.y, o.pic.w, o.pic.h⟩ j i) then overP (srcP o.pic o.x o.y j i) (p.p.getD (j * W + i) (0, 0)) else p.p.getD (j * W + i) (0, 0) := by
  obtain ⟨h1, h2, h3⟩ := lay_get (o := o) hp hW hH hj hi
  exact ⟨h1, h2, by rw [getD_at h1, getD_at h2, h3]⟩
theorem src_get {q : FPic} {x y : Int} {j i : Nat} (hq : PicFine q) (h : onB ⟨x, y, q.w, q.h⟩ j i = true) : ∃ (S : Nat) (hS : S < q.p.length), ((j : Int) - y) * q.w + (i : Int) - x = (S : Int) ∧ srcP q x y j i = q.p[S] := by
  obtain ⟨h1, h2⟩ := src_lt hq h
  refine ⟨(((j : Int) - y) * q.w + (i : Int) - x).toNat, by omega, by omega, ?_⟩
  unfold srcP
  rw [List.getD_eq_getElem?_getD, List.getElem?_eq_getElem (by omega)]
  rfl
end Fb
namespace Fb
open Go Go.Proofs Go.RowKit
theorem over_zero {av aa bv ba : Int} (h : aa + through aa ba = 0) : overV av aa bv ba = 0 ∧ overA aa ba = 0 := by unfold overV overA; rw [if_pos h]; exact ⟨rfl, h⟩
theorem over_some {av aa bv ba : Int} (h : aa + through aa ba ≠ 0) : overV av aa bv ba = (av * aa + bv * through aa ba) / (aa + through aa ba) := by unfold overV; rw [if_neg h]
theorem ret_px {a b c d : Int} (h1 : c = a) (h2 : d = b) : Ending.returned (.agg #[.int .i64 a, .int .i64 b]) = .returned (.agg #[.int .i64 c, .int .i64 d]) := by rw [h1, h2]
set_option maxRecDepth 100000 in
set_option maxHeartbeats 800000 in
theorem over_any (av aa bv ba : Int) (h1 : 0 ≤ av ∧ av ≤ 255) (h2 : 0 ≤ aa ∧ aa ≤ 255) (h3 : 0 ≤ bv ∧ bv ≤ 255) (h4 : 0 ≤ ba ∧ ba ≤ 255) (w : World) :
    Calls Try.prog 87 #[.agg #[.int .i64 av, .int .i64 aa], .agg #[.int .i64 bv, .int .i64 ba]] w (Ret (.agg #[.int .i64 (overV av aa bv ba), .int .i64 (overA aa ba)]) w) := by
  have p1 : 0 ≤ (255 - aa) * ba := Int.mul_nonneg (by omega) (by omega)
  have p2 : (255 - aa) * ba ≤ (255 - aa) * 255 := Int.mul_le_mul_of_nonneg_left (by omega) (by omega)
  have p3 : 0 ≤ av * aa := Int.mul_nonneg (by omega) (by omega)
  have p4 : av * aa ≤ 255 * aa := Int.mul_le_mul_of_nonneg_right (by omega) (by omega)
  have tb := through_bd aa ba h2 h4
  have p5 : 0 ≤ bv * through aa ba := Int.mul_nonneg (by omega) (by omega)
  have p6 : bv * through aa ba ≤ 255 * through aa ba := Int.mul_le_mul_of_nonneg_right (by omega) (by omega)
  by_cases hz : aa + through aa ba = 0
  · have hr := hid (over_zero (av := av) (bv := bv) hz)
    unfold through at tb p5 p6 hz
    have hz' : (aa + (255 - aa) * ba / 255 == 0) = true := by simp; exact hz
    clear hz
    go_enter Try.func87, Try.ntmps87
    go_wp2
    refine bodyPost_ret (v := .agg #[.int .i64 0, .int .i64 0]) (by simp [results, Try.results87, go_sem]) rfl ⟨ret_px hr.out.1 hr.out.2, ?_⟩
    (repeat (first | with_reducible exact Below.refl _ _ | with_reducible refine Below.alloc ?_ (by simp; try omega) _ | with_reducible refine Below.setCell ?_ (by simp; try omega) _ | with_reducible refine below_drewN ?_ _ | with_reducible refine Below.drew ?_))
  · have hr := hid (over_some (av := av) (bv := bv) hz)
    have hs := hid (show overA aa ba = aa + through aa ba from rfl)
    unfold through at tb p5 p6 hz hr hs
    have hz' : (aa + (255 - aa) * ba / 255 == 0) = false := by simp; exact hz
    have hz2 : 1 ≤ aa + (255 - aa) * ba / 255 := by omega
    clear hz
    go_enter Try.func87, Try.ntmps87
    go_wp2
    refine bodyPost_ret (v := .agg #[.int .i64 ((av * aa + bv * ((255 - aa) * ba / 255)) / (aa + (255 - aa) * ba / 255)), .int .i64 (aa + (255 - aa) * ba / 255)]) (by simp [results, Try.results87, go_sem]) rfl ⟨ret_px hr.out hs.out, ?_⟩
    (repeat (first | with_reducible exact Below.refl _ _ | with_reducible refine Below.alloc ?_ (by simp; try omega) _ | with_reducible refine Below.setCell ?_ (by simp; try omega) _ | with_reducible refine below_drewN ?_ _ | with_reducible refine Below.drew ?_))
def pixB (v a : Int) : Bool := decide (0 ≤ v ∧ v ≤ 255 ∧ 0 ≤ a ∧ a ≤ 255)
end Fb
namespace Fb
open Go Go.Proofs Go.RowKit Go.Sort
theorem info_px : (Try.prog.info? 42).map (fun i => (i.zero, i.size, i.bytes)) = some (some (.agg #[.int .i64 0, .int .i64 0]), 2, 16) := by kernel_rfl
/-- the call returns a slice of its own that holds the cells xs -/
def RetOwn (t : TypeId) (size : Nat) (xs : List Value) (n : Nat) (w : World) (e : Ending) (w' : World) : Prop := ∃ v, e = .returned v ∧ w'.ownsRow w.heap.size t size v n xs ∧ Below w.heap.size w w'
theorem pxCells_cell {l : List Px} {u : Value} (h : u ∈ pxCells l) : u.oneCell' = true := by
  unfold pxCells at h
  obtain ⟨p, _, hp⟩ := List.mem_flatMap.1 h
  simp at hp
  rcases hp with rfl | rfl <;> rfl
theorem pxCells_len (l : List Px) : (pxCells l).length = l.length * 2 := flat_len (enc := fun p : Px => [.int .i64 p.1, .int .i64 p.2]) (fun _ => rfl) l
set_option maxRecDepth 100000 in
set_option maxHeartbeats 800000 in
theorem clonepx_any (A : Option Addr) (n c : Nat) (l : List Px) (w : World) (hl : Pixs w A n l) (hn : n ≤ 1000000) :
    Calls Try.prog 84 #[.slice A n c] w (RetOwn 42 2 (pxCells l) n w) := by
  have Hl := hid hl.1
  obtain ⟨i0, hi, hz0, hz1, hz2⟩ := info_parts info_px
  have hnil := fun W => Lib.run_eql_slice_nil (P := Try.prog) W 47 42 A n c 0 0 Try.underlying47
  cases A with
  | none =>
    have h0 : n = 0 := by
      rcases Nat.eq_zero_or_pos n with h0 | h0
      · exact h0
      · obtain ⟨_, _, e, _⟩ := hl.2.2 h0; cases e
    subst h0
    have hnil : l = [] := List.eq_nil_of_length_eq_zero Hl.out
    subst hnil
    clear hl
    go_enter Try.func84, Try.ntmps84
    go_wp2
    go_ret
    exact ⟨_, rfl, World.ownsRow_nil _ _ _ _, Below.refl _ _⟩
  | some a =>
    have hnews : ∀ j u, (pxCells l)[j]? = some u → w.cell? (a.add j) = some u := by
      intro j u hu
      have hj := (List.getElem?_eq_some_iff.1 hu).1
      rw [pxCells_len, Hl.out] at hj
      obtain ⟨b, off, e, hb, hc⟩ := hl.2.2 (by omega)
      injection e with e
      subst e
      rw [show (⟨b, off, none⟩ : Addr).add j = ⟨b, off + j, none⟩ from by
        unfold Addr.add
        by_cases h : j = 0
        · subst h; simp
        · rw [if_neg h]]
      exact hc j u hu
    have hblk : n * 2 = (pxCells l).length := by rw [pxCells_len, Hl.out]
    have hown0 := World.ownsRow_lit (base := w.heap.size) (e := 42) (size := 2) w #[] 0 (Nat.le_refl _) (by simp [maxLen]) rfl
    have Hnews := hid hnews
    have Hblk := hid hblk
    clear hnews hblk
    go_enter Try.func84, Try.ntmps84
    go_wp2_with (at_builtin; refine wpList_append_own _ rfl _ _ 47 rfl w.heap.size 42 i0 (.agg #[.int .i64 0, .int .i64 0]) 2 16 Try.underlying47 hi hz0 hz1 hz2 rfl (by decide) _ _ _ rfl hown0 a n c (pxCells l) rfl Hblk.out.symm ?c1 ?c2 ?c3 ?c4 ?c5 ?_)
    case c1 =>
      intro j u hu
      have h := Hnews.out j u hu
      have hlt := World.block_lt_of_cell? w _ h
      exact (((Below.refl w.heap.size w).alloc (Nat.le_refl _) (.cells #[] 42)).cell (p := a.add j) hlt).trans h
    case c2 => exact fun u hu => pxCells_cell hu
    case c3 => unfold maxLen; omega
    case c4 => omega
    intro v' w1 hown' hgrow _
    have hbel1 : Below w.heap.size w w1 := (((Below.refl w.heap.size w).alloc (Nat.le_refl _) (.cells #[] 42))).grown hgrow (by simp) (fun g hg => (hown0.lt g hg).1)
    have HO : w1.ownsRow w.heap.size 42 2 v' n (pxCells l) := by simpa using hown'
    clear hown' hgrow
    go_wp2_with fail
    go_ret
    exact ⟨_, rfl, HO, hbel1⟩
set_option maxRecDepth 100000 in
set_option maxHeartbeats 400000 in
theorem whole_any (r : FAt FPic) (w : World) :
    Calls Try.prog 86 #[.agg #[.int .i64 r.x.w, .int .i64 r.x.h, .slice r.A r.n r.c]] w (Ret (.agg #[.int .i64 0, .int .i64 0, .int .i64 r.x.w, .int .i64 r.x.h]) w) := by
  go_enter Try.func86, Try.ntmps86
  go_wp2
  refine bodyPost_ret (v := .agg #[.int .i64 0, .int .i64 0, .int .i64 r.x.w, .int .i64 r.x.h]) (by simp [results, Try.results86, go_sem]) rfl ⟨rfl, ?_⟩
  (repeat (first | with_reducible exact Below.refl _ _ | with_reducible refine Below.alloc ?_ (by simp; try omega) _ | with_reducible refine Below.setCell ?_ (by simp; try omega) _ | with_reducible refine below_drewN ?_ _ | with_reducible refine Below.drew ?_))
set_option maxRecDepth 100000 in
set_option maxHeartbeats 400000 in
theorem add1_any (a b : Px) (ha : PxFine a) (hb : PxFine b) (w : World) :
    Calls Try.prog 78 #[.agg #[.int .i64 a.1, .int .i64 a.2], .agg #[.int .i64 b.1, .int .i64 b.2]] w (Ret (.agg #[.int .i64 (addP a b).1, .int .i64 (addP a b).2]) w) := by
  obtain ⟨a0, a1, a2, a3⟩ := ha
  obtain ⟨b0, b1, b2, b3⟩ := hb
  go_enter Try.func78, Try.ntmps78
  go_wp2
  refine bodyPost_ret (v := .agg #[.int .i64 ((a.1 + b.1) % 256), .int .i64 ((a.2 + b.2) % 256)]) (by simp [results, Try.results78, go_sem]) rfl ⟨rfl, ?_⟩
  (repeat (first | with_reducible exact Below.refl _ _ | with_reducible refine Below.alloc ?_ (by simp; try omega) _ | with_reducible refine Below.setCell ?_ (by simp; try omega) _ | with_reducible refine below_drewN ?_ _ | with_reducible refine Below.drew ?_))
set_option maxRecDepth 100000 in
set_option maxHeartbeats 400000 in
theorem put1_any (a b : Px) (w : World) :
    Calls Try.prog 79 #[.agg #[.int .i64 a.1, .int .i64 a.2], .agg #[.int .i64 b.1, .int .i64 b.2]] w (Ret (.agg #[.int .i64 b.1, .int .i64 b.2]) w) := by
  go_enter Try.func79, Try.ntmps79
  go_wp2
  refine bodyPost_ret (v := .agg #[.int .i64 b.1, .int .i64 b.2]) (by simp [results, Try.results79, go_sem]) rfl ⟨rfl, ?_⟩
  (repeat (first | with_reducible exact Below.refl _ _ | with_reducible refine Below.alloc ?_ (by simp; try omega) _ | with_reducible refine Below.setCell ?_ (by simp; try omega) _ | with_reducible refine below_drewN ?_ _ | with_reducible refine Below.drew ?_))
/-! ## only one block has turned -/
theorem gb_refl (w : World) (r : Option Nat) : w.grownBy w r := ⟨rfl, rfl, rfl, Nat.le_refl _, fun _ _ _ => rfl⟩
theorem gb_below {a w w' : World} {r : Option Nat} (h : a.grownBy w r) (hb : Below w.heap.size w w') : a.grownBy w' r :=
  ⟨hb.os.trans h.os, hb.tape.trans h.tape, hb.output.trans h.output, Nat.le_trans h.size hb.size, fun k hk hne => (hb.block k (Nat.lt_of_lt_of_le hk h.size)).trans (h.block k hk hne)⟩
theorem gb_drewN {a w : World} {r : Option Nat} (h : a.grownBy w r) (n : Nat) : a.grownBy (w.drewN n) r := ⟨h.os, h.tape, h.output, h.size, h.block⟩
theorem gb_drew {a w : World} {r : Option Nat} (h : a.grownBy w r) : a.grownBy w.drew r := ⟨h.os, h.tape, h.output, h.size, h.block⟩
theorem gb_set {a w : World} {g : Nat} (h : a.grownBy w (some g)) (o : Nat) (u : Value) : a.grownBy (w.setCell ⟨g, o, none⟩ u) (some g) :=
  ⟨h.os, h.tape, h.output, by simpa using h.size, fun k hk hne => (Below.heap_setCell w ⟨g, o, none⟩ u k (fun e => hne (by rw [e]))).trans (h.block k hk hne)⟩
theorem gb_cell {a w : World} {g b o : Nat} {v : Value} (h : a.grownBy w (some g)) (hb : b < a.heap.size) (hne : b ≠ g) (hc : a.cell? ⟨b, o, none⟩ = some v) : w.cell? ⟨b, o, none⟩ = some v := by
  rw [World.cell?_of_block (w := a) (w' := w) (h.block b hb (fun e => hne (by injection e)))]
  exact hc
theorem pxCells_set (l : List Px) (k : Nat) (p : Px) : ((pxCells l).set (k * 2) (.int .i64 p.1)).set (k * 2 + 1) (.int .i64 p.2) = pxCells (l.set k p) := by
  induction l generalizing k with
  | nil => simp [pxCells]
  | cons a l ih =>
    cases k with
    | zero => simp [pxCells]
    | succ k =>
      have e : (k + 1) * 2 = k * 2 + 1 + 1 := by omega
      have := ih k
      simp only [pxCells, List.flatMap_cons, List.set_cons_succ] at this ⊢
      rw [e]
      simp only [List.cons_append, List.nil_append, List.set_cons_succ, this]
theorem own_px {w : World} {base g n cap : Nat} {l : List Px} (h : w.ownsRow base 42 2 (.slice (some ⟨g, 0, none⟩) n cap) n (pxCells l)) {k : Nat} {p : Px} (hk : l[k]? = some p) :
    w.cell? ⟨g, k * 2, none⟩ = some (.int .i64 p.1) ∧ w.cell? ⟨g, k * 2 + 1, none⟩ = some (.int .i64 p.2) := by
  have h0 := own_cell (cel := fun p : Px => [.int .i64 p.1, .int .i64 p.2]) (fun _ => rfl) h hk (j := 0) (by decide)
  have h1 := own_cell (cel := fun p : Px => [.int .i64 p.1, .int .i64 p.2]) (fun _ => rfl) h hk (j := 1) (by decide)
  exact ⟨by simpa using h0, by simpa using h1⟩
theorem own_set {w : World} {base g n cap : Nat} {l : List Px} (h : w.ownsRow base 42 2 (.slice (some ⟨g, 0, none⟩) n cap) n (pxCells l)) (k : Nat) (p : Px) :
    ((w.setCell ⟨g, k * 2, none⟩ (.int .i64 p.1)).setCell ⟨g, k * 2 + 1, none⟩ (.int .i64 p.2)).ownsRow base 42 2 (.slice (some ⟨g, 0, none⟩) n cap) n (pxCells (l.set k p)) := by
  rw [← pxCells_set]
  exact ((h.stored (k * 2) (.int .i64 p.1)).1.stored (k * 2 + 1) (.int .i64 p.2)).1
theorem gb_frozen {a w : World} {g b o : Nat} (h : a.grownBy w (some g)) (hb : b < a.heap.size) (hne : b ≠ g) (hc : a.frozen? ⟨b, o, none⟩ = false) : w.frozen? ⟨b, o, none⟩ = false := by
  rw [World.frozen?_of_block (w := a) (w' := w) (h.block b hb (fun e => hne (by injection e)))]
  exact hc
theorem pixs_own {w : World} {base g n cap : Nat} {l : List Px} (h : w.ownsRow base 42 2 (.slice (some ⟨g, 0, none⟩) n cap) n (pxCells l)) (hl : l.length = n) : Pixs w (some ⟨g, 0, none⟩) n l := ⟨hl, Row.of_own h⟩
end Fb
namespace Fb
open Go Go.Proofs Go.RowKit Go.Sort
set_option maxRecDepth 100000 in
set_option maxHeartbeats 1600000 in
theorem rover_any (av aa bv ba : Int) (h1 : 0 ≤ av ∧ av ≤ 255) (h2 : 0 ≤ aa ∧ aa ≤ 255) (h3 : 0 ≤ bv ∧ bv ≤ 255) (h4 : 0 ≤ ba ∧ ba ≤ 255) (w : World) :
    Calls Try.prog 72 #[.agg #[.int .i64 av, .int .i64 aa], .agg #[.int .i64 bv, .int .i64 ba]] w (Ret (.agg #[.int .i64 (overV av aa bv ba), .int .i64 (overA aa ba)]) w) := by
  have p1 : 0 ≤ (255 - aa) * ba := Int.mul_nonneg (by omega) (by omega)
  have p2 : (255 - aa) * ba ≤ (255 - aa) * 255 := Int.mul_le_mul_of_nonneg_left (by omega) (by omega)
  have p3 : 0 ≤ av * aa := Int.mul_nonneg (by omega) (by omega)
  have p4 : av * aa ≤ 255 * aa := Int.mul_le_mul_of_nonneg_right (by omega) (by omega)
  have tb := through_bd aa ba h2 h4
  have p5 : 0 ≤ bv * through aa ba := Int.mul_nonneg (by omega) (by omega)
  have p6 : bv * through aa ba ≤ 255 * through aa ba := Int.mul_le_mul_of_nonneg_right (by omega) (by omega)
  by_cases hz : aa + through aa ba = 0
  · have hr := hid (over_zero (av := av) (bv := bv) hz)
    unfold through at tb p5 p6 hz
    have hz' : (aa + (255 - aa) * ba / 255 == 0) = true := by simp; exact hz
    clear hz
    go_enter Try.func72, Try.ntmps72
    go_wp2
    refine bodyPost_ret (v := .agg #[.int .i64 0, .int .i64 0]) (by simp [results, Try.results72, go_sem]) rfl ⟨ret_px hr.out.1 hr.out.2, ?_⟩
    (repeat (first | with_reducible exact Below.refl _ _ | with_reducible refine Below.alloc ?_ (by simp; try omega) _ | with_reducible refine Below.setCell ?_ (by simp; try omega) _ | with_reducible refine below_drewN ?_ _ | with_reducible refine Below.drew ?_))
  · have hr := hid (over_some (av := av) (bv := bv) hz)
    have hs := hid (show overA aa ba = aa + through aa ba from rfl)
    unfold through at tb p5 p6 hz hr hs
    have hz' : (aa + (255 - aa) * ba / 255 == 0) = false := by simp; exact hz
    have hz2 : 1 ≤ aa + (255 - aa) * ba / 255 := by omega
    clear hz
    go_enter Try.func72, Try.ntmps72
    go_wp2_with fail
    generalize ht : (255 - aa) * ba / 255 = t at *
    clear ht p1 p2
    generalize hx : av * aa = x at *
    generalize hy : bv * t = y at *
    have s1 : IntKind.i64.wrap x = x := IntWalk.i64_in _ (by omega)
    have s2 : IntKind.i64.wrap y = y := IntWalk.i64_in _ (by omega)
    have s3 : IntKind.i64.wrap (x + y) = x + y := IntWalk.i64_in _ (by omega)
    have s4 : IntKind.i64.wrap (aa + t) = aa + t := IntWalk.i64_in _ (by omega)
    have dd : 0 ≤ (x + y) / (aa + t) := Int.ediv_nonneg (by omega) (by omega)
    have dd2 : (x + y) / (aa + t) ≤ x + y := by
      exact Int.ediv_le_self _ (by omega)
    have s5 : IntKind.i64.wrap ((x + y) / (aa + t)) = (x + y) / (aa + t) := IntWalk.i64_in _ (by omega)
    have s6 : Int.tdiv (x + y) (aa + t) = (x + y) / (aa + t) := Int.tdiv_eq_ediv_of_nonneg (by omega)
    have s7 : ((aa + t) == 0) = false := by simp; omega
    have s8 : 0 ≤ x + y := by omega
    go_region
    all_goals
      clear s1 s2 s3 s4 s5 s6
      go_wp2_with fail
      refine bodyPost_ret (v := .agg #[.int .i64 ((x + y) / (aa + t)), .int .i64 (aa + t)]) (by simp [results, Try.results72, go_sem]) rfl ⟨ret_px hr.out hs.out, ?_⟩
      (repeat (first | with_reducible exact Below.refl _ _ | with_reducible refine Below.alloc ?_ (by simp; try omega) _ | with_reducible refine Below.setCell ?_ (by simp; try omega) _ | with_reducible refine below_drewN ?_ _ | with_reducible refine Below.drew ?_))
end Fb
namespace Fb
open Go Go.Proofs Go.RowKit Go.Sort
/-- copy of whole elements into a row's cells -/
theorem run_copy_rowS {P : Program} (w : World) (dT sT ty elem : TypeId) (g o dLen dCap : Nat) (a : Addr) (sLen sCap : Nat) (cur : Array Value) (t : TypeId) (size k : Nat) (cs : List Value)
    (hu : P.underlying dT = some (.slice elem)) (hs : (P.info? elem).map (·.size) = some size)
    (hg : w.heap[g]? = some (.cells cur t (0, 0))) (hk : k = Nat.min sLen dLen) (hn : cs.length = k * size)
    (hsrc : ∀ j v, cs[j]? = some v → w.cell? (a.add j) = some v) (hfit : o + cs.length ≤ cur.size) (h1 : ∀ v ∈ cs, v.oneCell' = true) :
    (Builtin.copy_ #[dT, sT] ty #[.slice (some ⟨g, o, none⟩) dLen dCap, .slice (some a) sLen sCap]).run P w =
      .ok (goInt k) (w.setRow g (cur.toList.take o ++ cs ++ cur.toList.drop (o + cs.length)).toArray) := by
  have hl := run_loadCells_list (P := P) w a cs hsrc
  have hst := run_storeCells_at P g o t cs 0 cur w hg (by simpa using hfit) h1
  cases hq : P.info? elem with
  | none => simp [hq] at hs
  | some i =>
    have hi : i.size = size := by simpa [hq] using hs
    rw [hn] at hl
    simp [Builtin.copy_, run_underlying hu, Builtin.lenOf, Builtin.firstCells, Go.sizeOf, Go.typeInfo, hq, hi, ← hk, hl, hst]
theorem wpList_copy_S {P : Program} {w : World} {ops : Array Oper} {rest : List Oper} {o : Oper} {a : Act} {Q : Exit → Act → World → Prop} (hgd : o.guard = none) (d s : Operand) (dT sT : TypeId)
    (ho : o.op = .call { callee := .builtin .copy, args := #[d, s], argTypes := #[dT, sT] }) (elem : TypeId) (size : Nat) (hu : P.underlying dT = some (.slice elem)) (hsz : (P.info? elem).map (·.size) = some size)
    (dp sp : Addr) (dLen dCap sLen sCap : Nat) (hd : a.eval d = .slice (some dp) dLen dCap) (hs : a.eval s = .slice (some sp) sLen sCap)
    (g off : Nat) (hdp : dp = ⟨g, off, none⟩) (cur : List Value) (t : TypeId) (hg : w.heap[g]? = some (.cells cur.toArray t (0, 0))) (cs : List Value) (k : Nat) (hk : k = Nat.min sLen dLen) (hn : cs.length = k * size)
    (hsrc : ∀ j v, cs[j]? = some v → w.cell? (sp.add j) = some v)
    (hfit : off + cs.length ≤ cur.length) (h1 : ∀ v ∈ cs, v.oneCell' = true) (B : Nat) (w0 : World) (hb : Below B w0 w) (hBg : B ≤ g)
    (h : ∀ w', Hid (w'.heap[g]? = some (.cells (splice cur off cs).toArray t (0, 0))) → Below B w0 w' → wpList P ops Q rest (a.put o.dst (goInt k)) w') :
    wpList P ops Q (o :: rest) a w := by
  subst hdp
  refine wpList_plain hgd fun K hK => ?_
  have hrun := run_copy_rowS (P := P) w dT sT o.type elem g off dLen dCap sp sLen sCap cur.toArray t size k cs hu hsz hg hk hn hsrc (by simpa using hfit) h1
  unfold Oper.wp
  simp [execOp, ho, resolve, invoke, builtin, hd, hs, hrun, Result.andThen]
  refine hK _ _ (h _ (show _ = _ by simpa [splice] using setRow_heap w g _ _ t _ hg) (below_setRow hb hBg _))
theorem step_copy_S {P : Program} {ops : Array Oper} {o : Oper} {a : Act} {w : World} {K : Act → World → Prop} {Q : Exit → Act → World → Prop} {E : Prop} (hgd : o.guard = none) (d s : Operand) (dT sT : TypeId)
    (ho : o.op = .call { callee := .builtin .copy, args := #[d, s], argTypes := #[dT, sT] }) (elem : TypeId) (size : Nat) (hu : P.underlying dT = some (.slice elem)) (hsz : (P.info? elem).map (·.size) = some size)
    (dp sp : Addr) (dLen dCap sLen sCap : Nat) (hd : a.eval d = .slice (some dp) dLen dCap) (hs : a.eval s = .slice (some sp) sLen sCap)
    (g off : Nat) (hdp : dp = ⟨g, off, none⟩) (cur : List Value) (t : TypeId) (hg : w.heap[g]? = some (.cells cur.toArray t (0, 0))) (cs : List Value) (k : Nat) (hk : k = Nat.min sLen dLen) (hn : cs.length = k * size)
    (hsrc : ∀ j v, cs[j]? = some v → w.cell? (sp.add j) = some v)
    (hfit : off + cs.length ≤ cur.length) (h1 : ∀ v ∈ cs, v.oneCell' = true) (B : Nat) (w0 : World) (hb : Below B w0 w) (hBg : B ≤ g)
    (h : ∀ w', Hid (w'.heap[g]? = some (.cells (splice cur off cs).toArray t (0, 0))) → Below B w0 w' → K (a.put o.dst (goInt k)) w') :
    if Region.wanted o (yielded ops a.tmps) = true then Oper.wp P o a w K Q else E := by
  subst hdp
  rw [if_pos (by simp [Region.wanted, hgd])]
  have hrun := run_copy_rowS (P := P) w dT sT o.type elem g off dLen dCap sp sLen sCap cur.toArray t size k cs hu hsz hg hk hn hsrc (by simpa using hfit) h1
  unfold Oper.wp
  simp [execOp, ho, resolve, invoke, builtin, hd, hs, hrun, Result.andThen]
  exact h _ (show _ = _ by simpa [splice] using setRow_heap w g _ _ t _ hg) (below_setRow hb hBg _)

namespace Mu
theorem maskN (a : Nat) (ha : a < 18446744073709551616) : bits .and .u64 (a : Int) 4294967295 = ((a % 4294967296 : Nat) : Int) := by
  have h := bits_and_u64_nat a 4294967295 ha (by omega)
  have e : a &&& 4294967295 = a % 4294967296 := Nat.and_two_pow_sub_one_eq_mod a 32
  rw [e] at h
  exact h
theorem divN (a : Nat) : (a : Int) / 4294967296 = ((a / 4294967296 : Nat) : Int) := by omega
theorem mulN (a b : Nat) : (a : Int) * (b : Int) = ((a * b : Nat) : Int) := (Int.natCast_mul a b).symm
theorem addN (a b : Nat) : (a : Int) + (b : Int) = ((a + b : Nat) : Int) := (Int.natCast_add a b).symm
theorem wrapN (a : Nat) (ha : a < 18446744073709551616) : IntKind.u64.wrap (a : Int) = (a : Int) := by rw [IntKind.wrap_u64]; omega
theorem wrapM (a : Nat) : IntKind.u64.wrap (a : Int) = ((a % 18446744073709551616 : Nat) : Int) := by rw [IntKind.wrap_u64]; omega
end Mu
set_option maxHeartbeats 1000000 in
theorem mul64_any (x y : Nat) (hx : x < 18446744073709551616) (hy : y < 18446744073709551616) (w : World) :
    Calls Try.prog 97 #[.int .u64 x, .int .u64 y] w fun e w' => e = .returned (.tuple #[.int .u64 ((x * y / 18446744073709551616 : Nat) : Int), .int .u64 ((x * y % 18446744073709551616 : Nat) : Int)]) ∧ w = w' := by
  obtain ⟨bd, bt, bw, hhi⟩ := Lib.mul64_hi x y hx hy
  have ba := Lib.half_mul_le (a := x / 4294967296) (b := y / 4294967296) (by omega) (by omega)
  have bb := Lib.half_mul_le (a := x / 4294967296) (b := y % 4294967296) (by omega) (by omega)
  have bc := Lib.half_mul_le (a := x % 4294967296) (b := y / 4294967296) (by omega) (by omega)
  have ba' : x / 4294967296 * (y / 4294967296) < 18446744073709551616 := by omega
  have bb' : x / 4294967296 * (y % 4294967296) < 18446744073709551616 := by omega
  have bc' : x % 4294967296 * (y / 4294967296) < 18446744073709551616 := by omega
  have bh1 : x / 4294967296 * (y / 4294967296) + (x / 4294967296 * (y % 4294967296) + x % 4294967296 * (y % 4294967296) / 4294967296) / 4294967296 < 18446744073709551616 := by omega
  have bh : x / 4294967296 * (y / 4294967296) + (x / 4294967296 * (y % 4294967296) + x % 4294967296 * (y % 4294967296) / 4294967296) / 4294967296 + ((x / 4294967296 * (y % 4294967296) + x % 4294967296 * (y % 4294967296) / 4294967296) % 4294967296 + x % 4294967296 * (y / 4294967296)) / 4294967296 < 18446744073709551616 := by omega
  go_enter Try.func97, Try.ntmps97
  go_wp2
  simp only [Mu.maskN x hx, Mu.maskN y hy, Mu.divN, Mu.mulN, Mu.addN, Mu.wrapN _ bd, Mu.wrapN _ bb', Mu.wrapN _ bt, Mu.maskN _ bt, Mu.wrapN _ bc', Mu.wrapN _ bw, Mu.wrapN _ ba', Mu.wrapN _ bh1, Mu.wrapN _ bh, Mu.wrapM (x * y)]
  rw [hhi]
  go_ret2
  exact ⟨rfl, rfl⟩
set_option maxHeartbeats 1000000 in
theorem mul1_any (n : Nat) (hn : n ≤ 1000) (w : World) :
    Calls Try.prog 93 #[.int .u64 1, .int .u64 n] w fun e w' => e = .returned (.tuple #[.int .u64 0, .int .u64 n]) ∧ w = w' := by
  have h := fun W => mul64_any 1 n (by omega) (by omega) W
  have e1 : ((1 * n / 18446744073709551616 : Nat) : Int) = 0 := by omega
  have e2 : ((1 * n % 18446744073709551616 : Nat) : Int) = (n : Int) := by omega
  rw [e1, e2] at h
  have H := hid h
  clear h e1 e2
  go_enter Try.func93, Try.ntmps93
  go_wp2_with fail
  go_wp2_with (go_at_call 97; refine (H.out _).mono ?_; rintro e w' ⟨rfl, rfl⟩)
  go_ret2
  exact ⟨rfl, rfl⟩
theorem pxCells_append (a b : List Px) : pxCells (a ++ b) = pxCells a ++ pxCells b := by simp [pxCells]
/-- k pixels of one kind, then zeros -/
def repCells (x : Px) (k m : Nat) : List Value := pxCells (List.replicate k x ++ List.replicate m (0, 0))
theorem repCells_len (x : Px) (k m : Nat) : (repCells x k m).length = (k + m) * 2 := by unfold repCells; rw [pxCells_len]; simp
theorem rep_splice (x : Px) (k m j : Nat) (hj : j ≤ m) : splice (repCells x k m) (k * 2) (pxCells (List.replicate j x)) = repCells x (k + j) (m - j) := by
  have e1 : (pxCells (List.replicate k x)).length = k * 2 := by rw [pxCells_len, List.length_replicate]
  have e2 : (pxCells (List.replicate j x)).length = j * 2 := by rw [pxCells_len, List.length_replicate]
  have e3 : (pxCells (List.replicate j ((0, 0) : Px))).length = j * 2 := by rw [pxCells_len, List.length_replicate]
  have e4 : repCells x k m = pxCells (List.replicate k x) ++ (pxCells (List.replicate j (0, 0)) ++ pxCells (List.replicate (m - j) (0, 0))) := by
    unfold repCells
    rw [pxCells_append, ← pxCells_append (List.replicate j _), List.replicate_append_replicate, show j + (m - j) = m by omega]
  have e5 : repCells x (k + j) (m - j) = pxCells (List.replicate k x) ++ (pxCells (List.replicate j x) ++ pxCells (List.replicate (m - j) (0, 0))) := by
    unfold repCells
    rw [pxCells_append, ← List.replicate_append_replicate, pxCells_append, List.append_assoc]
  unfold splice
  rw [e4, e5, e2, List.take_left' e1]
  have e6 : (pxCells (List.replicate k x) ++ pxCells (List.replicate j ((0, 0) : Px))).length = k * 2 + j * 2 := by rw [List.length_append, e1, e3]
  rw [show pxCells (List.replicate k x) ++ (pxCells (List.replicate j ((0, 0) : Px)) ++ pxCells (List.replicate (m - j) (0, 0))) = (pxCells (List.replicate k x) ++ pxCells (List.replicate j ((0, 0) : Px))) ++ pxCells (List.replicate (m - j) (0, 0)) by rw [List.append_assoc], List.drop_left' e6]
theorem info_size_px : (Try.prog.info? 42).map (·.size) = some 2 := by kernel_rfl
/-- the call returns so many of that pixel, in new memory -/
def RetRep (x : Px) (n : Nat) (w : World) (e : Ending) (w' : World) : Prop := ∃ g : Nat, e = .returned (.slice (some ⟨g, 0, none⟩) n n) ∧ w.heap.size ≤ g ∧ w'.heap[g]? = some (.cells (pxCells (List.replicate n x)).toArray 42 (0, 0)) ∧ Below w.heap.size w w'
theorem rep_at (i : Nat) : ∀ (n : Nat), (pxCells (List.replicate n (0, 0)))[i]? = if i < n * 2 then some (.int .i64 0) else none
  | 0 => by simp [pxCells]
  | n + 1 => by
    rw [List.replicate_succ', pxCells_append, List.getElem?_append, pxCells_len, List.length_replicate]
    by_cases h : i < n * 2
    · rw [if_pos h, rep_at i n, if_pos h, if_pos (by omega)]
    · rw [if_neg h]
      by_cases h2 : i < (n + 1) * 2
      · rw [if_pos h2]
        rcases (show i - n * 2 = 0 ∨ i - n * 2 = 1 by omega) with e | e <;> rw [e] <;> rfl
      · rw [if_neg h2, List.getElem?_eq_none (by simp [pxCells]; omega)]
theorem made_px (n : Nat) : (madeCells #[.int .i64 0, .int .i64 0] (n * 2)).toList = repCells (0, 0) 0 n := by
  unfold repCells madeCells
  simp only [List.replicate_zero, List.nil_append]
  apply List.ext_getElem?
  intro i
  rw [rep_at]
  simp only [Array.getElem?_toList, Array.getElem?_map, Array.getElem?_range]
  by_cases h : i < n * 2
  · rw [if_pos h, if_pos h]
    simp only [Option.map_some]
    rcases (show i % 2 = 0 ∨ i % 2 = 1 by omega) with e | e <;> simp [e]
  · rw [if_neg h, if_neg h]; rfl
theorem own_full {w : World} {base e size g n : Nat} {xs : List Value} (h : w.ownsRow base e size (.slice (some ⟨g, 0, none⟩) n n) n xs) : w.heap[g]? = some (.cells xs.toArray e (0, 0)) := by
  rcases h.2 with ⟨hv, h0⟩ | ⟨g', cap, cur, hv, hg, hh, hnc, hcm, hcs, ht⟩
  · cases hv
  · injection hv with h1 h2 h3
    injection h1 with h1
    injection h1 with h1
    subst h1 h3
    rw [← hcs, ← Array.length_toList, List.take_length] at ht
    rw [← ht]
    exact hh
theorem kept_cell {w w' : World} {B : Nat} (hb : Below B w w') {b o : Nat} {v : Value} (h : b < B) (hc : w.cell? ⟨b, o, none⟩ = some v) : w'.cell? ⟨b, o, none⟩ = some v := (hb.cell (p := ⟨b, o, none⟩) h).trans hc
theorem rep_step {k n : Nat} (h1 : 1 ≤ k) (h2 : k < n) : 1 ≤ k + Nat.min k (n - k) ∧ k + Nat.min k (n - k) ≤ n ∧ k < k + Nat.min k (n - k) := by
  show 1 ≤ k + min k (n - k) ∧ k + min k (n - k) ≤ n ∧ k < k + min k (n - k)
  omega
theorem rep_src {W : World} {g k m j : Nat} {x : Px} (h : W.heap[g]? = some (.cells (repCells x k m).toArray 42 (0, 0))) (hj : j ≤ k) : ∀ i v, (pxCells (List.replicate j x))[i]? = some v → W.cell? ((⟨g, 0, none⟩ : Addr).add i) = some v := by
  intro i v hv
  have e : repCells x k m = pxCells (List.replicate j x) ++ pxCells (List.replicate (k - j) x ++ List.replicate m (0, 0)) := by
    unfold repCells
    rw [← pxCells_append, ← List.append_assoc, List.replicate_append_replicate, show j + (k - j) = k by omega]
  have hi := (List.getElem?_eq_some_iff.1 hv).1
  have h2 : (repCells x k m)[i]? = some v := by rw [e, List.getElem?_append_left hi]; exact hv
  rw [show (⟨g, 0, none⟩ : Addr).add i = ⟨g, i, none⟩ from by
    unfold Addr.add
    by_cases h : i = 0
    · subst h; simp
    · rw [if_neg h]; simp]
  obtain ⟨h3, h4⟩ := List.getElem?_eq_some_iff.1 h2
  simp [World.cell?, h, h3, h4]
theorem rep_copy {w wr : World} {g k n j : Nat} {x : Px} (h1 : 1 ≤ k) (hj : Nat.min k (n - k) = j) (h : wr.drew.heap[g]? = some (.cells (repCells x k (n - k)).toArray 42 (0, 0))) (hb : Below w.heap.size w wr.drew) (hg : w.heap.size ≤ g) :
    ∃ w4, (Builtin.copy_ #[47, 47] 3 #[.slice (some ⟨g, k * 2, none⟩) (n - k) (n - k), .slice (some ⟨g, 0, none⟩) k n]).run Try.prog wr.drew = .ok (.int .i64 (j : Int)) w4 ∧ Hid (w4.heap[g]? = some (.cells (repCells x (k + j) (n - k - j)).toArray 42 (0, 0))) ∧ Below w.heap.size w w4 := by
  have h2 : min k (n - k) = j := hj
  have hl : (pxCells (List.replicate j x)).length = j * 2 := by rw [pxCells_len, List.length_replicate]
  have hf : k * 2 + (pxCells (List.replicate j x)).length ≤ (repCells x k (n - k)).length := by rw [hl, repCells_len]; omega
  refine ⟨_, run_copy_rowS (P := Try.prog) wr.drew 47 47 3 42 g (k * 2) (n - k) (n - k) ⟨g, 0, none⟩ k n (repCells x k (n - k)).toArray 42 2 j (pxCells (List.replicate j x)) Try.underlying47 info_size_px h hj.symm hl (rep_src h (by omega)) (by simpa using hf) (fun u hu => pxCells_cell hu), ?_, ?_⟩
  · have e := rep_splice x k (n - k) j (by omega)
    show _ = _
    rw [setRow_heap wr.drew g _ _ 42 _ h, ← e]
    simp [splice]
  · exact below_setRow hb hg _
set_option maxRecDepth 100000 in
set_option maxHeartbeats 1000000 in
theorem repeat_any (x : Px) (A : Option Addr) (c n : Nat) (w : World) (hl : Pixs w A 1 [x]) (hn : 1 ≤ n) (hn2 : n ≤ 1000) :
    Calls Try.prog 83 #[.slice A 1 c, .int .i64 n] w (RetRep x n w) := by
  obtain ⟨b, off, rfl, hb, hc⟩ := hl.open_ (by omega)
  obtain ⟨hc0, hc1⟩ := hc 0 (by simp)
  simp only [Nat.zero_mul, Nat.add_zero, List.getElem_cons_zero] at hc0 hc1
  clear hc hl
  obtain ⟨i0, hi, hz0, hz1, hz2⟩ := info_parts info_px
  have hmax : decide ((9223372036854775807 : Int) < (n : Int)) = false := by simp; omega
  go_enter Try.func83, Try.ntmps83
  go_upto_region 6 with (go_at_call 93; refine (mul1_any n hn2 _).mono ?_; rintro e w' ⟨rfl, rfl⟩)
  go_wp2_with (at_make; refine wpList_make_full _ rfl (.tmp 29) (.tmp 29) 47 rfl w.heap.size 42 i0 (.agg #[.int .i64 0, .int .i64 0]) 2 Try.underlying47 hi hz0 hz1 .i64 .i64 n n n rfl rfl rfl rfl ?b2 ?b3 (Nat.le_refl _) ?_)
  case b2 => rw [hz2]; omega
  case b3 => unfold maxLen; omega
  intro w1 hown hgrow
  have hb1 : Below w.heap.size w w1 := (Below.refl w.heap.size w).grown hgrow (Nat.le_refl _) (fun g hg => by cases hg)
  have hh := own_full hown
  rw [made_px] at hh
  have k0 := kept_cell hb1 hb hc0
  have k1 := kept_cell hb1 hb hc1
  have Hh := hid hh
  obtain ⟨g, hg⟩ : ∃ g, g = w.heap.size := ⟨_, rfl⟩
  have hgle : w.heap.size ≤ g := by omega
  rw [← hg] at Hh ⊢
  clear hg hh hown hgrow hc0 hc1
  go_wp2_with (refine wpList_copy_S (o := ⟨some 33, _, _, _, _, _⟩) rfl (.tmp 31) (.tmp 32) 47 47 rfl 42 2 Try.underlying47 info_size_px ⟨g, 0, none⟩ ⟨b, off, none⟩ n n 1 c rfl rfl g 0 rfl (repCells (0, 0) 0 n) 42 Hh.out (pxCells (List.replicate 1 x)) 1 ?c0 ?c1 ?c2 ?c3 (fun u hu => pxCells_cell hu) w.heap.size w hb1 ?c4 ?_)
  case c0 => show 1 = min 1 n; omega
  case c1 => rw [pxCells_len]; simp
  case c2 =>
    intro j v hv
    match j with
    | 0 => have e : v = .int .i64 x.1 := by simpa [pxCells] using hv.symm
           subst e; exact k0
    | 1 => have e : v = .int .i64 x.2 := by simpa [pxCells] using hv.symm
           subst e; exact k1
    | j + 2 => simp [pxCells] at hv
  case c3 => rw [pxCells_len, repCells_len]; simp; omega
  case c4 => exact hgle
  intro w2 Hh2 hb2
  have Hh3 : Hid (w2.heap[g]? = some (.cells (repCells x 1 (n - 1)).toArray 42 (0, 0))) := by
    have e := rep_splice x 0 n 1 hn
    have h := Hh2.out
    unfold repCells at h e
    simp only [List.replicate_zero, List.nil_append, Nat.zero_mul] at h e
    rw [show (List.replicate 1 x) = [x] from rfl] at e
    rw [e] at h
    exact h
  clear Hh Hh2 k0 k1 hb1 w1
  go_wp2_with fail
  go_loopw [8] (fun i wr => ∃ k : Nat, 1 ≤ k ∧ k ≤ n ∧ i = .int .i64 k ∧ Hid (wr.heap[g]? = some (.cells (repCells x k (n - k)).toArray 42 (0, 0))) ∧ Below w.heap.size w wr) (fun i _ => n - (intOf i).toNat)
  case atStart => exact ⟨1, by omega, hn, rfl, Hh3, hb2⟩
  case round =>
    clear Hh3 hb2
    obtain ⟨k, hk1, hk2, rfl, Hk, hbk⟩ := hrel
    by_cases hlt : k < n
    · have q1 : (0 : Int) ≤ (k : Int) := by omega
      have q2 : (k : Int) ≤ (n : Int) := by omega
      obtain ⟨j, hj⟩ : ∃ j, Nat.min k (n - k) = j := ⟨_, rfl⟩
      obtain ⟨s1, s2, s3⟩ := rep_step hk1 hlt
      rw [hj] at s1 s2 s3
      have Hj := hid hj
      clear hj
      have w1 : IntKind.i64.wrap ((k : Int) + (j : Int)) = (k : Int) + (j : Int) := IntWalk.i64_in _ (by omega)
      have hb3 := hbk.drew
      have hne : ¬ n = k := by omega
      obtain ⟨w4, hrun, Hk4, hb4⟩ := rep_copy (w := w) hk1 (Hj.out) Hk.out hb3 hgle
      have Hkj := hid (show n - (k + j) = n - k - j by omega)
      clear hb3 Hj
      go_wp2_with fail
      go_region
      go_wp2_with fail
      go_roundw
      case rel => exact ⟨k + j, s1, s2, by go_num, by rw [Hkj.out]; exact Hk4, hb4⟩
      case measure => simp [intOf]; omega
    · have e : k = n := by omega
      subst e
      have e0 : k - k = 0 := Nat.sub_self k
      rw [e0] at Hk
      have Hk2 := hid Hk.out
      unfold repCells at Hk2
      rw [List.replicate_zero, List.append_nil] at Hk2
      clear Hk e0
      go_wp2_with fail
      go_ret
      exact ⟨g, rfl, hgle, Hk2.out, hbk⟩
end Fb
