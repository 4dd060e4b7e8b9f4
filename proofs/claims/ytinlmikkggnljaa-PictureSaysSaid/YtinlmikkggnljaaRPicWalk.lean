/- The reference's byteAt and guess return what the plain laws say. Conditions: a picture that may be, or pixels enough; a row of it. -/
import Derived.Test.YtinlmikkggnljaaPicLaw3
import Derived.Test.YtinlmikkggnljaaPicFault
namespace Fb
open Go Go.Proofs Go.RowKit Go.Sort
set_option maxHeartbeats 400000 in
theorem rguess_any (way : Nat) (h : way < 4) (a b : Int) (w : World) (ha : 0 ≤ a ∧ a ≤ 255) (hb : 0 ≤ b ∧ b ≤ 255) : Calls Try.prog 50 #[.int .i64 (way : Int), .int .i64 a, .int .i64 b] w fun e w' => e = .returned (.int .i64 (guessI way a b)) ∧ w = w' := by
  rcases (show way = 0 ∨ way = 1 ∨ way = 2 ∨ way = 3 by omega) with rfl | rfl | rfl | rfl
  all_goals
    go_enter Try.func50, Try.ntmps50
    go_wp2
    go_ret
    exact ⟨rfl, rfl⟩
theorem byteL_out {W : Nat} {l : List Px} {y i : Int} (h : y < 0 ∨ i < 0 ∨ 2 * (W : Int) ≤ i) : byteL W l y i = 0 := if_pos h
theorem byteL_at {W : Nat} {l : List Px} {y i : Nat} (hi : i < 2 * W) (h : y * W + i / 2 < l.length) : byteL W l (y : Int) (i : Int) = if i % 2 = 0 then l[y * W + i / 2].1 else l[y * W + i / 2].2 := by
  unfold byteL
  rw [if_neg (by omega), Int.toNat_natCast, Int.toNat_natCast, List.getD_eq_getElem?_getD]
  obtain ⟨h0, h1⟩ := flatPx_at l (y * W + i / 2) h
  have e : y * (2 * W) = 2 * (y * W) := Nat.mul_left_comm _ _ _
  by_cases hp : i % 2 = 0
  · rw [if_pos hp, show y * (2 * W) + i = 2 * (y * W + i / 2) by omega, h0]; rfl
  · rw [if_neg hp, show y * (2 * W) + i = 2 * (y * W + i / 2) + 1 by omega, h1]; rfl
set_option maxRecDepth 100000 in
set_option maxHeartbeats 1000000 in
theorem byteat_any (P : Nat) (ph : Int) (l : List Px) (A : Option Addr) (n c : Nat) (y i : Int) (w : World) (hl : Pixs w A n l) (hP : P ≤ 8) (hy : y ≤ 8) (hi : i ≤ 100) (hn : 0 ≤ y → 0 ≤ i → i < 2 * (P : Int) → (y + 1) * (P : Int) ≤ (n : Int)) (hn2 : n ≤ 1000) :
    Calls Try.prog 49 #[.agg #[.int .i64 (P : Int), .int .i64 ph, .slice A n c], .int .i64 y, .int .i64 i] w (Ret (.int .i64 (byteL P l y i)) w) := by
  have Hl := hid hl.1
  by_cases h1 : y < 0
  · have hr := hid (byteL_out (W := P) (l := l) (y := y) (i := i) (.inl h1))
    clear hl hn
    go_enter Try.func49, Try.ntmps49
    go_wp2_with fail
    go_ret
    exact ⟨ret_int hr.out.symm, (Below.refl _ _).alloc (Nat.le_refl _) _⟩
  by_cases h2 : i < 0
  · have hr := hid (byteL_out (W := P) (l := l) (y := y) (i := i) (.inr (.inl h2)))
    clear hl hn
    go_enter Try.func49, Try.ntmps49
    go_wp2_with fail
    go_ret
    exact ⟨ret_int hr.out.symm, (Below.refl _ _).alloc (Nat.le_refl _) _⟩
  by_cases h3 : 2 * (P : Int) ≤ i
  · have hr := hid (byteL_out (W := P) (l := l) (y := y) (i := i) (.inr (.inr h3)))
    clear hl hn
    go_enter Try.func49, Try.ntmps49
    go_wp2_with fail
    go_ret
    exact ⟨ret_int hr.out.symm, (Below.refl _ _).alloc (Nat.le_refl _) _⟩
  have hnn := hn (by omega) (by omega) (by omega)
  obtain ⟨Y, rfl⟩ : ∃ Y : Nat, y = (Y : Int) := ⟨y.toNat, by omega⟩
  obtain ⟨I, rfl⟩ : ∃ I : Nat, i = (I : Int) := ⟨i.toNat, by omega⟩
  clear hn
  obtain ⟨YP, hYP⟩ : ∃ YP, Y * P = YP := ⟨_, rfl⟩
  have hYPi : (Y : Int) * (P : Int) = (YP : Int) := by rw [← hYP]; simp
  rw [Int.add_mul, hYPi, Int.one_mul] at hnn
  have hk : Y * P + I / 2 < l.length := by rw [hYP, Hl.out]; omega
  have hr := hid (byteL_at (W := P) (l := l) (y := Y) (i := I) (by omega) hk)
  obtain ⟨b, off, rfl, hb, hc⟩ := hl.open_ (by omega)
  obtain ⟨x0, x1⟩ := hc _ hk
  generalize l[Y * P + I / 2] = px at *
  obtain ⟨pv, pa⟩ := px
  rw [hYP] at x0 x1
  obtain ⟨KK, hKK⟩ : ∃ KK, YP + I / 2 = KK := ⟨_, rfl⟩
  rw [hKK] at x0 x1
  simp only at x0 x1 hr
  have HYPi := hid hYPi
  have e1 : IntKind.i64.wrap ((Y : Int) * (P : Int)) = (YP : Int) := by rw [hYPi]; exact IntWalk.i64_in _ (by omega)
  have e2 : IntKind.i64.wrap ((YP : Int) + (I : Int) / 2) = (KK : Int) := by rw [show (YP : Int) + (I : Int) / 2 = (KK : Int) by omega]; exact IntWalk.i64_in _ (by omega)
  have q1 : (0 : Int) ≤ (KK : Int) := by omega
  have q2 : (KK : Int) < (n : Int) := by omega
  have q3 : ¬ (Y : Int) < 0 := by omega
  have HKK := hid hKK
  have HYP := hid hYP
  clear hl hc hKK hYP hYPi hk
  by_cases hp : I % 2 = 0
  · have hr2 := hid (hr.out.trans (if_pos hp))
    have hp' : (((I : Int) % 2) == 0) = true := by simp; omega
    clear hp hr
    go_enter Try.func49, Try.ntmps49
    go_wp2_with fail
    go_ret
    exact ⟨ret_int hr2.out.symm, ((Below.refl _ _).alloc (Nat.le_refl _) _).alloc (by simp) _⟩
  · have hr2 := hid (hr.out.trans (if_neg hp))
    have hp' : (((I : Int) % 2) == 0) = false := by simp; omega
    clear hp hr
    go_enter Try.func49, Try.ntmps49
    go_wp2_with fail
    go_ret
    exact ⟨ret_int hr2.out.symm, ((Below.refl _ _).alloc (Nat.le_refl _) _).alloc (by simp) _⟩
end Fb
