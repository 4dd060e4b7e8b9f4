/- picture.at, the guesses and their closures return what the plain laws say. Conditions: bounds on lengths and bytes. -/
import Derived.Test.YtinlmikkggnljaaPicLaw
import Derived.Test.YtinlmikkggnljaaErr
namespace Fb
open Go Go.Proofs Go.RowKit Go.Sort
/-- a slice of ints reads as r -/
def Ints (w : World) (A : Option Addr) (n : Nat) (r : List Int) : Prop := r.length = n ∧ Row w A n 1 (r.map (Value.int .i64))
theorem Ints.below {w w' : World} {A : Option Addr} {n : Nat} {r : List Int} (h : Ints w A n r) (hb : Below w.heap.size w w') : Ints w' A n r := ⟨h.1, h.2.below hb⟩
theorem Ints.cell {w : World} {A : Option Addr} {n k : Nat} {r : List Int} (h : Ints w A n r) (hk : k < r.length) : ∃ b off, A = some ⟨b, off, none⟩ ∧ b < w.heap.size ∧ w.cell? ⟨b, off + k, none⟩ = some (.int .i64 r[k]) := by
  obtain ⟨b, off, e, hb, hc⟩ := h.2.2 (by have := h.1; omega)
  exact ⟨b, off, e, hb, hc k _ (by rw [List.getElem?_map, List.getElem?_eq_getElem hk]; rfl)⟩
set_option maxRecDepth 100000 in
set_option maxHeartbeats 800000 in
theorem at_any (A : Option Addr) (n c : Nat) (r : List Int) (i : Int) (w : World) (h : Ints w A n r) (_hn : n ≤ 1000) :
    Calls Try.prog 76 #[.slice A n c, .int .i64 i] w fun e w' => e = .returned (.int .i64 (atI r i)) ∧ w = w' := by
  have Hl := hid h.1
  by_cases h0 : i < 0
  · have hr := hid (atI_neg (r := r) h0)
    clear h
    go_enter Try.func76, Try.ntmps76
    go_wp2
    go_ret
    exact ⟨ret_int hr.out.symm, rfl⟩
  · by_cases h1 : (n : Int) ≤ i
    · have hr := hid (atI_big (r := r) (i := i) (by rw [Hl.out]; exact h1))
      clear h
      go_enter Try.func76, Try.ntmps76
      go_wp2
      go_ret
      exact ⟨ret_int hr.out.symm, rfl⟩
    · obtain ⟨k, hk⟩ : ∃ k : Nat, i = (k : Int) := ⟨i.toNat, by omega⟩
      subst hk
      have hk : k < r.length := by rw [Hl.out]; omega
      obtain ⟨b, off, rfl, hb, hc⟩ := h.cell hk
      have hr := hid (atI_at hk)
      generalize r[k] = v at *
      clear h
      have q1 : (0 : Int) ≤ (k : Int) := by omega
      have q2 : (k : Int) < (n : Int) := by omega
      go_enter Try.func76, Try.ntmps76
      go_wp2
      go_ret
      exact ⟨ret_int hr.out.symm, rfl⟩
set_option maxHeartbeats 400000 in
theorem guess0_any (a b : Int) (w : World) : Calls Try.prog 77 #[.int .i64 a, .int .i64 b] w fun e w' => e = .returned (.int .i64 (guessI 0 a b)) ∧ w = w' := by
  go_enter Try.func77, Try.ntmps77
  go_wp2
  go_ret
  exact ⟨rfl, rfl⟩
set_option maxHeartbeats 400000 in
theorem guess1_any (a b : Int) (w : World) : Calls Try.prog 78 #[.int .i64 a, .int .i64 b] w fun e w' => e = .returned (.int .i64 (guessI 1 a b)) ∧ w = w' := by
  go_enter Try.func78, Try.ntmps78
  go_wp2
  go_ret
  exact ⟨rfl, rfl⟩
set_option maxHeartbeats 400000 in
theorem guess2_any (a b : Int) (w : World) : Calls Try.prog 79 #[.int .i64 a, .int .i64 b] w fun e w' => e = .returned (.int .i64 (guessI 2 a b)) ∧ w = w' := by
  go_enter Try.func79, Try.ntmps79
  go_wp2
  go_ret
  exact ⟨rfl, rfl⟩
set_option maxHeartbeats 400000 in
theorem guess3_any (a b : Int) (w : World) (ha : 0 ≤ a ∧ a ≤ 255) (hb : 0 ≤ b ∧ b ≤ 255) : Calls Try.prog 80 #[.int .i64 a, .int .i64 b] w fun e w' => e = .returned (.int .i64 (guessI 3 a b)) ∧ w = w' := by
  go_enter Try.func80, Try.ntmps80
  go_wp2
  go_ret
  exact ⟨rfl, rfl⟩
end Fb
