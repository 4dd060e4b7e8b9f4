/- reel.Length, At, Same, slices.Equal at pixels, and the reference's: they return what the plain laws of frames say. Conditions: bounds on lengths. -/
import Derived.Test.YtinlmikkggnljaaReelLaw
import Derived.Test.YtinlmikkggnljaaErr
import Derived.Test.YtinlmikkggnljaaStructEq
namespace Fb
open Go Go.Proofs Go.RowKit Go.Sort
theorem neq_px_same (p : Px) (w : World) : (binOp .neq 43 (.agg #[.int .i64 p.1, .int .i64 p.2]) (.agg #[.int .i64 p.1, .int .i64 p.2])).run Try.prog w = .ok (.bool false) w := by
  rw [neq_px]; simp [eqPx]
theorem neq_px_other {p q : Px} (h : p ≠ q) (w : World) : (binOp .neq 43 (.agg #[.int .i64 p.1, .int .i64 p.2]) (.agg #[.int .i64 q.1, .int .i64 q.2])).run Try.prog w = .ok (.bool true) w := by
  rw [neq_px]
  have : eqPx p.1 p.2 q.1 q.2 = false := by
    unfold eqPx
    rw [decide_eq_false_iff_not]
    rintro ⟨h1, h2⟩
    exact h (Prod.ext h1 h2)
  rw [this]; rfl
theorem take_eq_step {α : Type} {l m : List α} {k : Nat} (h1 : k < l.length) (h2 : k < m.length) (ht : l.take k = m.take k) (he : l[k] = m[k]) : l.take (k + 1) = m.take (k + 1) := by
  rw [List.take_succ_eq_append_getElem h1, List.take_succ_eq_append_getElem h2, ht, he]
theorem ne_at {α : Type} {l m : List α} {k : Nat} (h1 : k < l.length) (h2 : k < m.length) (he : l[k] ≠ m[k]) : l ≠ m := by
  rintro rfl; exact he rfl
set_option maxRecDepth 100000 in
set_option maxHeartbeats 800000 in
theorem equal_any (A B : Option Addr) (n m c d : Nat) (l q : List Px) (w : World) (hl : Pixs w A n l) (hq : Pixs w B m q) (hn : n ≤ 1000000) (hm : m ≤ 1000000) :
    Calls Try.prog 55 #[.slice A n c, .slice B m d] w (Ret (.bool (decide (l = q))) w) := by
  have Hl := hid hl.1
  have Hq := hid hq.1
  by_cases hnm : n = m
  · subst hnm
    by_cases h0 : n = 0
    · subst h0
      have e1 : l = [] := List.eq_nil_of_length_eq_zero Hl.out
      have e2 : q = [] := List.eq_nil_of_length_eq_zero Hq.out
      have hr := hid (show decide (l = q) = true by rw [e1, e2]; simp)
      clear hl hq e1 e2
      go_enter Try.func55, Try.ntmps55
      go_wp2
      go_loop [13] (fun i => i = .int .i64 0) (fun _ => 0)
      case atStart => rfl
      case round =>
        subst hrel
        go_wp2
        go_ret
        exact ⟨ret_bool hr.out.symm, Below.refl _ _⟩
    · obtain ⟨b1, o1, rfl, hb1, hc1⟩ := hl.open_ (by omega)
      obtain ⟨b2, o2, rfl, hb2, hc2⟩ := hq.open_ (by omega)
      have Hc1 := hid hc1
      have Hc2 := hid hc2
      clear hl hq hc1 hc2
      go_enter Try.func55, Try.ntmps55
      go_wp2
      go_loopw [13] (fun i wr => ∃ k nq : Nat, k ≤ n ∧ i = .int .i64 k ∧ l.take k = q.take k ∧ wr = w.drewN nq) (fun i _ => n - (intOf i).toNat)
      case atStart => exact ⟨0, 0, by omega, rfl, rfl, rfl⟩
      case round =>
        obtain ⟨k, nq0, hk, rfl, ht, rfl⟩ := hrel
        have Ht := hid ht
        clear ht
        by_cases hlt : k < n
        · have k1 : k < l.length := by rw [Hl.out]; exact hlt
          have k2 : k < q.length := by rw [Hq.out]; exact hlt
          obtain ⟨c10, c11⟩ := Hc1.out k k1
          obtain ⟨c20, c21⟩ := Hc2.out k k2
          have i1 : (0 : Int) ≤ (k : Int) := by omega
          have i2 : (k : Int) < (n : Int) := by omega
          by_cases he : l[k] = q[k]
          · have hneq := neq_px_same q[k]
            have hst := hid (take_eq_step k1 k2 Ht.out he)
            rw [he] at c10 c11
            clear he
            go_wp2_with fail
            go_quiet (fail)
            go_wp2_with fail
            go_roundw
            case rel => exact ⟨k + 1, nq0 + nq, by omega, by go_num, hst.out, by simp⟩
            case measure => simp [intOf]; omega
          · have hneq := neq_px_other he
            have hr := hid (show decide (l = q) = false by rw [decide_eq_false_iff_not]; exact ne_at k1 k2 he)
            clear he
            go_wp2_with fail
            go_quiet (fail)
            go_wp2_with fail
            go_ret
            exact ⟨ret_bool hr.out.symm, by simp; exact below_drewN (Below.refl _ _) _⟩
        · obtain rfl : k = n := by omega
          have hr := hid (show decide (l = q) = true by
            have := Ht.out
            rw [List.take_of_length_le (by rw [Hl.out]; omega), List.take_of_length_le (by rw [Hq.out]; omega)] at this
            rw [this]; simp)
          go_wp2_with fail
          go_ret
          exact ⟨ret_bool hr.out.symm, below_drewN (Below.refl _ _) _⟩
  · have hr := hid (show decide (l = q) = false by
      rw [decide_eq_false_iff_not]
      rintro rfl
      exact hnm (Hl.out.symm.trans Hq.out))
    have hne : ((n : Int) != (m : Int)) = true := by rw [bne_iff_ne]; omega
    clear hl hq hnm
    go_enter Try.func55, Try.ntmps55
    go_wp2_with fail
    go_ret
    exact ⟨ret_bool hr.out.symm, Below.refl _ _⟩
end Fb
