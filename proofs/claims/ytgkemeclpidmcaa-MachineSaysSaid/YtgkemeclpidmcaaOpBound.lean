/- op.bound: it returns what the plain law says. Conditions: a kind that there is. -/
import Derived.Test.YtgkemeclpidmcaaOpWalk
namespace Fb
open Go Go.Proofs Go.RowKit Go.Sort

set_option maxRecDepth 100000 in
set_option maxHeartbeats 2000000 in
theorem bound_k1 (i a b c d pw ph : Int) (pl : List Px) (A : Option Addr) (n cp : Nat) (w : World) : Calls Try.prog 69 #[opV ⟨⟨1, i, a, b, c, d, ⟨pw, ph, pl⟩⟩, A, n, cp⟩] w (Ret (.bool (boundB ⟨1, i, a, b, c, d, ⟨pw, ph, pl⟩⟩)) w) := by
  unfold opV
  have e : boundB ⟨1, i, a, b, c, d, ⟨pw, ph, pl⟩⟩ = (inB a 1 8 && inB b 1 8) := by simp [boundB]
  rw [e]
  clear e
  cases hp : inB a (-20) 20
  all_goals
    cases hq : inB a 1 8
    all_goals
      go_enter Try.func69, Try.ntmps69
      go_wp2_with (first | (go_at_call 68; refine (within_any _ _ _ _).mono ?_; rintro e w' ⟨rfl, rfl⟩; (first | rw [hp] | skip); (first | rw [hq] | skip)))
      go_ret
      exact ⟨rfl, by (repeat (first | with_reducible exact Below.refl _ _ | with_reducible refine Below.alloc ?_ (by first | omega | (simp; done) | (simp; omega)) _ | with_reducible refine below_drewN ?_ _ | with_reducible refine Below.drew ?_))⟩
set_option maxRecDepth 100000 in
set_option maxHeartbeats 2000000 in
theorem bound_k2 (i a b c d pw ph : Int) (pl : List Px) (A : Option Addr) (n cp : Nat) (w : World) : Calls Try.prog 69 #[opV ⟨⟨2, i, a, b, c, d, ⟨pw, ph, pl⟩⟩, A, n, cp⟩] w (Ret (.bool (boundB ⟨2, i, a, b, c, d, ⟨pw, ph, pl⟩⟩)) w) := by
  unfold opV
  have e : boundB ⟨2, i, a, b, c, d, ⟨pw, ph, pl⟩⟩ = (true) := by simp [boundB]
  rw [e]
  clear e
  cases hp : inB a (-20) 20
  all_goals
    go_enter Try.func69, Try.ntmps69
    go_wp2_with (first | (go_at_call 68; refine (within_any _ _ _ _).mono ?_; rintro e w' ⟨rfl, rfl⟩; (first | rw [hp] | skip); skip))
    go_ret
    exact ⟨rfl, by (repeat (first | with_reducible exact Below.refl _ _ | with_reducible refine Below.alloc ?_ (by first | omega | (simp; done) | (simp; omega)) _ | with_reducible refine below_drewN ?_ _ | with_reducible refine Below.drew ?_))⟩
set_option maxRecDepth 100000 in
set_option maxHeartbeats 2000000 in
theorem bound_k3 (i a b c d pw ph : Int) (pl : List Px) (A : Option Addr) (n cp : Nat) (w : World) : Calls Try.prog 69 #[opV ⟨⟨3, i, a, b, c, d, ⟨pw, ph, pl⟩⟩, A, n, cp⟩] w (Ret (.bool (boundB ⟨3, i, a, b, c, d, ⟨pw, ph, pl⟩⟩)) w) := by
  unfold opV
  have e : boundB ⟨3, i, a, b, c, d, ⟨pw, ph, pl⟩⟩ = (inB a (-20) 20 && inB b (-20) 20) := by simp [boundB]
  rw [e]
  clear e
  cases hp : inB a (-20) 20
  all_goals
    go_enter Try.func69, Try.ntmps69
    go_wp2_with (first | (go_at_call 68; refine (within_any _ _ _ _).mono ?_; rintro e w' ⟨rfl, rfl⟩; (first | rw [hp] | skip); skip))
    go_ret
    exact ⟨rfl, by (repeat (first | with_reducible exact Below.refl _ _ | with_reducible refine Below.alloc ?_ (by first | omega | (simp; done) | (simp; omega)) _ | with_reducible refine below_drewN ?_ _ | with_reducible refine Below.drew ?_))⟩
set_option maxRecDepth 100000 in
set_option maxHeartbeats 2000000 in
theorem bound_k5 (i a b c d pw ph : Int) (pl : List Px) (A : Option Addr) (n cp : Nat) (w : World) : Calls Try.prog 69 #[opV ⟨⟨5, i, a, b, c, d, ⟨pw, ph, pl⟩⟩, A, n, cp⟩] w (Ret (.bool (boundB ⟨5, i, a, b, c, d, ⟨pw, ph, pl⟩⟩)) w) := by
  unfold opV
  have e : boundB ⟨5, i, a, b, c, d, ⟨pw, ph, pl⟩⟩ = (inB a 0 1) := by simp [boundB]
  rw [e]
  clear e
  cases hp : inB a (-20) 20
  all_goals
    go_enter Try.func69, Try.ntmps69
    go_wp2_with (first | (go_at_call 68; refine (within_any _ _ _ _).mono ?_; rintro e w' ⟨rfl, rfl⟩; (first | rw [hp] | skip); skip))
    go_ret
    exact ⟨rfl, by (repeat (first | with_reducible exact Below.refl _ _ | with_reducible refine Below.alloc ?_ (by first | omega | (simp; done) | (simp; omega)) _ | with_reducible refine below_drewN ?_ _ | with_reducible refine Below.drew ?_))⟩
set_option maxRecDepth 100000 in
set_option maxHeartbeats 2000000 in
theorem bound_k6 (i a b c d pw ph : Int) (pl : List Px) (A : Option Addr) (n cp : Nat) (w : World) : Calls Try.prog 69 #[opV ⟨⟨6, i, a, b, c, d, ⟨pw, ph, pl⟩⟩, A, n, cp⟩] w (Ret (.bool (boundB ⟨6, i, a, b, c, d, ⟨pw, ph, pl⟩⟩)) w) := by
  unfold opV
  have e : boundB ⟨6, i, a, b, c, d, ⟨pw, ph, pl⟩⟩ = (inB a 1 6) := by simp [boundB]
  rw [e]
  clear e
  cases hp : inB a (-20) 20
  all_goals
    go_enter Try.func69, Try.ntmps69
    go_wp2_with (first | (go_at_call 68; refine (within_any _ _ _ _).mono ?_; rintro e w' ⟨rfl, rfl⟩; (first | rw [hp] | skip); skip))
    go_ret
    exact ⟨rfl, by (repeat (first | with_reducible exact Below.refl _ _ | with_reducible refine Below.alloc ?_ (by first | omega | (simp; done) | (simp; omega)) _ | with_reducible refine below_drewN ?_ _ | with_reducible refine Below.drew ?_))⟩
set_option maxRecDepth 100000 in
set_option maxHeartbeats 2000000 in
theorem bound_k7 (i a b c d pw ph : Int) (pl : List Px) (A : Option Addr) (n cp : Nat) (w : World) : Calls Try.prog 69 #[opV ⟨⟨7, i, a, b, c, d, ⟨pw, ph, pl⟩⟩, A, n, cp⟩] w (Ret (.bool (boundB ⟨7, i, a, b, c, d, ⟨pw, ph, pl⟩⟩)) w) := by
  unfold opV
  have e : boundB ⟨7, i, a, b, c, d, ⟨pw, ph, pl⟩⟩ = (true) := by simp [boundB]
  rw [e]
  clear e
  cases hp : inB a (-20) 20
  all_goals
    go_enter Try.func69, Try.ntmps69
    go_wp2_with (first | (go_at_call 68; refine (within_any _ _ _ _).mono ?_; rintro e w' ⟨rfl, rfl⟩; (first | rw [hp] | skip); skip))
    go_ret
    exact ⟨rfl, by (repeat (first | with_reducible exact Below.refl _ _ | with_reducible refine Below.alloc ?_ (by first | omega | (simp; done) | (simp; omega)) _ | with_reducible refine below_drewN ?_ _ | with_reducible refine Below.drew ?_))⟩
set_option maxRecDepth 100000 in
set_option maxHeartbeats 2000000 in
theorem bound_k8 (i a b c d pw ph : Int) (pl : List Px) (A : Option Addr) (n cp : Nat) (w : World) : Calls Try.prog 69 #[opV ⟨⟨8, i, a, b, c, d, ⟨pw, ph, pl⟩⟩, A, n, cp⟩] w (Ret (.bool (boundB ⟨8, i, a, b, c, d, ⟨pw, ph, pl⟩⟩)) w) := by
  unfold opV
  have e : boundB ⟨8, i, a, b, c, d, ⟨pw, ph, pl⟩⟩ = (inB a (-20) 20 && inB b (-20) 20) := by simp [boundB]
  rw [e]
  clear e
  cases hp : inB a (-20) 20
  all_goals
    go_enter Try.func69, Try.ntmps69
    go_wp2_with (first | (go_at_call 68; refine (within_any _ _ _ _).mono ?_; rintro e w' ⟨rfl, rfl⟩; (first | rw [hp] | skip); skip))
    go_ret
    exact ⟨rfl, by (repeat (first | with_reducible exact Below.refl _ _ | with_reducible refine Below.alloc ?_ (by first | omega | (simp; done) | (simp; omega)) _ | with_reducible refine below_drewN ?_ _ | with_reducible refine Below.drew ?_))⟩
set_option maxRecDepth 100000 in
set_option maxHeartbeats 2000000 in
theorem bound_k9 (i a b c d pw ph : Int) (pl : List Px) (A : Option Addr) (n cp : Nat) (w : World) : Calls Try.prog 69 #[opV ⟨⟨9, i, a, b, c, d, ⟨pw, ph, pl⟩⟩, A, n, cp⟩] w (Ret (.bool (boundB ⟨9, i, a, b, c, d, ⟨pw, ph, pl⟩⟩)) w) := by
  unfold opV
  have e : boundB ⟨9, i, a, b, c, d, ⟨pw, ph, pl⟩⟩ = (inB a (-20) 20 && inB b (-20) 20) := by simp [boundB]
  rw [e]
  clear e
  cases hp : inB a (-20) 20
  all_goals
    go_enter Try.func69, Try.ntmps69
    go_wp2_with (first | (go_at_call 68; refine (within_any _ _ _ _).mono ?_; rintro e w' ⟨rfl, rfl⟩; (first | rw [hp] | skip); skip))
    go_ret
    exact ⟨rfl, by (repeat (first | with_reducible exact Below.refl _ _ | with_reducible refine Below.alloc ?_ (by first | omega | (simp; done) | (simp; omega)) _ | with_reducible refine below_drewN ?_ _ | with_reducible refine Below.drew ?_))⟩
set_option maxRecDepth 100000 in
set_option maxHeartbeats 2000000 in
theorem bound_k10 (i a b c d pw ph : Int) (pl : List Px) (A : Option Addr) (n cp : Nat) (w : World) : Calls Try.prog 69 #[opV ⟨⟨10, i, a, b, c, d, ⟨pw, ph, pl⟩⟩, A, n, cp⟩] w (Ret (.bool (boundB ⟨10, i, a, b, c, d, ⟨pw, ph, pl⟩⟩)) w) := by
  unfold opV
  have e : boundB ⟨10, i, a, b, c, d, ⟨pw, ph, pl⟩⟩ = (inB a 0 255 && inB b 0 255) := by simp [boundB]
  rw [e]
  clear e
  cases hp : inB a (-20) 20
  all_goals
    cases hq : inB a 0 255
    all_goals
      go_enter Try.func69, Try.ntmps69
      go_wp2_with (first | (go_at_call 68; refine (within_any _ _ _ _).mono ?_; rintro e w' ⟨rfl, rfl⟩; (first | rw [hp] | skip); (first | rw [hq] | skip)))
      go_ret
      exact ⟨rfl, by (repeat (first | with_reducible exact Below.refl _ _ | with_reducible refine Below.alloc ?_ (by first | omega | (simp; done) | (simp; omega)) _ | with_reducible refine below_drewN ?_ _ | with_reducible refine Below.drew ?_))⟩
set_option maxRecDepth 100000 in
set_option maxHeartbeats 2000000 in
theorem bound_k11 (i a b c d pw ph : Int) (pl : List Px) (A : Option Addr) (n cp : Nat) (w : World) : Calls Try.prog 69 #[opV ⟨⟨11, i, a, b, c, d, ⟨pw, ph, pl⟩⟩, A, n, cp⟩] w (Ret (.bool (boundB ⟨11, i, a, b, c, d, ⟨pw, ph, pl⟩⟩)) w) := by
  unfold opV
  have e : boundB ⟨11, i, a, b, c, d, ⟨pw, ph, pl⟩⟩ = (inB a 0 99) := by simp [boundB]
  rw [e]
  clear e
  cases hp : inB a (-20) 20
  all_goals
    go_enter Try.func69, Try.ntmps69
    go_wp2_with (first | (go_at_call 68; refine (within_any _ _ _ _).mono ?_; rintro e w' ⟨rfl, rfl⟩; (first | rw [hp] | skip); skip))
    go_ret
    exact ⟨rfl, by (repeat (first | with_reducible exact Below.refl _ _ | with_reducible refine Below.alloc ?_ (by first | omega | (simp; done) | (simp; omega)) _ | with_reducible refine below_drewN ?_ _ | with_reducible refine Below.drew ?_))⟩
set_option maxRecDepth 100000 in
set_option maxHeartbeats 2000000 in
theorem bound_k12 (i a b c d pw ph : Int) (pl : List Px) (A : Option Addr) (n cp : Nat) (w : World) : Calls Try.prog 69 #[opV ⟨⟨12, i, a, b, c, d, ⟨pw, ph, pl⟩⟩, A, n, cp⟩] w (Ret (.bool (boundB ⟨12, i, a, b, c, d, ⟨pw, ph, pl⟩⟩)) w) := by
  unfold opV
  have e : boundB ⟨12, i, a, b, c, d, ⟨pw, ph, pl⟩⟩ = (inB a 0 9) := by simp [boundB]
  rw [e]
  clear e
  cases hp : inB a (-20) 20
  all_goals
    go_enter Try.func69, Try.ntmps69
    go_wp2_with (first | (go_at_call 68; refine (within_any _ _ _ _).mono ?_; rintro e w' ⟨rfl, rfl⟩; (first | rw [hp] | skip); skip))
    go_ret
    exact ⟨rfl, by (repeat (first | with_reducible exact Below.refl _ _ | with_reducible refine Below.alloc ?_ (by first | omega | (simp; done) | (simp; omega)) _ | with_reducible refine below_drewN ?_ _ | with_reducible refine Below.drew ?_))⟩
set_option maxRecDepth 100000 in
set_option maxHeartbeats 2000000 in
theorem bound_k13 (i a b c d pw ph : Int) (pl : List Px) (A : Option Addr) (n cp : Nat) (w : World) : Calls Try.prog 69 #[opV ⟨⟨13, i, a, b, c, d, ⟨pw, ph, pl⟩⟩, A, n, cp⟩] w (Ret (.bool (boundB ⟨13, i, a, b, c, d, ⟨pw, ph, pl⟩⟩)) w) := by
  unfold opV
  have e : boundB ⟨13, i, a, b, c, d, ⟨pw, ph, pl⟩⟩ = (true) := by simp [boundB]
  rw [e]
  clear e
  cases hp : inB a (-20) 20
  all_goals
    go_enter Try.func69, Try.ntmps69
    go_wp2_with (first | (go_at_call 68; refine (within_any _ _ _ _).mono ?_; rintro e w' ⟨rfl, rfl⟩; (first | rw [hp] | skip); skip))
    go_ret
    exact ⟨rfl, by (repeat (first | with_reducible exact Below.refl _ _ | with_reducible refine Below.alloc ?_ (by first | omega | (simp; done) | (simp; omega)) _ | with_reducible refine below_drewN ?_ _ | with_reducible refine Below.drew ?_))⟩
set_option maxRecDepth 100000 in
set_option maxHeartbeats 2000000 in
theorem bound_k14 (i a b c d pw ph : Int) (pl : List Px) (A : Option Addr) (n cp : Nat) (w : World) : Calls Try.prog 69 #[opV ⟨⟨14, i, a, b, c, d, ⟨pw, ph, pl⟩⟩, A, n, cp⟩] w (Ret (.bool (boundB ⟨14, i, a, b, c, d, ⟨pw, ph, pl⟩⟩)) w) := by
  unfold opV
  have e : boundB ⟨14, i, a, b, c, d, ⟨pw, ph, pl⟩⟩ = (true) := by simp [boundB]
  rw [e]
  clear e
  cases hp : inB a (-20) 20
  all_goals
    go_enter Try.func69, Try.ntmps69
    go_wp2_with (first | (go_at_call 68; refine (within_any _ _ _ _).mono ?_; rintro e w' ⟨rfl, rfl⟩; (first | rw [hp] | skip); skip))
    go_ret
    exact ⟨rfl, by (repeat (first | with_reducible exact Below.refl _ _ | with_reducible refine Below.alloc ?_ (by first | omega | (simp; done) | (simp; omega)) _ | with_reducible refine below_drewN ?_ _ | with_reducible refine Below.drew ?_))⟩
set_option maxRecDepth 100000 in
set_option maxHeartbeats 2000000 in
theorem bound_k15 (i a b c d pw ph : Int) (pl : List Px) (A : Option Addr) (n cp : Nat) (w : World) : Calls Try.prog 69 #[opV ⟨⟨15, i, a, b, c, d, ⟨pw, ph, pl⟩⟩, A, n, cp⟩] w (Ret (.bool (boundB ⟨15, i, a, b, c, d, ⟨pw, ph, pl⟩⟩)) w) := by
  unfold opV
  have e : boundB ⟨15, i, a, b, c, d, ⟨pw, ph, pl⟩⟩ = (true) := by simp [boundB]
  rw [e]
  clear e
  cases hp : inB a (-20) 20
  all_goals
    go_enter Try.func69, Try.ntmps69
    go_wp2_with (first | (go_at_call 68; refine (within_any _ _ _ _).mono ?_; rintro e w' ⟨rfl, rfl⟩; (first | rw [hp] | skip); skip))
    go_ret
    exact ⟨rfl, by (repeat (first | with_reducible exact Below.refl _ _ | with_reducible refine Below.alloc ?_ (by first | omega | (simp; done) | (simp; omega)) _ | with_reducible refine below_drewN ?_ _ | with_reducible refine Below.drew ?_))⟩
set_option maxRecDepth 100000 in
set_option maxHeartbeats 2000000 in
theorem bound_k16 (i a b c d pw ph : Int) (pl : List Px) (A : Option Addr) (n cp : Nat) (w : World) : Calls Try.prog 69 #[opV ⟨⟨16, i, a, b, c, d, ⟨pw, ph, pl⟩⟩, A, n, cp⟩] w (Ret (.bool (boundB ⟨16, i, a, b, c, d, ⟨pw, ph, pl⟩⟩)) w) := by
  unfold opV
  have e : boundB ⟨16, i, a, b, c, d, ⟨pw, ph, pl⟩⟩ = (true) := by simp [boundB]
  rw [e]
  clear e
  cases hp : inB a (-20) 20
  all_goals
    go_enter Try.func69, Try.ntmps69
    go_wp2_with (first | (go_at_call 68; refine (within_any _ _ _ _).mono ?_; rintro e w' ⟨rfl, rfl⟩; (first | rw [hp] | skip); skip))
    go_ret
    exact ⟨rfl, by (repeat (first | with_reducible exact Below.refl _ _ | with_reducible refine Below.alloc ?_ (by first | omega | (simp; done) | (simp; omega)) _ | with_reducible refine below_drewN ?_ _ | with_reducible refine Below.drew ?_))⟩
set_option maxRecDepth 100000 in
set_option maxHeartbeats 2000000 in
theorem bound_k4 (i a b c d pw ph : Int) (pl : List Px) (A : Option Addr) (n cp : Nat) (w : World) : Calls Try.prog 69 #[opV ⟨⟨4, i, a, b, c, d, ⟨pw, ph, pl⟩⟩, A, n, cp⟩] w (Ret (.bool (boundB ⟨4, i, a, b, c, d, ⟨pw, ph, pl⟩⟩)) w) := by
  unfold opV
  have e : boundB ⟨4, i, a, b, c, d, ⟨pw, ph, pl⟩⟩ = decide (rectFault ⟨a, b, c, d⟩ = 0) := by simp [boundB]
  rw [e]
  clear e
  cases hp : inB a (-20) 20
  all_goals
    cases hR : rectFault ⟨a, b, c, d⟩
    all_goals
      go_enter Try.func69, Try.ntmps69
      go_wp2_with (first | (go_at_call 68; refine (within_any _ _ _ _).mono ?_; rintro e w' ⟨rfl, rfl⟩; (first | rw [hp] | skip)) | (go_at_call 82; refine (rcheck_any ⟨a, b, c, d⟩ _).mono ?_; rintro e w' ⟨rfl, Hb⟩; simp only [hR]; (first | rw [errV_zero] | rw [errV_pos (Nat.succ_ne_zero _)])))
      go_ret
      exact ⟨rfl, bnext (by (repeat (first | with_reducible exact Below.refl _ _ | with_reducible refine Below.alloc ?_ (by first | omega | (simp; done) | (simp; omega)) _ | with_reducible refine below_drewN ?_ _ | with_reducible refine Below.drew ?_))) Hb⟩
/-- op.bound: may its numbers be? -/
theorem bound_any (r : FAt FOp) (w : World) (h1 : 1 ≤ r.x.kind) (h2 : r.x.kind ≤ 16) : Calls Try.prog 69 #[opV r] w (Ret (.bool (boundB r.x)) w) := by
  obtain ⟨⟨k, i, a, b, c, d, ⟨pw, ph, pl⟩⟩, A, n, cp⟩ := r
  simp only at h1 h2
  rcases (show k = 1 ∨ k = 2 ∨ k = 3 ∨ k = 4 ∨ k = 5 ∨ k = 6 ∨ k = 7 ∨ k = 8 ∨ k = 9 ∨ k = 10 ∨ k = 11 ∨ k = 12 ∨ k = 13 ∨ k = 14 ∨ k = 15 ∨ k = 16 by omega) with rfl | rfl | rfl | rfl | rfl | rfl | rfl | rfl | rfl | rfl | rfl | rfl | rfl | rfl | rfl | rfl
  · exact bound_k1 i a b c d pw ph pl A n cp w
  · exact bound_k2 i a b c d pw ph pl A n cp w
  · exact bound_k3 i a b c d pw ph pl A n cp w
  · exact bound_k4 i a b c d pw ph pl A n cp w
  · exact bound_k5 i a b c d pw ph pl A n cp w
  · exact bound_k6 i a b c d pw ph pl A n cp w
  · exact bound_k7 i a b c d pw ph pl A n cp w
  · exact bound_k8 i a b c d pw ph pl A n cp w
  · exact bound_k9 i a b c d pw ph pl A n cp w
  · exact bound_k10 i a b c d pw ph pl A n cp w
  · exact bound_k11 i a b c d pw ph pl A n cp w
  · exact bound_k12 i a b c d pw ph pl A n cp w
  · exact bound_k13 i a b c d pw ph pl A n cp w
  · exact bound_k14 i a b c d pw ph pl A n cp w
  · exact bound_k15 i a b c d pw ph pl A n cp w
  · exact bound_k16 i a b c d pw ph pl A n cp w
end Fb
