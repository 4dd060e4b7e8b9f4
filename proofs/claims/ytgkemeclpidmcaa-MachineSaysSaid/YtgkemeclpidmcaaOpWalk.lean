/- op.within, has, numbers, bound and the search for a number that isn't 0: they return what the plain laws say. Conditions: a kind that there is, for has. -/
import Derived.Test.YtgkemeclpidmcaaPlainB
import Derived.Test.YtgkemeclpidmcaaWalksA
import Derived.Test.YtgkemeclpidmcaaPicInts
import Derived.RegionTactic
import Derived.BigRegion
namespace Fb
open Go Go.Proofs Go.RowKit Go.Sort
theorem inB_lo {n a b : Int} (h : n < a) : inB n a b = false := by unfold inB; simp; omega
theorem inB_hi {n a b : Int} (h : b < n) : inB n a b = false := by unfold inB; simp; omega
theorem inB_in {n a b : Int} (h1 : a ≤ n) (h2 : n ≤ b) : inB n a b = true := by unfold inB; simp; omega
set_option maxHeartbeats 400000 in
theorem within_any (n lo hi : Int) (w : World) : Calls Try.prog 68 #[.int .i64 n, .int .i64 lo, .int .i64 hi] w fun e w' => e = .returned (.bool (inB n lo hi)) ∧ w = w' := by
  by_cases h1 : n < lo
  · have hr := hid (inB_lo (b := hi) h1)
    have h1' : ¬ lo ≤ n := by omega
    go_enter Try.func68, Try.ntmps68
    go_wp2
    go_ret
    exact ⟨ret_bool hr.out.symm, rfl⟩
  · by_cases h2 : hi < n
    · have hr := hid (inB_hi (a := lo) h2)
      have h1' : lo ≤ n := by omega
      have h2' : ¬ n ≤ hi := by omega
      go_enter Try.func68, Try.ntmps68
      go_wp2
      go_ret
      exact ⟨ret_bool hr.out.symm, rfl⟩
    · have h1' : lo ≤ n := by omega
      have h2' : n ≤ hi := by omega
      have hr := hid (inB_in h1' h2')
      go_enter Try.func68, Try.ntmps68
      go_wp2
      go_ret
      exact ⟨ret_bool hr.out.symm, rfl⟩
def hasV (k : Int) : Value := .tuple #[.bool (hasId k), .int .i64 (manyN k), .bool (hasPic k)]
set_option maxRecDepth 100000 in
set_option maxHeartbeats 4000000 in
theorem ophas_any (k : Int) (w : World) (h1 : 1 ≤ k) (h2 : k ≤ 16) : Calls Try.prog 64 #[.int .i64 k] w (Ret (hasV k) w) := by
  rcases (show k = 1 ∨ k = 2 ∨ k = 3 ∨ k = 4 ∨ k = 5 ∨ k = 6 ∨ k = 7 ∨ k = 8 ∨ k = 9 ∨ k = 10 ∨ k = 11 ∨ k = 12 ∨ k = 13 ∨ k = 14 ∨ k = 15 ∨ k = 16 by omega) with rfl | rfl | rfl | rfl | rfl | rfl | rfl | rfl | rfl | rfl | rfl | rfl | rfl | rfl | rfl | rfl
  all_goals
    go_enter Try.func64, Try.ntmps64
    go_wp2_with fail
    go_region
    go_wp2_with fail
    go_ret3
    exact ⟨rfl, by (repeat (first | with_reducible exact Below.refl _ _ | with_reducible refine Below.alloc ?_ (by first | omega | (simp; done) | (simp; omega)) _ | with_reducible refine below_drewN ?_ _ | with_reducible refine Below.drew ?_))⟩
set_option maxRecDepth 100000 in
set_option maxHeartbeats 2000000 in
theorem rparts_any (k : Int) (w : World) (h1 : 1 ≤ k) (h2 : k ≤ 16) : Calls Try.prog 50 #[.int .i64 k] w fun e w' => e = .returned (hasV k) ∧ w = w' := by
  rcases (show k = 1 ∨ k = 2 ∨ k = 3 ∨ k = 4 ∨ k = 5 ∨ k = 6 ∨ k = 7 ∨ k = 8 ∨ k = 9 ∨ k = 10 ∨ k = 11 ∨ k = 12 ∨ k = 13 ∨ k = 14 ∨ k = 15 ∨ k = 16 by omega) with rfl | rfl | rfl | rfl | rfl | rfl | rfl | rfl | rfl | rfl | rfl | rfl | rfl | rfl | rfl | rfl
  all_goals
    go_enter Try.func50, Try.ntmps50
    go_wp2_with fail
    go_ret3
    exact ⟨rfl, rfl⟩
/-- an op as a value -/
def opV (r : FAt FOp) : Value := .agg #[.int .i64 r.x.kind, .int .i64 r.x.id, .int .i64 r.x.a, .int .i64 r.x.b, .int .i64 r.x.c, .int .i64 r.x.d, .int .i64 r.x.pic.w, .int .i64 r.x.pic.h, .slice r.A r.n r.c]
/-- the call returns a slice of four numbers in new memory -/
def RetFour (l : List Int) (w : World) (e : Ending) (w' : World) : Prop := ∃ g : Nat, e = .returned (.slice (some ⟨g, 0, none⟩) 4 4) ∧ Ints w' (some ⟨g, 0, none⟩) 4 l ∧ Below w.heap.size w w'
set_option maxRecDepth 100000 in
set_option maxHeartbeats 400000 in
theorem numbers_any (k i a b c d pw ph : Int) (A : Option Addr) (n cp : Nat) (w : World) :
    Calls Try.prog 66 #[.agg #[.int .i64 k, .int .i64 i, .int .i64 a, .int .i64 b, .int .i64 c, .int .i64 d, .int .i64 pw, .int .i64 ph, .slice A n cp]] w (RetFour [a, b, c, d] w) := by
  go_enter Try.func66, Try.ntmps66
  go_wp2_with fail
  go_ret
  refine ⟨w.heap.size + 1, by simp, ⟨rfl, ?_⟩, by (repeat (first | with_reducible exact Below.refl _ _ | with_reducible refine Below.alloc ?_ (by first | omega | (simp; done) | (simp; omega)) _ | with_reducible refine below_drewN ?_ _ | with_reducible refine Below.drew ?_))⟩
  refine ⟨rfl, fun _ => ⟨w.heap.size + 1, 0, rfl, by simp, fun j u hu => ?_⟩⟩
  match j, hu with
  | 0, hu => simp at hu; subst hu; simp
  | 1, hu => simp at hu; subst hu; simp
  | 2, hu => simp at hu; subst hu; simp
  | 3, hu => simp at hu; subst hu; simp
set_option maxHeartbeats 400000 in
theorem notzero_any (n : Int) (w : World) : Calls Try.prog 67 #[.int .i64 n] w fun e w' => e = .returned (.bool (n != 0)) ∧ w = w' := by
  go_enter Try.func67, Try.ntmps67
  go_wp2
  go_ret
  exact ⟨rfl, rfl⟩
/-- an index of a number that isn't 0; below 0: there is none -/
def IdxNZ (l : List Int) (w : World) (e : Ending) (w' : World) : Prop := ∃ r : Int, e = .returned (.int .i64 r) ∧ decide (0 ≤ r) = l.any (fun n => decide (n ≠ 0)) ∧ w = w'
theorem idx_hit {l : List Int} {k : Nat} (h : k < l.length) (hn : l[k] ≠ 0) : decide (0 ≤ (k : Int)) = l.any (fun n => decide (n ≠ 0)) := by
  have h1 : l.any (fun n => decide (n ≠ 0)) = true := List.any_eq_true.2 ⟨_, List.getElem_mem h, by simpa using hn⟩
  rw [h1]; simp
theorem idx_none {l : List Int} (h : ∀ k (h : k < l.length), l[k] = 0) : decide (0 ≤ (-1 : Int)) = l.any (fun n => decide (n ≠ 0)) := by
  have h1 : l.any (fun n => decide (n ≠ 0)) = false := by
    rw [List.any_eq_false]
    intro x hx
    obtain ⟨k, hk, rfl⟩ := List.getElem_of_mem hx
    simp [h k hk]
  rw [h1]; rfl
set_option maxRecDepth 100000 in
set_option maxHeartbeats 800000 in
theorem indexnz_any (A : Option Addr) (n c : Nat) (l : List Int) (w : World) (h : Ints w A n l) (hn : n ≤ 100) :
    Calls Try.prog 81 #[.slice A n c, .func (.func 67) #[] #[]] w (IdxNZ l w) := by
  have Hl := hid h.1
  have HI := hid h
  clear h
  go_enter Try.func81, Try.ntmps81
  go_wp2_with fail
  go_loop [8] (fun i => ∃ k : Nat, k ≤ n ∧ i = .int .i64 k ∧ Hid (∀ j (h : j < l.length), j < k → l[j] = 0)) (fun i => n - (intOf i).toNat)
  case atStart => exact ⟨0, by omega, rfl, hid (fun j h hj => absurd hj (by omega))⟩
  case round =>
    obtain ⟨k, hk, rfl, hz⟩ := hrel
    by_cases hlt : k < n
    · have k1 : k < l.length := by rw [Hl.out]; exact hlt
      obtain ⟨b, off, rfl, hb, hc⟩ := HI.out.cell k1
      have q1 : (0 : Int) ≤ (k : Int) := by omega
      have q2 : (k : Int) < (n : Int) := by omega
      have Hhit := hid (fun h => idx_hit k1 h)
      have Hst := hid (fun h : l[k] = 0 => fun j (hj : j < l.length) (hj2 : j < k + 1) => (show l[j] = 0 from by
        by_cases e : j = k
        · subst e; exact h
        · exact hz.out j hj (by omega)))
      generalize l[k] = x at *
      by_cases hx : x = 0
      · have hx' : (x != 0) = false := by simp [hx]
        have Hs := hid (Hst.out hx)
        clear hx Hst Hhit hz
        go_wp2_with (go_at_call 67; refine (notzero_any _ _).mono ?_; rintro e w' ⟨rfl, rfl⟩)
        go_round
        case rel => exact ⟨k + 1, by omega, by go_num, Hs⟩
        case measure => simp [intOf]; omega
      · have hx' : (x != 0) = true := by simp [hx]
        have Hh := hid (Hhit.out hx)
        clear hx Hst Hhit hz
        go_wp2_with (go_at_call 67; refine (notzero_any _ _).mono ?_; rintro e w' ⟨rfl, rfl⟩)
        go_ret
        exact ⟨k, rfl, Hh.out, rfl⟩
    · have Hn := hid (idx_none (l := l) (fun j hj => hz.out j hj (by rw [Hl.out] at hj; omega)))
      clear hz
      go_wp2_with fail
      go_ret
      exact ⟨-1, rfl, Hn.out, rfl⟩
set_option maxHeartbeats 400000 in
theorem containsnz_any (A : Option Addr) (n c : Nat) (l : List Int) (w : World) (h : Ints w A n l) (hn : n ≤ 100) :
    Calls Try.prog 65 #[.slice A n c, .func (.func 67) #[] #[]] w fun e w' => e = .returned (.bool (l.any (fun n => decide (n ≠ 0)))) ∧ w = w' := by
  have H := hid (fun W (hw : w = W) => indexnz_any A n c l W (hw ▸ h) hn)
  clear h
  go_enter Try.func65, Try.ntmps65
  go_wp2_with fail
  refine (H.out _ rfl).mono ?_
  rintro e w' ⟨r, rfl, hr, rfl⟩
  have Hr := hid hr
  clear hr
  go_wp2_with fail
  go_ret
  exact ⟨ret_bool Hr.out, rfl⟩
end Fb
