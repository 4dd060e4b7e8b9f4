/- flickerbookref.SameNumbers of equal rows, strconv.Itoa of 8, and flickerbooklaw.Names: it returns true. No conditions. -/
import Derived.Test.YtbddmpbifkgloaaDoorSameWalk
import Derived.Test.YtbddmpbifkgloaaDoorOwnKit
import Derived.Test.YtbddmpbifkgloaaDoorPicInts
import Derived.RegionTactic
import Derived.BigRegion
namespace Fb
open Go Go.Proofs Go.RowKit Go.Sort
set_option maxRecDepth 100000 in
set_option maxHeartbeats 1600000 in
theorem sameNumbers_any (A B : Option Addr) (n c d : Nat) (l : List Int) (w : World) (h1 : Ints w A n l) (h2 : Ints w B n l) (hn0 : 0 < n) (hn : n ≤ 1000) :
    Calls Tryd.prog 18 #[.slice A n c, .slice B n d] w (Ret (.bool true) w) := by
  have Hl := hid h1.1
  obtain ⟨g, o, rfl, _, hc⟩ := h1.2.2 hn0
  obtain ⟨g', o', rfl, _, hc'⟩ := h2.2.2 hn0
  have Hc := hid (fun k (hk : k < l.length) => hc k _ (by rw [List.getElem?_map, List.getElem?_eq_getElem hk]; rfl))
  have Hc' := hid (fun k (hk : k < l.length) => hc' k _ (by rw [List.getElem?_map, List.getElem?_eq_getElem hk]; rfl))
  clear h1 h2 hc hc'
  go_enter Tryd.func18, Tryd.ntmps18
  go_wp2
  go_loopw [5] (fun i wr => ∃ k nq : Nat, k ≤ n ∧ i = .int .i64 k ∧ wr = w.drewN nq) (fun i _ => n - (intOf i).toNat)
  case atStart => exact ⟨0, 0, by omega, rfl, rfl⟩
  case round =>
    obtain ⟨k, nq0, hk, rfl, rfl⟩ := hrel
    by_cases hlt : k < n
    · have k1 : k < l.length := by rw [Hl.out]; exact hlt
      have c1 := Hc.out k k1
      have c2 := Hc'.out k k1
      have i1 : (0 : Int) ≤ (k : Int) := by omega
      have i2 : (k : Int) < (n : Int) := by omega
      generalize l[k] = x at *
      have hneq : (x != x) = false := by simp
      go_wp2_with fail
      go_quiet (fail)
      go_wp2_with fail
      go_roundw
      case rel => exact ⟨k + 1, nq0 + nq, by omega, by go_num, by simp⟩
      case measure => simp [intOf]; omega
    · obtain rfl : k = n := by omega
      go_wp2_with fail
      go_ret
      exact ⟨rfl, by exact below_drewN (Below.refl _ _) _⟩
set_option maxRecDepth 100000 in
theorem small_8 (w : World) : Calls Tryd.prog 80 #[.int .i64 8] w fun e w' => e = .returned (.string ⟨#[56]⟩) ∧ w = w' := by
  go_enter Tryd.func80, Tryd.ntmps80
  go_wp2
  go_ret
  exact ⟨rfl, rfl⟩
set_option maxRecDepth 100000 in
theorem formatInt_8 (w : World) : Calls Tryd.prog 78 #[.int .i64 8, .int .i64 10] w fun e w' => e = .returned (.string ⟨#[56]⟩) ∧ w = w' := by
  go_enter Tryd.func78, Tryd.ntmps78
  go_wp2_with fail
  refine (small_8 _).mono ?_
  rintro e w1 ⟨rfl, rfl⟩
  go_wp2_with fail
  go_ret
  exact ⟨rfl, rfl⟩
set_option maxRecDepth 100000 in
theorem itoaI_8 (w : World) : Calls Tryd.prog 66 #[.int .i64 8] w fun e w' => e = .returned (.string ⟨#[56]⟩) ∧ w = w' := by
  go_enter Tryd.func66, Tryd.ntmps66
  go_wp2_with fail
  refine (formatInt_8 _).mono ?_
  rintro e w1 ⟨rfl, rfl⟩
  go_wp2_with fail
  go_ret
  exact ⟨rfl, rfl⟩
set_option maxRecDepth 100000 in
theorem itoa_8 (w : World) : Calls Tryd.prog 46 #[.int .i64 8] w fun e w' => e = .returned (.string ⟨#[56]⟩) ∧ w = w' := by
  go_enter Tryd.func46, Tryd.ntmps46
  go_wp2_with fail
  refine (itoaI_8 _).mono ?_
  rintro e w1 ⟨rfl, rfl⟩
  go_wp2_with fail
  go_ret
  exact ⟨rfl, rfl⟩
set_option maxRecDepth 100000 in
theorem error_8 (w : World) : Calls Tryd.prog 19 #[.int .i64 8] w fun e w' => e = .returned (.string ⟨#[102, 108, 105, 99, 107, 101, 114, 98, 111, 111, 107, 58, 32, 101, 114, 114, 111, 114, 32, 56]⟩) ∧ w = w' := by
  go_enter Tryd.func19, Tryd.ntmps19
  go_wp2_with fail
  refine (itoa_8 _).mono ?_
  rintro e w1 ⟨rfl, rfl⟩
  go_wp2_with fail
  go_ret
  exact ⟨rfl, rfl⟩
end Fb
