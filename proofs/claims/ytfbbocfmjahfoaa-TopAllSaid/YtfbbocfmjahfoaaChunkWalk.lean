/- chunk.Sum, Name and the reference's two: they return what the plain laws of chunks say. Conditions: a text is no longer than a Go text may be. -/
import Derived.Test.YtfbbocfmjahfoaaChunkLaw
import Derived.Test.YtfbbocfmjahfoaaErr
namespace Fb
open Go Go.Proofs Go.RowKit
theorem bs_len (s : ByteArray) : s.data.toList.length = s.size := by simp
theorem sum_takeB (s : ByteArray) (k : Nat) (h : k < s.size) : (sumL (s.data.toList.take (k + 1))).1 = ((sumL (s.data.toList.take k)).1 + s[k].toNat) % 251 ∧ (sumL (s.data.toList.take (k + 1))).2 = ((sumL (s.data.toList.take k)).2 + ((sumL (s.data.toList.take k)).1 + s[k].toNat) % 251) % 251 :=
  sumL_take s.data.toList k (by simpa using h)
def sumV (s : Bs) : Value := .tuple #[.int .i64 (sumL s).1, .int .i64 (sumL s).2]
theorem ret_eq' {a b : Value} (h : b = a) : Ending.returned a = .returned b := by rw [h]
set_option maxRecDepth 100000 in
set_option maxHeartbeats 400000 in
theorem sum_any (s : ByteArray) (w : World) (hs : s.size ≤ maxLen) :
    Calls Try.prog 30 #[.string s] w (Ret (sumV s.data.toList) w) := by
  unfold maxLen at hs
  have Hsz := hid (bs_len s)
  go_enter Try.func30, Try.ntmps30
  go_wp2
  go_loop [2, 3, 7] (fun a b i => ∃ k : Nat, k ≤ s.size ∧ i = .int .i64 k ∧ a = .int .i64 (sumL (s.data.toList.take k)).1 ∧ b = .int .i64 (sumL (s.data.toList.take k)).2) (fun _ _ i => s.size - (intOf i).toNat)
  case atStart => exact ⟨0, by omega, rfl, rfl, rfl⟩
  case round =>
    obtain ⟨k, hk, rfl, rfl, rfl⟩ := hrel
    have hlt := sumL_lt (s.data.toList.take k)
    by_cases hk' : k < s.size
    · have hst := hid (sum_takeB s k hk')
      have hn := UInt8.toNat_lt s[k]
      generalize hA : (sumL (s.data.toList.take k)).1 = a at *
      generalize hB : (sumL (s.data.toList.take k)).2 = b at *
      clear hA hB
      go_wp2
      go_round
      case rel =>
        refine ⟨k + 1, by omega, by go_num, ?_, ?_⟩
        · rw [hst.out.1]; simp
        · rw [hst.out.2]; simp [Int.add_assoc]
      case measure => simp [intOf]; omega
    · obtain rfl : k = s.size := by omega
      have he : s.data.toList.take s.size = s.data.toList := List.take_of_length_le (by rw [Hsz.out]; omega)
      have hV : sumV s.data.toList = .tuple #[.int .i64 (sumL (s.data.toList.take s.size)).1, .int .i64 (sumL (s.data.toList.take s.size)).2] := by unfold sumV; rw [he]
      have HV := hid hV
      clear he hV
      go_wp2
      go_ret2
      exact ⟨ret_eq' HV.out, Below.refl _ _⟩
set_option maxRecDepth 100000 in
set_option maxHeartbeats 400000 in
theorem rsum_any (s : ByteArray) (w : World) (hs : s.size ≤ maxLen) :
    Calls Try.prog 31 #[.string s] w (Ret (sumV s.data.toList) w) := by
  unfold maxLen at hs
  have Hsz := hid (bs_len s)
  go_enter Try.func31, Try.ntmps31
  go_wp2
  go_loop [4, 5, 6] (fun a b i => ∃ k : Nat, k ≤ s.size ∧ i = .int .i64 k ∧ a = .int .i64 (sumL (s.data.toList.take k)).1 ∧ b = .int .i64 (sumL (s.data.toList.take k)).2) (fun _ _ i => s.size - (intOf i).toNat)
  case atStart => exact ⟨0, by omega, rfl, rfl, rfl⟩
  case round =>
    obtain ⟨k, hk, rfl, rfl, rfl⟩ := hrel
    have hlt := sumL_lt (s.data.toList.take k)
    by_cases hk' : k < s.size
    · have hst := hid (sum_takeB s k hk')
      have hn := UInt8.toNat_lt s[k]
      generalize hA : (sumL (s.data.toList.take k)).1 = a at *
      generalize hB : (sumL (s.data.toList.take k)).2 = b at *
      clear hA hB
      go_wp2
      go_round
      case rel =>
        refine ⟨k + 1, by omega, by go_num, ?_, ?_⟩
        · rw [hst.out.1]; simp
        · rw [hst.out.2]; simp [Int.add_assoc]
      case measure => simp [intOf]; omega
    · obtain rfl : k = s.size := by omega
      have he : s.data.toList.take s.size = s.data.toList := List.take_of_length_le (by rw [Hsz.out]; omega)
      have hV : sumV s.data.toList = .tuple #[.int .i64 (sumL (s.data.toList.take s.size)).1, .int .i64 (sumL (s.data.toList.take s.size)).2] := by unfold sumV; rw [he]
      have HV := hid hV
      clear he hV
      go_wp2
      go_ret2
      exact ⟨ret_eq' HV.out, Below.refl _ _⟩
set_option maxRecDepth 100000 in
set_option maxHeartbeats 400000 in
theorem name_any (s : ByteArray) (w : World) (hs : s.size ≤ maxLen) :
    Calls Try.prog 34 #[.string s] w (Ret (.bool (nameB s.data.toList)) w) := by
  unfold maxLen at hs
  have Hsz := hid (bs_len s)
  go_enter Try.func34, Try.ntmps34
  go_wp2
  go_loop [6] (fun i => ∃ k : Nat, k ≤ s.size ∧ i = .int .i64 k ∧ (s.data.toList.take k).all capB = true) (fun i => s.size - (intOf i).toNat)
  case atStart => exact ⟨0, by omega, rfl, rfl⟩
  case round =>
    obtain ⟨k, hk, rfl, ha⟩ := hrel
    have Ha := hid ha
    clear ha
    by_cases hk' : k < s.size
    · have hk2 : k < s.data.toList.length := by rw [Hsz.out]; exact hk'
      by_cases h1 : (s[k]).toNat < 65
      · have hr := hid (nameB_bad hk2 (capB_low h1))
        have h1' : ((s[k]).toNat : Int) < 65 := by omega
        clear h1
        go_wp2
        go_ret
        exact ⟨ret_bool hr.out.symm, Below.refl _ _⟩
      by_cases h2 : 90 < (s[k]).toNat
      · have hr := hid (nameB_bad hk2 (capB_high h2))
        have h1' : ¬ ((s[k]).toNat : Int) < 65 := by omega
        have h2' : (90 : Int) < ((s[k]).toNat : Int) := by omega
        clear h1 h2
        go_wp2
        go_ret
        exact ⟨ret_bool hr.out.symm, Below.refl _ _⟩
      · have hr := hid (all_take hk2 Ha.out (capB_ok (c := s[k]) (by omega) (by omega)))
        have h1' : ¬ ((s[k]).toNat : Int) < 65 := by omega
        have h2' : ¬ (90 : Int) < ((s[k]).toNat : Int) := by omega
        clear h1 h2
        go_wp2
        go_round
        case rel => exact ⟨k + 1, by omega, by go_num, hr.out⟩
        case measure => simp [intOf]; omega
    · obtain rfl : k = s.size := by omega
      have he : s.data.toList.take s.size = s.data.toList := List.take_of_length_le (by rw [Hsz.out]; omega)
      rw [he] at Ha
      have hr := hid (nameB_done Ha.out)
      clear he
      go_wp2
      go_ret
      refine ⟨ret_bool ?_, Below.refl _ _⟩
      rw [hr.out, Hsz.out, Bool.eq_iff_iff]
      simp
      try omega
set_option maxRecDepth 100000 in
set_option maxHeartbeats 400000 in
theorem rname_any (s : ByteArray) (w : World) (hs : s.size ≤ maxLen) :
    Calls Try.prog 35 #[.string s] w (Ret (.bool (nameB s.data.toList)) w) := by
  unfold maxLen at hs
  have Hsz := hid (bs_len s)
  by_cases h4 : s.size = 4
  · have h4' : ((s.size : Int) != 4) = false := by rw [h4]; rfl
    have H4 := hid h4
    have hle : (s.size : Int) ≤ 4 := by omega
    have hge : (4 : Int) ≤ (s.size : Int) := by omega
    clear h4
    go_enter Try.func35, Try.ntmps35
    go_wp2
    go_loop [3] (fun i => ∃ k : Nat, k ≤ 4 ∧ i = .int .i64 k ∧ (s.data.toList.take k).all capB = true) (fun i => 4 - (intOf i).toNat)
    case atStart => exact ⟨0, by omega, rfl, rfl⟩
    case round =>
      obtain ⟨k, hk, rfl, ha⟩ := hrel
      have Ha := hid ha
      clear ha
      by_cases hk' : k < 4
      · have hk3 : k < s.size := by rw [H4.out]; exact hk'
        have hk2 : k < s.data.toList.length := by rw [Hsz.out]; exact hk3
        by_cases h1 : (s[k]).toNat < 65
        · have hr := hid (nameB_bad hk2 (capB_low h1))
          have h1' : ((s[k]).toNat : Int) < 65 := by omega
          clear h1
          go_wp2
          go_ret
          exact ⟨ret_bool hr.out.symm, Below.refl _ _⟩
        by_cases h2 : 90 < (s[k]).toNat
        · have hr := hid (nameB_bad hk2 (capB_high h2))
          have h1' : ¬ ((s[k]).toNat : Int) < 65 := by omega
          have h2' : (90 : Int) < ((s[k]).toNat : Int) := by omega
          clear h1 h2
          go_wp2
          go_ret
          exact ⟨ret_bool hr.out.symm, Below.refl _ _⟩
        · have hr := hid (all_take hk2 Ha.out (capB_ok (c := s[k]) (by omega) (by omega)))
          have h1' : ¬ ((s[k]).toNat : Int) < 65 := by omega
          have h2' : ¬ (90 : Int) < ((s[k]).toNat : Int) := by omega
          clear h1 h2
          go_wp2
          go_round
          case rel => exact ⟨k + 1, by omega, by go_num, hr.out⟩
          case measure => simp [intOf]; omega
      · obtain rfl : k = 4 := by omega
        have he : s.data.toList.take 4 = s.data.toList := List.take_of_length_le (by rw [Hsz.out, H4.out]; omega)
        rw [he] at Ha
        have hr := hid (nameB_done Ha.out)
        clear he
        go_wp2
        go_ret
        refine ⟨ret_bool ?_, Below.refl _ _⟩
        rw [hr.out, Hsz.out, H4.out]
        rfl
  · have h4' : ((s.size : Int) != 4) = true := by simp; omega
    have hr := hid (nameB_len (l := s.data.toList) (by rw [Hsz.out]; exact h4))
    clear h4
    go_enter Try.func35, Try.ntmps35
    go_wp2
    go_ret
    exact ⟨ret_bool hr.out.symm, Below.refl _ _⟩
end Fb
