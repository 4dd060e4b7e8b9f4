/- The walk of flickerbooktop.TopPack: it returns true and writes nothing that was there. Condition: the text is no longer than a Go text may be. -/
import Derived.Test.YteiicekadcihcaaTopPackLaw
import Derived.Test.YteiicekadcihcaaLawPack
set_option linter.unusedSimpArgs false
set_option linter.unusedVariables false
namespace Fb
open Go Go.Proofs Go.RowKit
theorem strOf_data (l : List UInt8) : (strOf l).data.toList = l := by simp [strOf]
theorem strOf_toList (l : List UInt8) : (strOf l).toList = l := by unfold strOf; exact ByteArray.toList_mk l
theorem strOf_self (s : ByteArray) : strOf s.data.toList = s := by unfold strOf; simp
theorem unp_aaa : unpV [3, 97] 3 = .tuple #[.string (strOf [97, 97, 97]), errV 0] := by
  unfold unpV
  rw [show unpack [3, 97] 3 = ([97, 97, 97], 0) by decide]
set_option maxRecDepth 100000 in
set_option maxHeartbeats 1000000 in
theorem topPack_row (w : World) (s : ByteArray) (hs : s.size ≤ maxLen) :
    Calls Try.prog 6 #[.string s] w (Ret (.bool true) w) := by
  unfold maxLen at hs
  have hp := unp_aaa
  have ht3 := strOf_toList [97, 97, 97]
  by_cases h1 : 1000 < s.size
  · go_enter Try.func6, Try.ntmps6
    go_wp2_with fail
    refine (unpack_any _ _ _ (by decide) (by decide)).mono ?_
    rintro e w1 ⟨rfl, hb⟩
    rw [show ({ data := #[3, 97] } : ByteArray).data.toList = [3, 97] from rfl, hp]
    rw [errV_zero]
    go_wp2_with fail
    go_ret
    exact ⟨rfl, hb⟩
  have hV := hid (unpV_of (unpack_pack s.data.toList))
  have hl : s.data.toList.length = s.size := by simp
  have hpl := pack_len _ s.data.toList (Nat.le_refl _)
  have hps : (strOf (pack s.data.toList)).size ≤ 2 * s.size := by rw [strOf_size]; omega
  rw [hl, strOf_self, errV_zero] at hV
  clear hpl
  go_enter Try.func6, Try.ntmps6
  go_wp2_with fail
  refine (unpack_any _ _ _ (by decide) (by decide)).mono ?_
  rintro e w1 ⟨rfl, hb⟩
  rw [show ({ data := #[3, 97] } : ByteArray).data.toList = [3, 97] from rfl, hp]
  rw [errV_zero]
  clear hp hl
  go_wp2_with fail
  refine (pack_any s w1 (by omega)).mono ?_
  rintro e w2 ⟨rfl, hb2⟩
  have hb' := bnext hb hb2
  clear hb hb2
  go_wp2_with fail
  refine (unpack_any _ _ w2 (by omega) (by omega)).mono ?_
  rintro e w3 ⟨rfl, hb3⟩
  have hb := bnext hb' hb3
  clear hb' hb3
  rw [strOf_data, hV.out]
  go_wp2_with fail
  refine (unpack_any _ _ w3 (by omega) (by omega)).mono ?_
  rintro e w4 ⟨rfl, hb4⟩
  have hb' := bnext hb hb4
  clear hb hb4
  rw [strOf_data]
  by_cases he : s.data.toList = []
  · have hz : s.toList = [] := by rw [ByteArray.toList_eq]; exact he
    unfold unpV
    go_wp2_with fail
    go_ret
    exact ⟨rfl, hb'⟩
  · have hz : s.toList.isEmpty = false := by
      rw [ByteArray.toList_eq]
      cases h : s.data.toList with
      | nil => exact absurd h he
      | cons a l => rfl
    have h2 := unpack_less _ he
    rw [show ((s.data.toList.length : Nat) : Int) = (s.size : Int) by simp] at h2
    rw [unpV_of h2]
    clear h2 he
    go_wp2_with fail
    refine (number_any 2 w4 (by decide)).mono ?_
    rintro e w5 ⟨rfl, hb5⟩
    have hb := bnext hb' hb5
    go_wp2_with fail
    go_ret
    exact ⟨rfl, hb⟩
end Fb
