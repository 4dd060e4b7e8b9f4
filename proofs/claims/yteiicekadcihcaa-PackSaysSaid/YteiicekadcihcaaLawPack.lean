/- The walk of flickerbooklaw.PackSays: it returns true and writes nothing that was there. Conditions: the texts are no longer than a Go text may be. -/
import Derived.Test.YteiicekadcihcaaUnpackWalk
import Derived.Test.YteiicekadcihcaaSameWalk
set_option linter.unusedSimpArgs false
set_option linter.unusedVariables false
namespace Fb
open Go Go.Proofs Go.RowKit
theorem pack_aab : strOf (pack [97, 97, 98]) = ⟨#[2, 97, 1, 98]⟩ := by decide
theorem unpack_err (L : List UInt8) (most : Int) : (unpack L most).2 ≤ 4 := by
  have go : ∀ (n : Nat) (L B : List UInt8), L.length ≤ n → (unpackGo L B most).2 ≤ 4 := by
    intro n
    induction n with
    | zero => intro L B h; match L with
      | [] => simp [unpackGo]
      | a :: l => simp at h
    | succ n ih => intro L B h; match L with
      | [] => simp [unpackGo]
      | [_] => simp [unpackGo]
      | a :: b :: l =>
        unfold unpackGo
        split
        · simp
        · split
          · simp
          · exact ih _ _ (by simp at h; omega)
  unfold unpack
  split
  · simp
  · exact go _ _ _ (Nat.le_refl _)
set_option maxRecDepth 100000 in
set_option maxHeartbeats 1000000 in
theorem packSays_walk (s t : ByteArray) (most : Int) (w : World) (hs : s.size ≤ 9223372036854775807) (ht : t.size ≤ 9223372036854775807) :
    Calls Try.prog 4 #[.string s, .string t, .int .i64 most] w (Ret (.bool true) w) := by
  have hp := pack_aab
  by_cases h1 : 1000 < s.size
  · go_enter Try.func4, Try.ntmps4
    go_wp2_with fail
    refine (pack_any _ _ (by decide)).mono ?_
    rintro e w1 ⟨rfl, hb⟩
    go_wp2_with fail
    go_ret
    exact ⟨rfl, hb⟩
  by_cases h2 : 60 < t.size
  · go_enter Try.func4, Try.ntmps4
    go_wp2_with fail
    refine (pack_any _ _ (by decide)).mono ?_
    rintro e w1 ⟨rfl, hb⟩
    go_wp2_with fail
    go_ret
    exact ⟨rfl, hb⟩
  by_cases h3 : 10000 < most
  · go_enter Try.func4, Try.ntmps4
    go_wp2_with fail
    refine (pack_any _ _ (by decide)).mono ?_
    rintro e w1 ⟨rfl, hb⟩
    go_wp2_with fail
    go_ret
    exact ⟨rfl, hb⟩
  have he := unpack_err t.data.toList most
  go_enter Try.func4, Try.ntmps4
  go_wp2_with fail
  refine (pack_any _ _ (by decide)).mono ?_
  rintro e w1 ⟨rfl, hb⟩
  go_wp2_with fail
  refine (unpack_any t most w1 (by omega) (by omega)).mono ?_
  rintro e w2 ⟨rfl, hb2⟩
  have hb := bnext hb hb2
  clear hb2
  unfold unpV
  go_wp2_with fail
  refine (runpacked_any t most w2 (by omega) (by omega)).mono ?_
  rintro e w3 ⟨rfl, hb3⟩
  have hb := bnext hb hb3
  clear hb3
  unfold unpN
  go_wp2_with fail
  refine (pack_any s w3 (by omega)).mono ?_
  rintro e w4 ⟨rfl, hb4⟩
  have hb := bnext hb hb4
  clear hb4
  go_wp2_with fail
  refine (rpacked_any s w4 (by omega)).mono ?_
  rintro e w5 ⟨rfl, hb5⟩
  have hb := bnext hb hb5
  clear hb5
  go_wp2_with fail
  refine (same_any _ _ w5 (by omega)).mono ?_
  rintro e w6 ⟨rfl, hb6⟩
  have hb := bnext hb hb6
  clear hb6
  rw [sameB_self]
  go_wp2_with fail
  go_ret
  exact ⟨rfl, hb⟩
theorem packSays_row (w : World) (s : ByteArray) (hs : s.size ≤ maxLen) (t : ByteArray) (ht : t.size ≤ maxLen) (most : Int) (_hm : (Lit.int .i64 most).wf = true) :
    Calls Try.prog 4 #[.string s, .string t, .int .i64 most] w (Ret (.bool true) w) :=
  packSays_walk s t most w (by unfold maxLen at hs; omega) (by unfold maxLen at ht; omega)
end Fb
