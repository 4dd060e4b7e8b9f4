/- The law TopNest: it returns true. Condition: none. Printed by mktopnest.py. -/
import Derived.Test.YtgkemeclpidmcaaOpsKit
import Derived.Test.YtgkemeclpidmcaaOpen2
import Derived.Test.YtgkemeclpidmcaaRows
set_option linter.unusedSimpArgs false
set_option linter.unusedVariables false
namespace Fb
open Go Go.Proofs Go.RowKit Go.Sort
attribute [local go_sem ↓] Go.wp_at_zero Go.wp_at_succ
theorem datO_bare (os : List FOp) : datO (os.map bareR) = os := by unfold datO; rw [List.map_map]; exact List.map_id' os
theorem nest_bd {a b d : Int} (hf : BookFine (nestL a b d)) : (0 ≤ a ∧ a ≤ 9) ∧ (0 ≤ b ∧ b ≤ 9) := by
  have h1 := loop_bd (hf.ops 1 (by show 1 < 7; decide)) rfl
  have h2 := loop_bd (hf.ops 2 (by show 2 < 7; decide)) rfl
  have e1 : (opAt (nestL a b d) 1).a = a := rfl
  have e2 : (opAt (nestL a b d) 2).a = b := rfl
  rw [e1] at h1
  rw [e2] at h2
  exact ⟨h1, h2⟩
set_option maxRecDepth 100000 in
set_option maxHeartbeats 8000000 in
theorem topNest_walk (a b d : Int) (w : World) :
    Calls Try.prog 11 #[.int .i64 a, .int .i64 b, .int .i64 d] w (Ret (.bool true) w) := by
  go_enter Try.func11, Try.ntmps11
  go_wp2_with fail
  refine (mworks_any w).mono ?_
  rintro e w1 ⟨rfl, hb1⟩
  have hal := (Below.refl w1.heap.size w1).alloc (Nat.le_refl _) (.cells #[.int .i64 1, .int .i64 0, .int .i64 1, .int .i64 1, .int .i64 0, .int .i64 0, .int .i64 0, .int .i64 0, .slice none 0 0, .int .i64 12, .int .i64 0, .int .i64 a, .int .i64 0, .int .i64 0, .int .i64 0, .int .i64 0, .int .i64 0, .slice none 0 0, .int .i64 12, .int .i64 0, .int .i64 b, .int .i64 0, .int .i64 0, .int .i64 0, .int .i64 0, .int .i64 0, .slice none 0 0, .int .i64 11, .int .i64 0, .int .i64 d, .int .i64 0, .int .i64 0, .int .i64 0, .int .i64 0, .int .i64 0, .slice none 0 0, .int .i64 13, .int .i64 0, .int .i64 0, .int .i64 0, .int .i64 0, .int .i64 0, .int .i64 0, .int .i64 0, .slice none 0 0, .int .i64 13, .int .i64 0, .int .i64 0, .int .i64 0, .int .i64 0, .int .i64 0, .int .i64 0, .int .i64 0, .slice none 0 0, .int .i64 16, .int .i64 0, .int .i64 0, .int .i64 0, .int .i64 0, .int .i64 0, .int .i64 0, .int .i64 0, .slice none 0 0] 51)
  have hown : OwnL w1.heap.size _ (some ⟨w1.heap.size, 0, none⟩) 7 7 ((nestL a b d).map bareR) := OwnL.lit w1 (nestL a b d) #[.int .i64 1, .int .i64 0, .int .i64 1, .int .i64 1, .int .i64 0, .int .i64 0, .int .i64 0, .int .i64 0, .slice none 0 0, .int .i64 12, .int .i64 0, .int .i64 a, .int .i64 0, .int .i64 0, .int .i64 0, .int .i64 0, .int .i64 0, .slice none 0 0, .int .i64 12, .int .i64 0, .int .i64 b, .int .i64 0, .int .i64 0, .int .i64 0, .int .i64 0, .int .i64 0, .slice none 0 0, .int .i64 11, .int .i64 0, .int .i64 d, .int .i64 0, .int .i64 0, .int .i64 0, .int .i64 0, .int .i64 0, .slice none 0 0, .int .i64 13, .int .i64 0, .int .i64 0, .int .i64 0, .int .i64 0, .int .i64 0, .int .i64 0, .int .i64 0, .slice none 0 0, .int .i64 13, .int .i64 0, .int .i64 0, .int .i64 0, .int .i64 0, .int .i64 0, .int .i64 0, .int .i64 0, .slice none 0 0, .int .i64 16, .int .i64 0, .int .i64 0, .int .i64 0, .int .i64 0, .int .i64 0, .int .i64 0, .int .i64 0, .slice none 0 0] rfl (by simp [nestL]) (by simp [nestL, headOp, loopOp, waitOp, nextOp, endOp])
  have hB2 := bnext hb1 hal
  obtain ⟨R, hR⟩ : ∃ R, (nestL a b d).map bareR = R := ⟨_, rfl⟩
  rw [hR] at hown
  have hdd : datO R = nestL a b d := by rw [← hR]; exact datO_bare _
  have HO := hid hown
  clear hown hR hb1 hal
  go_wp2_with fail
  generalize w1.alloc (.cells #[.int .i64 1, .int .i64 0, .int .i64 1, .int .i64 1, .int .i64 0, .int .i64 0, .int .i64 0, .int .i64 0, .slice none 0 0, .int .i64 12, .int .i64 0, .int .i64 a, .int .i64 0, .int .i64 0, .int .i64 0, .int .i64 0, .int .i64 0, .slice none 0 0, .int .i64 12, .int .i64 0, .int .i64 b, .int .i64 0, .int .i64 0, .int .i64 0, .int .i64 0, .int .i64 0, .slice none 0 0, .int .i64 11, .int .i64 0, .int .i64 d, .int .i64 0, .int .i64 0, .int .i64 0, .int .i64 0, .int .i64 0, .slice none 0 0, .int .i64 13, .int .i64 0, .int .i64 0, .int .i64 0, .int .i64 0, .int .i64 0, .int .i64 0, .int .i64 0, .slice none 0 0, .int .i64 13, .int .i64 0, .int .i64 0, .int .i64 0, .int .i64 0, .int .i64 0, .int .i64 0, .int .i64 0, .slice none 0 0, .int .i64 16, .int .i64 0, .int .i64 0, .int .i64 0, .int .i64 0, .int .i64 0, .int .i64 0, .int .i64 0, .slice none 0 0] 51) = w2 at *
  refine (mmay_any _ 7 7 R w2 HO.out.ops (by unfold maxLen; omega)).mono ?_
  rintro e w3 ⟨rfl, hb3⟩
  have hB3 := bnext hB2 hb3
  by_cases hm : mayB 7 R = true
  case neg =>
    rw [show mayB 7 R = false by simpa using hm]
    go_wp2_with fail
    go_ret
    exact ⟨rfl, hB3⟩
  rw [hm]
  obtain ⟨m1, m2, m3⟩ := may_iff.1 hm
  have hs := light_small m2
  have hf : BookFine (nestL a b d) := by rw [← hdd]; exact book_fine m3
  obtain ⟨⟨ha0, ha9⟩, hb0, hb9⟩ := nest_bd hf
  obtain ⟨x, rfl⟩ : ∃ x : Nat, a = (x : Int) := ⟨a.toNat, by omega⟩
  obtain ⟨y, rfl⟩ : ∃ y : Nat, b = (y : Int) := ⟨b.toNat, by omega⟩
  have hxy : x * y ≤ 9 * 9 := Nat.mul_le_mul (by omega) (by omega)
  have hpl := fun h => play_nest (a := x) (b := y) (d := d) hf h
  obtain ⟨N, hN⟩ : ∃ N, x * y = N := ⟨_, rfl⟩
  have e1 : IntKind.i64.wrap ((x : Int) * (y : Int)) = (N : Int) := by rw [← Int.natCast_mul, hN]; exact IntWalk.i64_in _ (by omega)
  rw [hN] at hpl
  have C := mplay_any (some ⟨w1.heap.size, 0, none⟩) 7 7 R 400 w3 (HO.out.ops.below hb3) hs (by omega) (by decide)
  rw [hdd] at C
  clear hN hs m1 m2 m3 hm hf hdd
  by_cases h40 : 40 < N
  · have i40 : (40 : Int) < (N : Int) := by omega
    go_wp2_with fail
    go_ret
    exact ⟨rfl, hB3⟩
  have i40 : ¬ (40 : Int) < (N : Int) := by omega
  obtain ⟨F, hF, hFl⟩ := hpl (by omega)
  rw [hF] at C
  have HC := hid C
  clear C hF hpl
  go_wp2_with fail
  refine HC.out.mono ?_
  rintro e w4 ⟨A4, n4, k4, rs4, rfl, hf4, -, -, hd4, hb4⟩
  have hB4 := bnext hB3 hb4
  have hd4 : frD rs4 = F := hd4
  have hn4 : n4 = N := by
    have := congrArg List.length hd4
    unfold frD at this
    simp only [List.length_map] at this
    rw [← hf4.1, this, hFl]
  subst hn4
  clear hf4 hd4 HC hFl
  simp only
  rw [show errV 0 = .nilIface from rfl]
  go_wp2_with fail
  go_ret
  exact ⟨rfl, hB4⟩
theorem topNest_row (w : World) (a : Int) (_h1 : (Lit.int .i64 a).wf = true) (b : Int) (_h2 : (Lit.int .i64 b).wf = true) (d : Int) (_h3 : (Lit.int .i64 d).wf = true) :
    Calls Try.prog 11 #[.int .i64 a, .int .i64 b, .int .i64 d] w (Ret (.bool true) w) := topNest_walk a b d w
end Fb
