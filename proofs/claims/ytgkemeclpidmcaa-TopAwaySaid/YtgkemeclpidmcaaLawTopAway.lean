/- The law TopAway: it returns true. Condition: the arguments' shape. Printed by mktopaway.py. -/
import Derived.Test.YtgkemeclpidmcaaOpsKit
import Derived.Test.YtgkemeclpidmcaaOpen2
import Derived.Test.YtgkemeclpidmcaaRows
set_option linter.unusedSimpArgs false
set_option linter.unusedVariables false
namespace Fb
open Go Go.Proofs Go.RowKit Go.Sort
attribute [local go_sem ↓] Go.wp_at_zero Go.wp_at_succ
theorem datO_append (a b : List (FAt FOp)) : datO (a ++ b) = datO a ++ datO b := by unfold datO; rw [List.map_append]
theorem datO_bare (os : List FOp) : datO (os.map bareR) = os := by unfold datO; rw [List.map_map]; exact List.map_id' os
theorem away_play {hd : List FOp} {i : Int} (hf : BookFine ([headOp 4 3] ++ hd ++ [dropOp i, waitOp 0, endOp])) (hf2 : BookFine ([headOp 4 3] ++ hd ++ [showOp i 0, waitOp 0, endOp])) (hp : plainB hd = true) (hl : hd.length ≤ 30) :
    playP ([headOp 4 3] ++ hd ++ [dropOp i, waitOp 0, endOp]) 400 = playP ([headOp 4 3] ++ hd ++ [showOp i 0, waitOp 0, endOp]) 400 := by
  have hp2 := plainB_iff.1 hp
  have hpre : ∀ o ∈ [headOp 4 3] ++ hd, plainK o.kind := fun o ho => by
    rcases List.mem_append.1 ho with ho | ho
    · simp at ho; subst ho; exact ⟨by decide, by decide, by decide⟩
    · exact (hp2 o ho).1
  have hop : ∀ o ∈ [headOp 4 3] ++ hd, opFault o = 0 := fun o ho => by
    obtain ⟨k, hk, e⟩ := List.mem_iff_getElem.1 ho
    have hk2 : k < ([headOp 4 3] ++ hd ++ [dropOp i, waitOp 0, endOp]).length := by rw [List.length_append]; omega
    have h1 := hf.ops k hk2
    rw [opAt_append_left hk, opAt_get hk, e] at h1
    exact h1
  have e1 : [headOp 4 3] ++ hd ++ [dropOp i, waitOp 0, endOp] = ([headOp 4 3] ++ hd) ++ [dropOp i, waitOp 0] ++ [endOp] := by simp
  have e2 : [headOp 4 3] ++ hd ++ [showOp i 0, waitOp 0, endOp] = ([headOp 4 3] ++ hd) ++ [showOp i 0, waitOp 0] ++ [endOp] := by simp
  rw [e1] at hf ⊢
  rw [e2] at hf2 ⊢
  rw [play_behind hf hpre (fun o ho => by simp at ho; rcases ho with rfl | rfl <;> exact ⟨by simp [dropOp, waitOp], by simp [dropOp, waitOp], by simp [dropOp, waitOp]⟩) (by simp; omega) (by simp),
    play_behind hf2 hpre (fun o ho => by simp at ho; rcases ho with rfl | rfl <;> exact ⟨by simp [showOp, waitOp], by simp [showOp, waitOp], by simp [showOp, waitOp]⟩) (by simp; omega) (by simp)]
  by_cases hc : (coreL (headW ([headOp 4 3] ++ hd)) (headH ([headOp 4 3] ++ hd)) ([headOp 4 3] ++ hd) c0).2 ≠ 0
  · rw [if_pos hc, if_pos hc]
  · rw [if_neg hc, if_neg hc]
    exact away_core (coreL_fine hop objs_nil objs_nil).1.1
set_option maxRecDepth 100000 in
set_option maxHeartbeats 16000000 in
theorem topAway_walk (A : Option Addr) (n c : Nat) (rs : List (FAt FOp)) (i : Int) (w : World) (hl : Ops w A n rs) (hn : n ≤ maxLen) :
    Calls Try.prog 7 #[.slice A n c, .int .i64 i] w (Ret (.bool true) w) := by
  have HL := hid hl
  have hlen := hl.1
  clear hl
  go_enter Try.func7, Try.ntmps7
  go_wp2_with fail
  refine (mworks_any w).mono ?_
  rintro e w1 ⟨rfl, hb1⟩
  by_cases h30 : 30 < n
  · have i30 : (30 : Int) < (n : Int) := by omega
    go_wp2_with fail
    go_ret
    exact ⟨rfl, hb1⟩
  have i30 : ¬ (30 : Int) < (n : Int) := by omega
  go_wp2_with fail
  refine (mplain_any A n c rs w1 (HL.out.below hb1) (by omega)).mono ?_
  rintro e w2 ⟨rfl, hb2⟩
  have hB2 := bnext hb1 hb2
  by_cases hp : plainB (datO rs) = true
  case neg =>
    rw [show plainB (datO rs) = false by simpa using hp]
    go_wp2_with fail
    go_ret
    exact ⟨rfl, hB2⟩
  rw [hp]
  by_cases c1 : i < 1
  · go_wp2_with fail
    go_ret
    exact ⟨rfl, hB2⟩
  by_cases c2 : 6 < i
  · go_wp2_with fail
    go_ret
    exact ⟨rfl, hB2⟩
  have hz2 := hB2.size
  have hal := (Below.refl w2.heap.size w2).alloc (Nat.le_refl _) (.cells #[.int .i64 1, .int .i64 0, .int .i64 4, .int .i64 3, .int .i64 0, .int .i64 0, .int .i64 0, .int .i64 0, .slice none 0 0] 51)
  have hown : OwnL w2.heap.size _ (some ⟨w2.heap.size, 0, none⟩) 1 1 ([headOp 4 3].map bareR) := OwnL.lit w2 [headOp 4 3] #[.int .i64 1, .int .i64 0, .int .i64 4, .int .i64 3, .int .i64 0, .int .i64 0, .int .i64 0, .int .i64 0, .slice none 0 0] rfl (by simp) (by simp [headOp])
  have hB2a := bnext hB2 hal
  have hsrc := HL.out.below hB2a
  go_wp2_with (at_builtin; refine wpList_append_ops _ rfl (.tmp 33) (.tmp 34) rfl w2.heap.size _ _ _ ([headOp 4 3].map bareR) rs rfl hown A n c rfl hsrc (by omega) apart_bare (apart_low HL.out.2.2 hz2 hown.own) ?_)
  intro A3 k3 w3 hown3 hg3 _
  have hB3 := OwnL.after hB2a hown hz2 hg3
  clear hown hal hB2a hg3 hsrc
  obtain ⟨R, hR⟩ : ∃ R, [headOp 4 3].map bareR ++ rs = R := ⟨_, rfl⟩
  have HO3 : Hid (OwnL w2.heap.size w3 A3 (1 + n) k3 R) := hid (by rw [← hR]; exact hown3)
  obtain ⟨M, hM⟩ : ∃ M, 1 + n = M := ⟨_, rfl⟩
  rw [hM] at HO3 ⊢
  have hpR : Hid (∀ (H : Nat) (row : Option Nat), (row = none ∨ row = some H) → w.heap.size ≤ H → ∀ W : World, Apart W row R) := hid (fun H row hr hH W => by
    rw [← hR]
    exact apart_append apart_bare (apart_row HL.out.2.2 hr hH))
  have hz3 := HO3.out.low
  clear hown3
  -- a
  go_wp2_with (at_builtin; refine wpList_append_nil _ rfl (.const (.slice none 0 0)) (.tmp 36) rfl w2.heap.size R rfl hz3 A3 M k3 rfl HO3.out.ops (by omega) ?_)
  intro A4 k4 w4 hown4 hb4 hat4
  have hB4 := bnext hB3 hb4
  have HO4 := hid (HO3.out.below hb4)
  have hne4 := HO3.out.ne hat4 (Nat.le_refl _)
  clear HO3
  have hz4 := hb4.size
  have hal4 := (Below.refl w4.heap.size w4).alloc (Nat.le_refl _) (.cells #[.int .i64 7, .int .i64 i, .int .i64 0, .int .i64 0, .int .i64 0, .int .i64 0, .int .i64 0, .int .i64 0, .slice none 0 0, .int .i64 11, .int .i64 0, .int .i64 0, .int .i64 0, .int .i64 0, .int .i64 0, .int .i64 0, .int .i64 0, .slice none 0 0, .int .i64 16, .int .i64 0, .int .i64 0, .int .i64 0, .int .i64 0, .int .i64 0, .int .i64 0, .int .i64 0, .slice none 0 0] 51)
  have hsrc4 : Ops _ (some ⟨w4.heap.size, 0, none⟩) 3 ([dropOp i, waitOp 0, endOp].map bareR) := (OwnL.lit w4 [dropOp i, waitOp 0, endOp] #[.int .i64 7, .int .i64 i, .int .i64 0, .int .i64 0, .int .i64 0, .int .i64 0, .int .i64 0, .int .i64 0, .slice none 0 0, .int .i64 11, .int .i64 0, .int .i64 0, .int .i64 0, .int .i64 0, .int .i64 0, .int .i64 0, .int .i64 0, .slice none 0 0, .int .i64 16, .int .i64 0, .int .i64 0, .int .i64 0, .int .i64 0, .int .i64 0, .int .i64 0, .int .i64 0, .slice none 0 0] rfl (by simp) (by simp [dropOp, waitOp, endOp])).ops
  have hown4a := hown4.below hal4
  have hB4a := bnext hB4 hal4
  have HO4a := hid (HO4.out.below hal4)
  go_wp2_with (at_builtin; refine wpList_append_ops _ rfl (.tmp 37) (.tmp 42) rfl w2.heap.size _ _ _ R ([dropOp i, waitOp 0, endOp].map bareR) rfl hown4a _ 3 3 rfl hsrc4 (by omega) (hpR.out w3.heap.size _ hat4 (by omega) _) apart_bare ?_)
  intro A5 k5 w5 hown5 hg5 hat5
  have hB5 := OwnL.after hB4a hown4a hz2 hg5
  have HO5 := hid (HO4a.out.keep hg5 hne4 (hpR.out w3.heap.size _ hat4 (by omega) _))
  obtain ⟨RA, hRA⟩ : ∃ RA, R ++ [dropOp i, waitOp 0, endOp].map bareR = RA := ⟨_, rfl⟩
  obtain ⟨MA, hMA⟩ : ∃ MA, M + 3 = MA := ⟨_, rfl⟩
  have HMA := hid hMA
  have HA5 : Hid (OwnL w2.heap.size w5 A5 MA k5 RA) := hid (by rw [← hRA, ← hMA]; exact hown5)
  rw [hMA] at hat5 ⊢
  clear hMA hown4 hal4 hsrc4 hown4a hB4a HO4a HO4 hown5 hg5 hne4
  -- b
  have hz5 := HO5.out.low
  go_wp2_with (at_builtin; refine wpList_append_nil _ rfl (.const (.slice none 0 0)) (.tmp 44) rfl w2.heap.size R rfl hz5 A3 M k3 rfl HO5.out.ops (by omega) ?_)
  intro A6 k6 w6 hown6 hb6 hat6
  have hB6 := bnext hB5 hb6
  have hal6 := (Below.refl w6.heap.size w6).alloc (Nat.le_refl _) (.cells #[.int .i64 5, .int .i64 i, .int .i64 0, .int .i64 0, .int .i64 0, .int .i64 0, .int .i64 0, .int .i64 0, .slice none 0 0, .int .i64 11, .int .i64 0, .int .i64 0, .int .i64 0, .int .i64 0, .int .i64 0, .int .i64 0, .int .i64 0, .slice none 0 0, .int .i64 16, .int .i64 0, .int .i64 0, .int .i64 0, .int .i64 0, .int .i64 0, .int .i64 0, .int .i64 0, .slice none 0 0] 51)
  have hsrc6 : Ops _ (some ⟨w6.heap.size, 0, none⟩) 3 ([showOp i 0, waitOp 0, endOp].map bareR) := (OwnL.lit w6 [showOp i 0, waitOp 0, endOp] #[.int .i64 5, .int .i64 i, .int .i64 0, .int .i64 0, .int .i64 0, .int .i64 0, .int .i64 0, .int .i64 0, .slice none 0 0, .int .i64 11, .int .i64 0, .int .i64 0, .int .i64 0, .int .i64 0, .int .i64 0, .int .i64 0, .int .i64 0, .slice none 0 0, .int .i64 16, .int .i64 0, .int .i64 0, .int .i64 0, .int .i64 0, .int .i64 0, .int .i64 0, .int .i64 0, .slice none 0 0] rfl (by simp) (by simp [showOp, waitOp, endOp])).ops
  have hown6a := hown6.below hal6
  have hB6a := bnext hB6 hal6
  have HA6a := hid ((HA5.out.below hb6).below hal6)
  have hneA := HA5.out.ne hat6 (Nat.le_refl _)
  have hz5w := hB5.size
  go_wp2_with (at_builtin; refine wpList_append_ops _ rfl (.tmp 45) (.tmp 50) rfl w2.heap.size _ _ _ R ([showOp i 0, waitOp 0, endOp].map bareR) rfl hown6a _ 3 3 rfl hsrc6 (by omega) (hpR.out w5.heap.size _ hat6 hz5w _) apart_bare ?_)
  intro A7 k7 wz hown7 hg7 _
  have hBz := OwnL.after hB6a hown6a hz2 hg7
  have HA := hid (HA6a.out.keep hg7 hneA (by rw [← hRA]; exact apart_append (hpR.out w5.heap.size _ hat6 hz5w _) apart_bare))
  obtain ⟨RB, hRB⟩ : ∃ RB, R ++ [showOp i 0, waitOp 0, endOp].map bareR = RB := ⟨_, rfl⟩
  have HB : Hid (OwnL w2.heap.size wz A7 MA k7 RB) := hid (by rw [← hRB, ← HMA.out]; exact hown7)
  rw [HMA.out]
  have HEq := hid (fun (h1 : BookFine (datO RA)) (h2 : BookFine (datO RB)) => (by
    have e1 : datO RA = [headOp 4 3] ++ datO rs ++ [dropOp i, waitOp 0, endOp] := by rw [← hRA, ← hR, datO_append, datO_append, datO_bare, datO_bare]
    have e2 : datO RB = [headOp 4 3] ++ datO rs ++ [showOp i 0, waitOp 0, endOp] := by rw [← hRB, ← hR, datO_append, datO_append, datO_bare, datO_bare]
    rw [e1] at h1 ⊢
    rw [e2] at h2 ⊢
    exact away_play h1 h2 hp (by rw [datO_len]; omega) : playP (datO RA) 400 = playP (datO RB) 400))
  have hMAs : MA ≤ 34 := by have := HMA.out; omega
  clear HMA
  clear HO5 HA5 hown6 hal6 hsrc6 hown6a hB6a HA6a hneA hown7 hg7 hat4 hat5 hat6 hRA hRB hR hpR
  -- two books are played
  go_wp2_with fail
  refine (mmay_any A5 MA k5 RA wz HA.out.ops (by unfold maxLen; omega)).mono ?_
  rintro e w5 ⟨rfl, hb5⟩
  have hB5 := bnext hBz hb5
  by_cases hm : mayB MA RA = true
  case neg =>
    rw [show mayB MA RA = false by simpa using hm]
    go_wp2_with fail
    go_ret
    exact ⟨rfl, hB5⟩
  rw [hm]
  go_wp2_with fail
  refine (mmay_any A7 MA k7 RB w5 (HB.out.ops.below hb5) (by unfold maxLen; omega)).mono ?_
  rintro e w6 ⟨rfl, hb6⟩
  have hB6 := bnext hB5 hb6
  by_cases hm2 : mayB MA RB = true
  case neg =>
    rw [show mayB MA RB = false by simpa using hm2]
    go_wp2_with fail
    go_ret
    exact ⟨rfl, hB6⟩
  rw [hm2]
  obtain ⟨m1, m2, m3⟩ := may_iff.1 hm
  obtain ⟨n1, n2, n3⟩ := may_iff.1 hm2
  have hs1 := light_small m2
  have hs2 := light_small n2
  have hEQ := HEq.out (book_fine m3) (book_fine n3)
  have hbz6 := bnext hb5 hb6
  have C1 := mplay_any A5 MA k5 RA 400 w6 (HA.out.ops.below hbz6) hs1 (by omega) (by decide)
  have P1 := play_fine (datO RA) 400
  have L1 := playP_le (datO RA) 400
  have C2 := fun W (hb : Below w6.heap.size w6 W) => mplay_any A7 MA k7 RB 400 W (HB.out.ops.below (bnext hbz6 hb)) hs2 (by omega) (by decide)
  rw [← hEQ] at C2
  obtain ⟨⟨X, f⟩, hX⟩ : ∃ q, playP (datO RA) 400 = q := ⟨_, rfl⟩
  rw [hX] at C1 C2 P1 L1
  simp only at C1 C2 P1 L1
  have HC2 := hid C2
  clear hX hEQ C2 m1 m2 m3 n1 n2 n3 hm hm2 hs1 hs2
  go_wp2_with fail
  refine C1.mono ?_
  rintro e w7 ⟨A7, n7, k7, rs7, rfl, hf7, -, -, hd7, hb7⟩
  have hB7 := bnext hB6 hb7
  clear C1
  go_wp2_with fail
  refine (HC2.out w7 hb7).mono ?_
  rintro e w8 ⟨A8, n8, k8, rs8, rfl, hf8, -, -, hd8, hb8⟩
  have hB8 := bnext hB7 hb8
  have F7 := hid (hf7.belowT hb8)
  have F8 := hid hf8
  simp only at hd7 hd8
  have S7 := frames_small hf7 hd7 P1.1 P1.2
  have S8 := frames_small hf8 hd8 P1.1 P1.2
  have HDD := hid (show frs rs7 = frs rs8 from (show frD rs7 = frD rs8 by rw [hd7, hd8]))
  clear hf7 hf8 hd7 hd8 P1 HC2
  simp only
  go_wp2_with fail
  refine (number_any f w8 (by omega)).mono ?_
  rintro e w9 ⟨rfl, hb9⟩
  go_wp2_with fail
  refine (number_any f w9 (by omega)).mono ?_
  rintro e w10 ⟨rfl, hb10⟩
  have hb8' := bnext hb9 hb10
  have hB10 := bnext hB8 hb8'
  go_wp2_with fail
  refine (rsameframes_any A7 A8 n7 n8 k7 k8 rs7 rs8 w10 (F7.out.belowT hb8') (F8.out.belowT hb8') S7.1 S8.1 S7.2 S8.2).mono ?_
  rintro e w11 ⟨rfl, hb11⟩
  rw [HDD.out, eqFrs_self]
  go_wp2_with fail
  go_ret
  exact ⟨rfl, bnext hB10 hb11⟩
theorem topAway_row (w : World) (r : FAt (List (FAt FOp))) (h : Ops w r.A r.n r.x ∧ r.n ≤ r.c ∧ r.c ≤ maxLen ∧ ∀ q ∈ r.x, OpOk w q) (i : Int) (_h1 : (Lit.int .i64 i).wf = true) :
    Calls Try.prog 7 #[.slice r.A r.n r.c, .int .i64 i] w (Ret (.bool true) w) :=
  topAway_walk r.A r.n r.c r.x i w h.1 (Nat.le_trans h.2.1 h.2.2.1)
end Fb
