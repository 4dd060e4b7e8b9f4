/- The law TopMove: it returns true. Condition: the arguments' shape. -/
import Derived.Test.YtgkemeclpidmcaaOpsKit
import Derived.Test.YtgkemeclpidmcaaOpen2
import Derived.Test.YtgkemeclpidmcaaRows
import Derived.BigQuiet
set_option linter.unusedSimpArgs false
set_option linter.unusedVariables false
namespace Fb
open Go Go.Proofs Go.RowKit Go.Sort
attribute [local go_sem ↓] Go.wp_at_zero Go.wp_at_succ
theorem datO_append (a b : List (FAt FOp)) : datO (a ++ b) = datO a ++ datO b := by unfold datO; rw [List.map_append]
theorem datO_bare (os : List FOp) : datO (os.map bareR) = os := by unfold datO; rw [List.map_map]; exact List.map_id' os
/-- what the played book tells -/
theorem move_play {hd : List FOp} {i x y : Int} (hf : BookFine ([headOp 4 3] ++ hd ++ (moveOps i x y ++ [endOp]))) (hp : plainB hd = true) (hl : hd.length ≤ 30) :
    ((playP ([headOp 4 3] ++ hd ++ (moveOps i x y ++ [endOp])) 400).2 = 0 → ∃ F S T, (playP ([headOp 4 3] ++ hd ++ (moveOps i x y ++ [endOp])) 400).1 = F ++ [⟨S, 0⟩, ⟨T, 0⟩, ⟨S, 0⟩]) := by
  intro h0
  have hp2 := plainB_iff.1 hp
  have hpre : ∀ o ∈ [headOp 4 3] ++ hd, plainK o.kind := fun o ho => by
    rcases List.mem_append.1 ho with ho | ho
    · simp at ho; subst ho; exact ⟨by decide, by decide, by decide⟩
    · exact (hp2 o ho).1
  have htl : ∀ o ∈ moveOps i x y, plainK o.kind := fun o ho => by
    unfold moveOps at ho
    simp at ho
    rcases ho with rfl | rfl | rfl | rfl | rfl | rfl | rfl | rfl | rfl <;> exact ⟨by simp [moveOp, showOp, waitOp], by simp [moveOp, showOp, waitOp], by simp [moveOp, showOp, waitOp]⟩
  have e : [headOp 4 3] ++ hd ++ (moveOps i x y ++ [endOp]) = ([headOp 4 3] ++ hd) ++ moveOps i x y ++ [endOp] := by simp
  rw [e] at hf h0 ⊢
  rw [play_behind hf hpre htl (by simp [moveOps]; omega) (by simp)] at h0 ⊢
  by_cases hc : (coreL (headW ([headOp 4 3] ++ hd)) (headH ([headOp 4 3] ++ hd)) ([headOp 4 3] ++ hd) c0).2 ≠ 0
  · rw [if_pos hc] at h0
    unfold endC at h0
    rw [if_pos hc] at h0
    exact absurd h0 hc
  · rw [if_neg hc] at h0 ⊢
    unfold endC at h0 ⊢
    by_cases hd2 : (coreL (headW ([headOp 4 3] ++ hd)) (headH ([headOp 4 3] ++ hd)) (moveOps i x y) (coreL (headW ([headOp 4 3] ++ hd)) (headH ([headOp 4 3] ++ hd)) ([headOp 4 3] ++ hd) c0).1).2 ≠ 0
    · rw [if_pos hd2] at h0
      exact absurd h0 hd2
    · rw [if_neg hd2]
      exact move_core (by omega)
set_option maxRecDepth 100000 in
set_option maxHeartbeats 8000000 in
theorem topMove_walk (A : Option Addr) (n c : Nat) (rs : List (FAt FOp)) (i x y : Int) (w : World) (hl : Ops w A n rs) (hn : n ≤ maxLen) :
    Calls Try.prog 8 #[.slice A n c, .int .i64 i, .int .i64 x, .int .i64 y] w (Ret (.bool true) w) := by
  have HL := hid hl
  have hlen := hl.1
  clear hl
  go_enter Try.func8, Try.ntmps8
  go_wp2_with fail
  refine (mworks_any w).mono ?_
  rintro e w1 ⟨rfl, hb1⟩
  by_cases h30 : 30 < n
  · have i30 : (30 : Int) < (n : Int) := by omega
    go_wp2_with fail
    go_ret
    exact ⟨rfl, hb1⟩
  have i30 : ¬ (30 : Int) < (n : Int) := by omega
  go_wp2_with fail
  refine (mplain_any A n c rs w1 (HL.out.below hb1) (by omega)).mono ?_
  rintro e w2 ⟨rfl, hb2⟩
  have hB2 := bnext hb1 hb2
  by_cases hp : plainB (datO rs) = true
  case neg =>
    rw [show plainB (datO rs) = false by simpa using hp]
    go_wp2_with fail
    go_ret
    exact ⟨rfl, hB2⟩
  rw [hp]
  by_cases c1 : i < 1
  · go_wp2_with fail
    go_ret
    exact ⟨rfl, hB2⟩
  by_cases c2 : 6 < i
  · go_wp2_with fail
    go_ret
    exact ⟨rfl, hB2⟩
  by_cases c3 : x < -20
  · go_wp2_with fail
    go_ret
    exact ⟨rfl, hB2⟩
  by_cases c4 : 20 < x
  · go_wp2_with fail
    go_ret
    exact ⟨rfl, hB2⟩
  by_cases c5 : y < -20
  · go_wp2_with fail
    go_ret
    exact ⟨rfl, hB2⟩
  by_cases c6 : 20 < y
  · go_wp2_with fail
    go_ret
    exact ⟨rfl, hB2⟩
  have hz2 := hB2.size
  have hal := (Below.refl w2.heap.size w2).alloc (Nat.le_refl _) (.cells #[.int .i64 1, .int .i64 0, .int .i64 4, .int .i64 3, .int .i64 0, .int .i64 0, .int .i64 0, .int .i64 0, .slice none 0 0] 51)
  have hown : OwnL w2.heap.size _ (some ⟨w2.heap.size, 0, none⟩) 1 1 ([headOp 4 3].map bareR) := OwnL.lit w2 [headOp 4 3] #[.int .i64 1, .int .i64 0, .int .i64 4, .int .i64 3, .int .i64 0, .int .i64 0, .int .i64 0, .int .i64 0, .slice none 0 0] rfl (by simp) (by simp [headOp])
  have hB2a := bnext hB2 hal
  have hsrc := HL.out.below hB2a
  go_wp2_with (at_builtin; (refine wpList_append_ops _ rfl (.tmp 50) (.tmp 51) rfl w2.heap.size _ _ _ ([headOp 4 3].map bareR) rs rfl hown A n c rfl hsrc (by omega) apart_bare (apart_low HL.out.2.2 hz2 hown.own) ?_))
  intro A3 k3 w3 hown3 hg3 _
  have hB3 := OwnL.after hB2a hown hz2 hg3
  clear hown hal hB2a hg3 hsrc
  have hal3 := (Below.refl w3.heap.size w3).alloc (Nat.le_refl _) (.cells #[.int .i64 3, .int .i64 i, .int .i64 0, .int .i64 0, .int .i64 0, .int .i64 0, .int .i64 0, .int .i64 0, .slice none 0 0, .int .i64 5, .int .i64 i, .int .i64 1, .int .i64 0, .int .i64 0, .int .i64 0, .int .i64 0, .int .i64 0, .slice none 0 0, .int .i64 11, .int .i64 0, .int .i64 0, .int .i64 0, .int .i64 0, .int .i64 0, .int .i64 0, .int .i64 0, .slice none 0 0, .int .i64 3, .int .i64 i, .int .i64 x, .int .i64 y, .int .i64 0, .int .i64 0, .int .i64 0, .int .i64 0, .slice none 0 0, .int .i64 11, .int .i64 0, .int .i64 0, .int .i64 0, .int .i64 0, .int .i64 0, .int .i64 0, .int .i64 0, .slice none 0 0, .int .i64 5, .int .i64 i, .int .i64 0, .int .i64 0, .int .i64 0, .int .i64 0, .int .i64 0, .int .i64 0, .slice none 0 0, .int .i64 3, .int .i64 i, .int .i64 0, .int .i64 0, .int .i64 0, .int .i64 0, .int .i64 0, .int .i64 0, .slice none 0 0, .int .i64 5, .int .i64 i, .int .i64 1, .int .i64 0, .int .i64 0, .int .i64 0, .int .i64 0, .int .i64 0, .slice none 0 0, .int .i64 11, .int .i64 0, .int .i64 0, .int .i64 0, .int .i64 0, .int .i64 0, .int .i64 0, .int .i64 0, .slice none 0 0, .int .i64 16, .int .i64 0, .int .i64 0, .int .i64 0, .int .i64 0, .int .i64 0, .int .i64 0, .int .i64 0, .slice none 0 0] 51)
  have hsrc3 : Ops _ (some ⟨w3.heap.size, 0, none⟩) 10 ((moveOps i x y ++ [endOp]).map bareR) := (OwnL.lit w3 (moveOps i x y ++ [endOp]) #[.int .i64 3, .int .i64 i, .int .i64 0, .int .i64 0, .int .i64 0, .int .i64 0, .int .i64 0, .int .i64 0, .slice none 0 0, .int .i64 5, .int .i64 i, .int .i64 1, .int .i64 0, .int .i64 0, .int .i64 0, .int .i64 0, .int .i64 0, .slice none 0 0, .int .i64 11, .int .i64 0, .int .i64 0, .int .i64 0, .int .i64 0, .int .i64 0, .int .i64 0, .int .i64 0, .slice none 0 0, .int .i64 3, .int .i64 i, .int .i64 x, .int .i64 y, .int .i64 0, .int .i64 0, .int .i64 0, .int .i64 0, .slice none 0 0, .int .i64 11, .int .i64 0, .int .i64 0, .int .i64 0, .int .i64 0, .int .i64 0, .int .i64 0, .int .i64 0, .slice none 0 0, .int .i64 5, .int .i64 i, .int .i64 0, .int .i64 0, .int .i64 0, .int .i64 0, .int .i64 0, .int .i64 0, .slice none 0 0, .int .i64 3, .int .i64 i, .int .i64 0, .int .i64 0, .int .i64 0, .int .i64 0, .int .i64 0, .int .i64 0, .slice none 0 0, .int .i64 5, .int .i64 i, .int .i64 1, .int .i64 0, .int .i64 0, .int .i64 0, .int .i64 0, .int .i64 0, .slice none 0 0, .int .i64 11, .int .i64 0, .int .i64 0, .int .i64 0, .int .i64 0, .int .i64 0, .int .i64 0, .int .i64 0, .slice none 0 0, .int .i64 16, .int .i64 0, .int .i64 0, .int .i64 0, .int .i64 0, .int .i64 0, .int .i64 0, .int .i64 0, .slice none 0 0] rfl (by simp [moveOps]) (by simp [moveOps, moveOp, showOp, waitOp, endOp])).ops
  have hown3a := hown3.below hal3
  have hB3a := bnext hB3 hal3
  go_wp2_with (at_builtin; refine wpList_append_ops _ rfl (.tmp 53) (.tmp 72) rfl w2.heap.size _ _ _ ([headOp 4 3].map bareR ++ rs) ((moveOps i x y ++ [endOp]).map bareR) rfl hown3a _ 10 10 rfl hsrc3 (by omega) (apart_append apart_bare (apart_low HL.out.2.2 hz2 hown3a.own)) apart_bare ?_)
  intro A4 k4 w4 hown4 hg4 _
  have hB4 := OwnL.after hB3a hown3a hz2 hg4
  clear hown3 hal3 hB3a hg4 hsrc3 hown3a
  obtain ⟨M, hM⟩ : ∃ M, 1 + n + 10 = M := ⟨_, rfl⟩
  obtain ⟨R, hR⟩ : ∃ R, [headOp 4 3].map bareR ++ rs ++ (moveOps i x y ++ [endOp]).map bareR = R := ⟨_, rfl⟩
  have HOW : Hid (OwnL w2.heap.size w4 A4 M k4 R) := hid (by rw [← hR, ← hM]; exact hown4)
  rw [hM]
  clear hown4
  go_wp2_with fail
  refine (mmay_any A4 M k4 R w4 HOW.out.ops (by unfold maxLen; omega)).mono ?_
  rintro e w5 ⟨rfl, hb5⟩
  have hB5 := bnext hB4 hb5
  by_cases hm : mayB M R = true
  case neg =>
    rw [show mayB M R = false by simpa using hm]
    go_wp2_with fail
    go_ret
    exact ⟨rfl, hB5⟩
  rw [hm]
  obtain ⟨m1, m2, m3⟩ := may_iff.1 hm
  have hs := light_small m2
  have hdd : datO R = [headOp 4 3] ++ datO rs ++ (moveOps i x y ++ [endOp]) := by rw [← hR, datO_append, datO_append, datO_bare, datO_bare]
  have hstill := hid (move_play (hd := datO rs) (i := i) (x := x) (y := y) (by rw [← hdd]; exact book_fine m3) hp (by rw [datO_len]; omega))
  have C := mplay_any A4 M k4 R 400 w5 (HOW.out.ops.below hb5) hs (by omega) (by decide)
  rw [hdd] at C
  have P1 := play_fine ([headOp 4 3] ++ datO rs ++ (moveOps i x y ++ [endOp])) 400
  have HE := hid (play_empty (l := [headOp 4 3] ++ datO rs ++ (moveOps i x y ++ [endOp])) (f := 400))
  have L1 := playP_le ([headOp 4 3] ++ datO rs ++ (moveOps i x y ++ [endOp])) 400
  obtain ⟨⟨X, f⟩, hX⟩ : ∃ q, playP ([headOp 4 3] ++ datO rs ++ (moveOps i x y ++ [endOp])) 400 = q := ⟨_, rfl⟩
  rw [hX] at C P1 hstill HE L1
  simp only at C P1 hstill HE L1
  clear hX m1 m2 m3 hm hdd hs
  go_wp2_with fail
  refine C.mono ?_
  rintro e w6 ⟨A6, n6, k6, rs6, rfl, hf6, -, -, hd6, hb6⟩
  have hB6 := bnext hB5 hb6
  have F6 := hid hf6
  clear C hb5 hb6
  by_cases hf0 : f = 0
  case neg =>
    obtain rfl : X = [] := HE.out hf0
    have h0 : n6 = 0 := by
      have h9 := hf6.1
      unfold frD at hd6
      have := congrArg List.length hd6
      simp at this
      rw [this] at h9
      exact h9.symm
    subst h0
    rw [errV_pos hf0]
    go_wp2_with fail
    go_ret
    exact ⟨rfl, hB6⟩
  subst hf0
  obtain ⟨F, S, T, rfl⟩ := hstill.out rfl
  rw [show errV 0 = .nilIface from rfl]
  have hn6 : n6 = F.length + 3 := by
    have := congrArg List.length hd6
    unfold frD at this
    simp at this
    rw [← hf6.1, this]
  have hF40 := P1.1
  simp at hF40
  obtain ⟨b6, o6, rfl, hb6, hat⟩ := hf6.openT (by omega)
  simp only at hd6
  rw [hd6] at hat
  obtain ⟨pA, pn, pc, px, x0, x1, x2, x3⟩ := hat F.length ⟨S, 0⟩ (by simp)
  obtain ⟨qA, qn, qc, py, y0, y1, y2, y3⟩ := hat (F.length + 2) ⟨S, 0⟩ (by simp)
  simp only at px x0 x1 x2 x3 py y0 y1 y2 y3
  obtain ⟨N, hN⟩ : ∃ N, F.length = N := ⟨_, rfl⟩
  obtain ⟨K, hK⟩ : ∃ K, F.length + 2 = K := ⟨_, rfl⟩
  rw [hK] at y0 y1 y2 y3
  rw [hN] at x0 x1 x2 x3
  have hpn : pn ≤ 1000000 := by
    have h1 := pic_len (P1.2 ⟨S, 0⟩ (by simp))
    have := px.1
    simp only at h1
    omega
  have hPX := hid px
  have hPY := hid py
  have e1 : IntKind.i64.wrap ((n6 : Int) - 3) = (N : Int) := by rw [show (n6 : Int) - 3 = (N : Int) by omega]; exact IntWalk.i64_in _ (by omega)
  have e2 : IntKind.i64.wrap ((n6 : Int) - 1) = (K : Int) := by rw [show (n6 : Int) - 1 = (K : Int) by omega]; exact IntWalk.i64_in _ (by omega)
  have q1 : (0 : Int) ≤ (N : Int) := by omega
  have q2 : (N : Int) < (n6 : Int) := by omega
  have q3 : (0 : Int) ≤ (K : Int) := by omega
  have q4 : (K : Int) < (n6 : Int) := by omega
  have q5 : (3 : Int) ≤ (n6 : Int) := by omega
  obtain ⟨⟨sw, sh, sp⟩, hS⟩ : ∃ s, S = s := ⟨_, rfl⟩
  subst hS
  simp only at x0 x1 x2 x3 y0 y1 y2 y3
  have f0 := cell_all2 hb6 x0
  have f1 := cell_all2 hb6 x1
  have f2 := cell_all2 hb6 x2
  have f3 := cell_all2 hb6 x3
  have g0 := cell_all2 hb6 y0
  have g1 := cell_all2 hb6 y1
  have g2 := cell_all2 hb6 y2
  have g3 := cell_all2 hb6 y3
  have r1 := fun dd os => Ret.regrown (same_selfM sw sh sp qA pA qn pn qc pc (grow (redrawn w6 dd) os) (hPY.out.below (below_regrown w6 dd os)) (hPX.out.below (below_regrown w6 dd os)) (by have := hPX.out.1; have := hPY.out.1; simp only at *; omega))
  clear x0 x1 x2 x3 y0 y1 y2 y3 px py hat P1 hd6 hf6 F6 hstill HE hF40 hN hK L1 HOW hR hM hb6 hn6
  go_upto_region 14 with fail
  refine wp_region_quiet_below (by kernel_rfl) (by kernel_rfl) ?_
  repeat (go_big_quiet_step (first | (go_at_call 33; exact r1 _ _)))
  (refine wpQuiet_nil ?_; intro _ hw'; obtain ⟨⟨dq, osq⟩, hw''⟩ := hw'; subst hw'')
  have hB7 := bnext hB6 (below_regrown w6 dq osq)
  clear f0 f1 f2 f3 g0 g1 g2 g3 r1
  generalize grow (redrawn w6 dq) osq = w7 at *
  go_wp2_with fail
  go_ret
  exact ⟨rfl, hB7⟩
theorem topMove_row (w : World) (r : FAt (List (FAt FOp))) (h : Ops w r.A r.n r.x ∧ r.n ≤ r.c ∧ r.c ≤ maxLen ∧ ∀ q ∈ r.x, OpOk w q) (i : Int) (_h1 : (Lit.int .i64 i).wf = true) (x : Int) (_h2 : (Lit.int .i64 x).wf = true) (y : Int) (_h3 : (Lit.int .i64 y).wf = true) :
    Calls Try.prog 8 #[.slice r.A r.n r.c, .int .i64 i, .int .i64 x, .int .i64 y] w (Ret (.bool true) w) :=
  topMove_walk r.A r.n r.c r.x i x y w h.1 (Nat.le_trans h.2.1 h.2.2.1)
end Fb
