/- The law TopLoop: it returns true. Condition: the arguments' shape. Printed by mktoploop.py. -/
import Derived.Test.YtgkemeclpidmcaaOpsKit
import Derived.Test.YtgkemeclpidmcaaOpen2
import Derived.Test.YtgkemeclpidmcaaRows
set_option linter.unusedSimpArgs false
set_option linter.unusedVariables false
namespace Fb
open Go Go.Proofs Go.RowKit Go.Sort
attribute [local go_sem ↓] Go.wp_at_zero Go.wp_at_succ
theorem datO_append (a b : List (FAt FOp)) : datO (a ++ b) = datO a ++ datO b := by unfold datO; rw [List.map_append]
theorem datO_bare (os : List FOp) : datO (os.map bareR) = os := by unfold datO; rw [List.map_map]; exact List.map_id' os
/-- the ops' pictures lie below -/
def Low (H : Nat) (rs : List (FAt FOp)) : Prop := ∀ r ∈ rs, 0 < r.n → ∀ a, r.A = some a → a.block < H
theorem low_of {w : World} {H : Nat} {A : Option Addr} {n : Nat} {rs : List (FAt FOp)} (h : Ops w A n rs) (hH : w.heap.size ≤ H) : Low H rs := fun r hr hn a ha => by
  have := row_block (h.2.2 r hr).2 hn ha
  omega
theorem low_bare {H : Nat} {os : List FOp} : Low H (os.map bareR) := fun r hr hn a ha => by
  obtain ⟨o, -, rfl⟩ := List.mem_map.1 hr
  cases ha
theorem low_append {H : Nat} {rs ss : List (FAt FOp)} (h1 : Low H rs) (h2 : Low H ss) : Low H (rs ++ ss) := fun r hr => by
  rcases List.mem_append.1 hr with hr | hr
  · exact h1 r hr
  · exact h2 r hr
theorem Low.apart {w : World} {B : Nat} {A : Option Addr} {n c : Nat} {xs : List Value} {rs : List (FAt FOp)} (h : Low B rs) (hown : w.ownsRow B 51 9 (.slice A n c) n xs) : Apart w (Value.slice A n c).ownBlock rs := fun r hr hn a ha e => by
  have h1 := h r hr hn a ha
  have h2 := (hown.lt _ e).1
  omega
def timesR (k : Nat) (rs : List (FAt FOp)) : List (FAt FOp) := (List.replicate k rs).flatten
theorem timesR_succ (k : Nat) (rs : List (FAt FOp)) : timesR (k + 1) rs = timesR k rs ++ rs := by
  unfold timesR
  rw [List.replicate_succ', List.flatten_append]
  simp
theorem timesR_dat (k : Nat) (rs : List (FAt FOp)) : datO (timesR k rs) = times k (datO rs) := by
  induction k with
  | zero => rfl
  | succ k ih =>
    rw [timesR_succ, datO_append, ih]
    unfold times
    rw [List.replicate_succ', List.flatten_append]
    simp
theorem timesR_len (k : Nat) (rs : List (FAt FOp)) : (timesR k rs).length = k * rs.length := by
  induction k with
  | zero => simp [timesR]
  | succ k ih => rw [timesR_succ, List.length_append, ih, Nat.succ_mul]
theorem timesR_low {H : Nat} {rs : List (FAt FOp)} (h : Low H rs) (k : Nat) : Low H (timesR k rs) := by
  induction k with
  | zero => exact fun r hr => by simp [timesR] at hr
  | succ k ih => rw [timesR_succ]; exact low_append ih h
/-- two slices of one's own lie in blocks of their own -/
def Sep (v u : Value) : Prop := ∀ g, v.ownBlock = some g → u.ownBlock ≠ some g
theorem Sep.symm {v u : Value} (h : Sep v u) : Sep u v := fun g h1 h2 => h g h2 h1
/-- an append to the one leaves the other -/
theorem wpList_append_two {ops : Array Oper} {rest : List Oper} {o : Oper} {a : Act} {Q : Exit → Act → World → Prop} (w : World) (hgd : o.guard = none) (s x : Operand) (ho : o.op = .call { callee := .builtin .append, args := #[s, x], argTypes := #[22, 22] })
    (B : Nat) (A : Option Addr) (n c : Nat) (A2 : Option Addr) (n2 c2 : Nat) (rs qs ss : List (FAt FOp)) (hs : a.eval s = .slice A n c) (hown : OwnL B w A n c rs) (hoth : OwnL B w A2 n2 c2 qs) (hsep : Sep (.slice A n c) (.slice A2 n2 c2)) (l1 : Low B rs) (l2 : Low B qs) (l3 : Low B ss)
    (S : Option Addr) (m k : Nat) (hx : a.eval x = .slice S m k) (hsrc : Ops w S m ss) (hsmall : n + m ≤ 1000000)
    (h : ∀ A' c' w', OwnL B w' A' (n + m) c' (rs ++ ss) → OwnL B w' A2 n2 c2 qs → Sep (.slice A' (n + m) c') (.slice A2 n2 c2) → Below B w w' → wpList Try.prog ops Q rest (a.put o.dst (.slice A' (n + m) c')) w') : wpList Try.prog ops Q (o :: rest) a w := by
  refine wpList_append_ops w hgd s x ho B A n c rs ss hs hown S m k hx hsrc hsmall (l1.apart hown.own) (l3.apart hown.own) fun A' c' w' h1 h2 h3 => ?_
  refine h A' c' w' h1 (hoth.keep h2 (fun b hb e => hsep b e hb) (fun r hr hn a ha e => ?_)) (fun g hg e => ?_) ⟨h2.os, h2.tape, h2.output, h2.size, fun q hq => h2.block q (Nat.lt_of_lt_of_le hq hown.low) (fun e => ?_)⟩
  · exact (l2.apart hown.own) r hr hn a ha e
  · rcases h3 with h3 | h3
    · rw [h3] at hg; exact hsep g hg e
    · rw [h3] at hg
      injection hg with hg
      have := (hoth.own.lt g e).2
      omega
  · have := (hown.own.lt q e.symm).1
    omega
theorem loop_play {hd bd tl : List FOp} {k : Nat} (h1 : BookFine ([headOp 3 2] ++ hd ++ [loopOp k] ++ bd ++ [nextOp] ++ tl ++ [endOp])) (h2 : BookFine ([headOp 3 2] ++ hd ++ times k bd ++ tl ++ [endOp])) (p1 : plainB hd = true) (p2 : plainB bd = true) (p3 : plainB tl = true) (l1 : hd.length ≤ 20) (l2 : bd.length ≤ 6) (l3 : tl.length ≤ 6) (hk : k ≤ 4) :
    playP ([headOp 3 2] ++ hd ++ [loopOp k] ++ bd ++ [nextOp] ++ tl ++ [endOp]) 400 = playP ([headOp 3 2] ++ hd ++ times k bd ++ tl ++ [endOp]) 400 := by
  have q1 := plainB_iff.1 p1
  have q2 := plainB_iff.1 p2
  have q3 := plainB_iff.1 p3
  have hpre : ∀ o ∈ [headOp 3 2] ++ hd, plainK o.kind := fun o ho => by
    rcases List.mem_append.1 ho with ho | ho
    · simp at ho; subst ho; exact ⟨by decide, by decide, by decide⟩
    · exact (q1 o ho).1
  have htm : ∀ o ∈ times k bd, plainK o.kind := fun o ho => by
    unfold times at ho
    obtain ⟨l, hl, ho⟩ := List.mem_flatten.1 ho
    rw [List.eq_of_mem_replicate hl] at ho
    exact (q2 o ho).1
  have e1 : [headOp 3 2] ++ hd ++ [loopOp k] ++ bd ++ [nextOp] ++ tl ++ [endOp] = ([headOp 3 2] ++ hd) ++ loopOp k :: (bd ++ nextOp :: (tl ++ [endOp])) := by simp
  have e2 : [headOp 3 2] ++ hd ++ times k bd ++ tl ++ [endOp] = (([headOp 3 2] ++ hd) ++ (times k bd ++ tl)) ++ [endOp] := by simp
  have hb1 : k * (bd.length + 1) ≤ 4 * 7 := Nat.mul_le_mul hk (by omega)
  have hb2 : k * bd.length ≤ 4 * 6 := Nat.mul_le_mul hk l2
  rw [e1] at h1 ⊢
  rw [e2] at h2 ⊢
  rw [play_loop h1 hpre (fun o ho => (q2 o ho).1) (fun o ho => (q3 o ho).1) rfl rfl (k := k) rfl (by simp; omega)]
  rw [play_straight h2 (fun o ho => by
    rcases List.mem_append.1 ho with ho | ho
    · exact hpre o ho
    · rcases List.mem_append.1 ho with ho | ho
      · exact htm o ho
      · exact (q3 o ho).1) (by simp [List.length_append, times_len]; omega)]
  rfl
set_option maxRecDepth 100000 in
set_option maxHeartbeats 32000000 in
theorem topLoop_walk (A : Option Addr) (n c : Nat) (rs : List (FAt FOp)) (A0 : Option Addr) (nb cb : Nat) (rb : List (FAt FOp)) (C0 : Option Addr) (nt ct : Nat) (rt : List (FAt FOp)) (ti : Int) (w : World) (hl : Ops w A n rs) (hl2 : Ops w A0 nb rb) (hl3 : Ops w C0 nt rt) (hn : n ≤ maxLen) (hn2 : nb ≤ maxLen) (hn3 : nt ≤ maxLen) :
    Calls Try.prog 5 #[.slice A n c, .slice A0 nb cb, .slice C0 nt ct, .int .i64 ti] w (Ret (.bool true) w) := by
  have HL := hid hl
  have HL2 := hid hl2
  have HL3 := hid hl3
  have hlen := hl.1
  have hlen2 := hl2.1
  have hlen3 := hl3.1
  clear hl hl2 hl3
  go_enter Try.func5, Try.ntmps5
  go_wp2_with fail
  refine (mworks_any w).mono ?_
  rintro e w1 ⟨rfl, hb1⟩
  by_cases h20 : 20 < n
  · have i30 : (20 : Int) < (n : Int) := by omega
    go_wp2_with fail
    go_ret
    exact ⟨rfl, hb1⟩
  have i_h20 : ¬ (20 : Int) < (n : Int) := by omega
  by_cases h6 : 6 < nb
  · have i30 : (6 : Int) < (nb : Int) := by omega
    go_wp2_with fail
    go_ret
    exact ⟨rfl, hb1⟩
  have i_h6 : ¬ (6 : Int) < (nb : Int) := by omega
  by_cases h7 : 6 < nt
  · have i30 : (6 : Int) < (nt : Int) := by omega
    go_wp2_with fail
    go_ret
    exact ⟨rfl, hb1⟩
  have i_h7 : ¬ (6 : Int) < (nt : Int) := by omega
  go_wp2_with fail
  refine (mplain_any A n c rs w1 (HL.out.below hb1) (by omega)).mono ?_
  rintro e wp0 ⟨rfl, hbx0⟩
  have hBx0 := bnext hb1 hbx0
  by_cases p1 : plainB (datO rs) = true
  case neg =>
    rw [show plainB (datO rs) = false by simpa using p1]
    go_wp2_with fail
    go_ret
    exact ⟨rfl, hBx0⟩
  rw [p1]
  go_wp2_with fail
  refine (mplain_any A0 nb cb rb wp0 (HL2.out.below hBx0) (by omega)).mono ?_
  rintro e wp1 ⟨rfl, hbx1⟩
  have hBx1 := bnext hBx0 hbx1
  by_cases p2 : plainB (datO rb) = true
  case neg =>
    rw [show plainB (datO rb) = false by simpa using p2]
    go_wp2_with fail
    go_ret
    exact ⟨rfl, hBx1⟩
  rw [p2]
  go_wp2_with fail
  refine (mplain_any C0 nt ct rt wp1 (HL3.out.below hBx1) (by omega)).mono ?_
  rintro e wp2 ⟨rfl, hbx2⟩
  have hBx2 := bnext hBx1 hbx2
  by_cases p3 : plainB (datO rt) = true
  case neg =>
    rw [show plainB (datO rt) = false by simpa using p3]
    go_wp2_with fail
    go_ret
    exact ⟨rfl, hBx2⟩
  rw [p3]
  by_cases c1 : ti < 0
  · go_wp2_with fail
    go_ret
    exact ⟨rfl, hBx2⟩
  by_cases c2 : 4 < ti
  · go_wp2_with fail
    go_ret
    exact ⟨rfl, hBx2⟩
  obtain ⟨t, rfl⟩ : ∃ t : Nat, ti = (t : Int) := ⟨ti.toNat, by omega⟩
  have ht4 : t ≤ 4 := by omega
  obtain ⟨w2, rfl⟩ : ∃ w2 : World, w2 = wp2 := ⟨_, rfl⟩
  have hB2 := hBx2
  clear hb1 hbx0 hbx1 hbx2 hBx0 hBx1 hBx2
  have hz2 := hB2.size
  have hal := (Below.refl w2.heap.size w2).alloc (Nat.le_refl _) (.cells #[.int .i64 1, .int .i64 0, .int .i64 3, .int .i64 2, .int .i64 0, .int .i64 0, .int .i64 0, .int .i64 0, .slice none 0 0] 51)
  have hown : OwnL w2.heap.size _ (some ⟨w2.heap.size, 0, none⟩) 1 1 ([headOp 3 2].map bareR) := OwnL.lit w2 [headOp 3 2] #[.int .i64 1, .int .i64 0, .int .i64 3, .int .i64 2, .int .i64 0, .int .i64 0, .int .i64 0, .int .i64 0, .slice none 0 0] rfl (by simp) (by simp [headOp])
  have hB2a := bnext hB2 hal
  have hsrc := HL.out.below hB2a
  go_wp2_with (at_builtin; refine wpList_append_ops _ rfl (.tmp 57) (.tmp 58) rfl w2.heap.size _ _ _ ([headOp 3 2].map bareR) rs rfl hown A n c rfl hsrc (by omega) apart_bare (apart_low HL.out.2.2 hz2 hown.own) ?_)
  intro A3 k3 w3 hown3 hg3 _
  have hB3 := OwnL.after hB2a hown hz2 hg3
  clear hown hal hB2a hg3 hsrc
  obtain ⟨BB, hBB⟩ : ∃ BB, BB = w2.heap.size := ⟨_, rfl⟩
  have hwB : w.heap.size ≤ BB := by omega
  have hzB : BB = w2.heap.size := hBB
  have HBB := hid hBB
  clear hBB hzB
  obtain ⟨R, hR⟩ : ∃ R, [headOp 3 2].map bareR ++ rs = R := ⟨_, rfl⟩
  obtain ⟨M, hM⟩ : ∃ M, 1 + n = M := ⟨_, rfl⟩
  have HMM := hid hM
  have HO3 : Hid (OwnL BB w3 A3 M k3 R) := hid (by rw [← hR, ← hM, HBB.out]; exact hown3)
  rw [hM]
  have LR : Low BB R := by rw [← hR]; exact low_append low_bare (low_of HL.out hwB)
  have LB : Low BB rb := low_of HL2.out hwB
  have LT : Low BB rt := low_of HL3.out hwB
  have hM21 : M ≤ 21 := by omega
  have hz3 := HO3.out.low
  clear hown3 hM
  -- b := nil ++ a
  go_wp2_with (at_builtin; refine wpList_append_nil _ rfl (.const (.slice none 0 0)) (.tmp 60) rfl BB R rfl hz3 A3 M k3 rfl HO3.out.ops (by omega) ?_)
  intro A4 k4 w4 hown4 hb4 hat4
  have hB4 := bnext hB3 hb4
  have HO4 := HO3.out.below hb4
  have hsep4 : Sep (.slice A3 M k3) (.slice A4 M k4) := fun g h1 h2 => HO3.out.ne hat4 (Nat.le_refl _) g h1 h2
  clear HO3 hat4 hz3
  have hal_l4 := (Below.refl w4.heap.size w4).alloc (Nat.le_refl _) (.cells #[.int .i64 12, .int .i64 0, .int .i64 (t : Int), .int .i64 0, .int .i64 0, .int .i64 0, .int .i64 0, .int .i64 0, .slice none 0 0] 51)
  have hsrc_l4 : Ops _ (some ⟨w4.heap.size, 0, none⟩) 1 ([loopOp t].map bareR) := (OwnL.lit w4 [loopOp t] #[.int .i64 12, .int .i64 0, .int .i64 (t : Int), .int .i64 0, .int .i64 0, .int .i64 0, .int .i64 0, .int .i64 0, .slice none 0 0] rfl (by simp) (by simp [loopOp])).ops
  have HA4 := HO4.below hal_l4
  have HB4 := hown4.below hal_l4
  have hBl4 := bnext hB4 hal_l4
  go_wp2_with (at_builtin; refine wpList_append_two _ rfl (.tmp 62) (.tmp 65) rfl BB _ _ _ _ _ _ R R ([loopOp t].map bareR) rfl HA4 HB4 hsep4 LR LR low_bare _ 1 1 rfl hsrc_l4 (by omega) ?_)
  intro A5 k5 w5 HA5 HB5 hsep5 hq5
  have hB5 : Below w.heap.size w w5 := hBl4.trans (hq5.mono hwB)
  clear HA4 HB4 hal_l4 hsrc_l4 hBl4 HO4 hown4 hsep4
  obtain ⟨R5, hR5⟩ : ∃ R5, R ++ [loopOp t].map bareR = R5 := ⟨_, rfl⟩
  have LR5 : Low BB R5 := by rw [← hR5]; exact low_append LR low_bare
  have HA5' : OwnL BB w5 A5 (M + 1) k5 R5 := by rw [← hR5]; exact HA5
  have hsrc5 := HL2.out.below hB5
  clear HA5
  go_wp2_with (at_builtin; refine wpList_append_two _ rfl (.tmp 66) (.tmp 67) rfl BB _ _ _ _ _ _ R5 R rb rfl HA5' HB5 hsep5 LR5 LR LB A0 nb cb rfl hsrc5 (by omega) ?_)
  intro A6 k6 w6 HA6 HB6 hsep6 hq6
  have hB6 : Below w.heap.size w w6 := hB5.trans (hq6.mono hwB)
  clear HA5' HB5 hsrc5 hsep5
  obtain ⟨R6, hR6⟩ : ∃ R6, R5 ++ rb = R6 := ⟨_, rfl⟩
  have LR6 : Low BB R6 := by rw [← hR6]; exact low_append LR5 LB
  have HA6' : OwnL BB w6 A6 (M + 1 + nb) k6 R6 := by rw [← hR6]; exact HA6
  clear HA6
  have hal_l6 := (Below.refl w6.heap.size w6).alloc (Nat.le_refl _) (.cells #[.int .i64 13, .int .i64 0, .int .i64 0, .int .i64 0, .int .i64 0, .int .i64 0, .int .i64 0, .int .i64 0, .slice none 0 0] 51)
  have hsrc_l6 : Ops _ (some ⟨w6.heap.size, 0, none⟩) 1 ([nextOp].map bareR) := (OwnL.lit w6 [nextOp] #[.int .i64 13, .int .i64 0, .int .i64 0, .int .i64 0, .int .i64 0, .int .i64 0, .int .i64 0, .int .i64 0, .slice none 0 0] rfl (by simp) (by simp [nextOp])).ops
  have HA6a := HA6'.below hal_l6
  have HB6a := HB6.below hal_l6
  have hBl6 := bnext hB6 hal_l6
  go_wp2_with (at_builtin; refine wpList_append_two _ rfl (.tmp 68) (.tmp 70) rfl BB _ _ _ _ _ _ R6 R ([nextOp].map bareR) rfl HA6a HB6a hsep6 LR6 LR low_bare _ 1 1 rfl hsrc_l6 (by omega) ?_)
  intro A7 k7 w7 HA7 HB7 hsep7 hq7
  have hB7 : Below w.heap.size w w7 := hBl6.trans (hq7.mono hwB)
  clear HA6a HB6a HA6' HB6 hal_l6 hsrc_l6 hBl6 hsep6
  obtain ⟨R7, hR7⟩ : ∃ R7, R6 ++ [nextOp].map bareR = R7 := ⟨_, rfl⟩
  have LR7 : Low BB R7 := by rw [← hR7]; exact low_append LR6 low_bare
  obtain ⟨M7, hM7⟩ : ∃ M7, M + 1 + nb + 1 = M7 := ⟨_, rfl⟩
  have HM7 := hid hM7
  have HA7' : Hid (OwnL BB w7 A7 M7 k7 R7) := hid (by rw [← hR7, ← hM7]; exact HA7)
  have HB7' := hid HB7
  have HS7 : Hid (Sep (.slice A7 M7 k7) (.slice A4 M k4)) := hid (by rw [← hM7]; exact hsep7)
  rw [hM7]
  have hM740 : M7 ≤ 40 := by omega
  have hB7' := hid hB7
  clear HA7 HB7 hsep7 hM7 hB7 hB6 hB5 hB4 hB3 hB2 hq5 hq6 hq7 hb4
  have LBt := fun k => timesR_low LB k
  have hAR : datO R7 = [headOp 3 2] ++ datO rs ++ [loopOp t] ++ datO rb ++ [nextOp] := by rw [← hR7, ← hR6, ← hR5, ← hR, datO_append, datO_append, datO_append, datO_append, datO_bare, datO_bare, datO_bare]
  have hBR : ∀ k, datO (R ++ timesR k rb) = [headOp 3 2] ++ datO rs ++ times k (datO rb) := fun k => by rw [datO_append, ← hR, datO_append, datO_bare, timesR_dat]
  have HAR := hid hAR
  have HBR := hid hBR
  have HLR := hid LR
  have HLR7 := hid LR7
  have HLB := hid LB
  have HLT := hid LT
  have HLBt := hid LBt
  clear hAR hBR hR hR5 hR6 hR7 LR LR5 LR6 LR7 LB LT LBt
  go_wp2_with fail
  go_loopw [11, 12] (fun bv iv wr => ∃ k Nk : Nat, ∃ A' : Option Addr, ∃ k' : Nat, bv = .slice A' Nk k' ∧ iv = .int .i64 k ∧ k ≤ t ∧ Hid (Nk = M + k * nb) ∧ Hid (OwnL BB wr A' Nk k' (R ++ timesR k rb)) ∧ Hid (OwnL BB wr A7 M7 k7 R7) ∧ Hid (Sep (.slice A7 M7 k7) (.slice A' Nk k')) ∧ Hid (Below w.heap.size w wr)) (fun _ iv _ => t - (intOf iv).toNat)
  case atStart =>
    refine ⟨0, M, A4, k4, rfl, rfl, by omega, hid (by omega), hid ?_, HA7', HS7, hB7'⟩
    rw [show timesR 0 rb = [] from rfl, List.append_nil]
    exact HB7'.out
  case round =>
    obtain ⟨k, Nk, A', k', rfl, rfl, hk, HN, HB, HA, HS, HW⟩ := hrel
    clear HA7' HB7' HS7 hB7'
    have hkb : k * nb ≤ 4 * 6 := Nat.mul_le_mul (by omega) (by omega)
    have hNk : Nk ≤ 45 := by have := HN.out; omega
    have hsrcB := HL2.out.below HW.out
    by_cases hlt : k < t
    · have i1 : (k : Int) < (t : Int) := by omega
      have e1 : IntKind.i64.wrap ((k : Int) + 1) = (k : Int) + 1 := IntWalk.i64_in _ (by omega)
      go_wp2_with (at_builtin; refine wpList_append_two _ rfl (.tmp 77) (.tmp 78) rfl BB _ _ _ A7 M7 k7 (R ++ timesR k rb) R7 rb rfl HB.out HA.out HS.out.symm (low_append HLR.out (HLBt.out k)) HLR7.out HLB.out A0 nb cb rfl hsrcB (by omega) ?_)
      intro Ax kx wx HBx HAx hsepx hqx
      have HWx := hid (HW.out.trans (hqx.mono hwB))
      have HBx' := hid HBx
      have HAx' := hid HAx
      have HSx := hid hsepx.symm
      clear HBx HAx hsepx hqx hsrcB HA HB HS HW
      go_wp2_with fail
      go_roundw
      case rel =>
        refine ⟨k + 1, Nk + nb, Ax, kx, rfl, by go_num, by omega, hid (by have := HN.out; rw [Nat.succ_mul]; omega), hid ?_, HAx', HSx, HWx⟩
        rw [timesR_succ]
        exact HBx'.out
      case measure => simp [intOf]; omega
    · have hkt : k = t := by omega
      subst hkt
      have i1 : ¬ (k : Int) < (k : Int) := by omega
      have hsrcT := HL3.out.below HW.out
      have hEBn := HBR.out k
      have HEB := hid hEBn
      obtain ⟨RB0, hRB0⟩ : ∃ RB0, R ++ timesR k rb = RB0 := ⟨_, rfl⟩
      rw [hRB0] at hEBn
      have LRB : Low BB RB0 := by rw [← hRB0]; exact low_append HLR.out (HLBt.out k)
      have HB0 : OwnL BB wr A' Nk k' RB0 := by rw [← hRB0]; exact HB.out
      have HDB := hid hEBn
      have HLB0 := hid LRB
      clear HB hRB0 hEBn LRB HEB hsrcB
      have hHA := HA.out
      have hHS := HS.out
      clear HA HS
      have HWW := HW.out
      clear HW
      -- a gets the tail and the end
      go_wp2_with (at_builtin; refine wpList_append_two _ rfl (.tmp 80) (.tmp 81) rfl BB _ _ _ A' Nk k' R7 RB0 rt rfl hHA HB0 hHS HLR7.out HLB0.out HLT.out C0 nt ct rfl hsrcT (by omega) ?_)
      intro A8 k8 w8 HA8 HB8 hsep8 hq8
      have hB8 := HWW.trans (hq8.mono hwB)
      clear hHA HB0 hHS hsrcT HWW hq8
      obtain ⟨R8, hR8⟩ : ∃ R8, R7 ++ rt = R8 := ⟨_, rfl⟩
      obtain ⟨M8, hM8⟩ : ∃ M8, M7 + nt = M8 := ⟨_, rfl⟩
      have LR8 : Low BB R8 := by rw [← hR8]; exact low_append HLR7.out HLT.out
      have HA8' : OwnL BB w8 A8 M8 k8 R8 := by rw [← hR8, ← hM8]; exact HA8
      have hM850 : M8 ≤ 50 := by omega
      rw [hM8] at hsep8 ⊢
      have HM8 := hid hM8
      clear HA8 hM8
      have hal_l8 := (Below.refl w8.heap.size w8).alloc (Nat.le_refl _) (.cells #[.int .i64 16, .int .i64 0, .int .i64 0, .int .i64 0, .int .i64 0, .int .i64 0, .int .i64 0, .int .i64 0, .slice none 0 0] 51)
      have hsrc_l8 : Ops _ (some ⟨w8.heap.size, 0, none⟩) 1 ([endOp].map bareR) := (OwnL.lit w8 [endOp] #[.int .i64 16, .int .i64 0, .int .i64 0, .int .i64 0, .int .i64 0, .int .i64 0, .int .i64 0, .int .i64 0, .slice none 0 0] rfl (by simp) (by simp [endOp])).ops
      have HA8a := HA8'.below hal_l8
      have HB8a := HB8.below hal_l8
      have hBl8 := bnext hB8 hal_l8
      go_wp2_with (at_builtin; refine wpList_append_two _ rfl (.tmp 82) (.tmp 84) rfl BB _ _ _ A' Nk k' R8 RB0 ([endOp].map bareR) rfl HA8a HB8a hsep8 LR8 HLB0.out low_bare _ 1 1 rfl hsrc_l8 (by omega) ?_)
      intro A9 k9 w9 HA9 HB9 hsep9 hq9
      have hB9 := hBl8.trans (hq9.mono hwB)
      clear HA8a HB8a HA8' HB8 hal_l8 hsrc_l8 hBl8 hsep8 hq9 hB8
      obtain ⟨RA, hRA⟩ : ∃ RA, R8 ++ [endOp].map bareR = RA := ⟨_, rfl⟩
      obtain ⟨MA, hMA⟩ : ∃ MA, M8 + 1 = MA := ⟨_, rfl⟩
      have LRA : Low BB RA := by rw [← hRA]; exact low_append LR8 low_bare
      have HA9' : OwnL BB w9 A9 MA k9 RA := by rw [← hRA, ← hMA]; exact HA9
      have hMAs : MA ≤ 51 := by omega
      rw [hMA] at hsep9 ⊢
      have hDA : datO RA = [headOp 3 2] ++ datO rs ++ [loopOp k] ++ datO rb ++ [nextOp] ++ datO rt ++ [endOp] := by rw [← hRA, ← hR8, datO_append, datO_append, datO_bare, HAR.out]
      have HDA := hid hDA
      clear HA9 hMA hRA hR8 hDA LR8
      -- b gets the tail and the end
      have hsrc9 := HL3.out.below hB9
      go_wp2_with (at_builtin; refine wpList_append_two _ rfl (.tmp 86) (.tmp 87) rfl BB _ _ _ A9 MA k9 RB0 RA rt rfl HB9 HA9' hsep9.symm HLB0.out LRA HLT.out C0 nt ct rfl hsrc9 (by omega) ?_)
      intro A10 k10 w10 HB10 HA10 hsep10 hq10
      have hB10 := hB9.trans (hq10.mono hwB)
      clear HB9 HA9' hsep9 hsrc9 hq10 hB9
      obtain ⟨R10, hR10⟩ : ∃ R10, RB0 ++ rt = R10 := ⟨_, rfl⟩
      obtain ⟨M10, hM10⟩ : ∃ M10, Nk + nt = M10 := ⟨_, rfl⟩
      have LR10 : Low BB R10 := by rw [← hR10]; exact low_append HLB0.out HLT.out
      have HB10' : OwnL BB w10 A10 M10 k10 R10 := by rw [← hR10, ← hM10]; exact HB10
      have hM1060 : M10 ≤ 60 := by omega
      rw [hM10] at hsep10 ⊢
      have HM10 := hid hM10
      clear HB10 hM10
      have hal_l10 := (Below.refl w10.heap.size w10).alloc (Nat.le_refl _) (.cells #[.int .i64 16, .int .i64 0, .int .i64 0, .int .i64 0, .int .i64 0, .int .i64 0, .int .i64 0, .int .i64 0, .slice none 0 0] 51)
      have hsrc_l10 : Ops _ (some ⟨w10.heap.size, 0, none⟩) 1 ([endOp].map bareR) := (OwnL.lit w10 [endOp] #[.int .i64 16, .int .i64 0, .int .i64 0, .int .i64 0, .int .i64 0, .int .i64 0, .int .i64 0, .int .i64 0, .slice none 0 0] rfl (by simp) (by simp [endOp])).ops
      have HB10a := HB10'.below hal_l10
      have HA10a := HA10.below hal_l10
      have hBl10 := bnext hB10 hal_l10
      go_wp2_with (at_builtin; refine wpList_append_two _ rfl (.tmp 88) (.tmp 90) rfl BB _ _ _ A9 MA k9 R10 RA ([endOp].map bareR) rfl HB10a HA10a hsep10 LR10 LRA low_bare _ 1 1 rfl hsrc_l10 (by omega) ?_)
      intro AB kB wz HBz HAz _ hqz
      have hBz := hBl10.trans (hqz.mono hwB)
      clear HB10a HA10a HB10' HA10 hal_l10 hsrc_l10 hBl10 hsep10 hqz hB10
      obtain ⟨RB, hRB⟩ : ∃ RB, R10 ++ [endOp].map bareR = RB := ⟨_, rfl⟩
      obtain ⟨MB, hMB⟩ : ∃ MB, M10 + 1 = MB := ⟨_, rfl⟩
      have HB : Hid (OwnL BB wz AB MB kB RB) := hid (by rw [← hRB, ← hMB]; exact HBz)
      have HA := hid HAz
      have hMBs : MB ≤ 61 := by omega
      rw [hMB]
      have hDB : datO RB = [headOp 3 2] ++ datO rs ++ times k (datO rb) ++ datO rt ++ [endOp] := by rw [← hRB, ← hR10, datO_append, datO_append, datO_bare, HDB.out]
      have HDB2 := hid hDB
      clear HBz HAz hMB hRB hR10 hDB HDB LR10 LRA
      have HEq := hid (fun (h1 : BookFine (datO RA)) (h2 : BookFine (datO RB)) => (by
        rw [HDA.out] at h1 ⊢
        rw [HDB2.out] at h2 ⊢
        exact loop_play h1 h2 p1 p2 p3 (by rw [datO_len]; omega) (by rw [datO_len]; omega) (by rw [datO_len]; omega) ht4 : playP (datO RA) 400 = playP (datO RB) 400))
      clear HDA HDB2 HM8 HM10 HN HLR HLR7 HLB HLT HLBt HLB0 HAR HBR
      -- two books are played
      go_wp2_with fail
      refine (mmay_any A9 MA k9 RA wz HA.out.ops (by unfold maxLen; omega)).mono ?_
      rintro e w5 ⟨rfl, hb5⟩
      have hB5 := bnext hBz hb5
      by_cases hm : mayB MA RA = true
      case neg =>
        rw [show mayB MA RA = false by simpa using hm]
        go_wp2_with fail
        go_ret
        exact ⟨rfl, hB5⟩
      rw [hm]
      go_wp2_with fail
      refine (mmay_any AB MB kB RB w5 (HB.out.ops.below hb5) (by unfold maxLen; omega)).mono ?_
      rintro e w6 ⟨rfl, hb6⟩
      have hB6 := bnext hB5 hb6
      by_cases hm2 : mayB MB RB = true
      case neg =>
        rw [show mayB MB RB = false by simpa using hm2]
        go_wp2_with fail
        go_ret
        exact ⟨rfl, hB6⟩
      rw [hm2]
      obtain ⟨m1, m2, m3⟩ := may_iff.1 hm
      obtain ⟨n1, n2, n3⟩ := may_iff.1 hm2
      have hs1 := light_small m2
      have hs2 := light_small n2
      have hEQ := HEq.out (book_fine m3) (book_fine n3)
      have hbz6 := bnext hb5 hb6
      have C1 := mplay_any A9 MA k9 RA 400 w6 (HA.out.ops.below hbz6) hs1 (by omega) (by decide)
      have P1 := play_fine (datO RA) 400
      have L1 := playP_le (datO RA) 400
      have C2 := fun W (hb : Below w6.heap.size w6 W) => mplay_any AB MB kB RB 400 W (HB.out.ops.below (bnext hbz6 hb)) hs2 (by omega) (by decide)
      rw [← hEQ] at C2
      obtain ⟨⟨X, f⟩, hX⟩ : ∃ q, playP (datO RA) 400 = q := ⟨_, rfl⟩
      rw [hX] at C1 C2 P1 L1
      simp only at C1 C2 P1 L1
      have HC2 := hid C2
      clear hX hEQ C2 m1 m2 m3 n1 n2 n3 hm hm2 hs1 hs2
      go_wp2_with fail
      refine C1.mono ?_
      rintro e w7 ⟨A7, n7, k7, rs7, rfl, hf7, -, -, hd7, hb7⟩
      have hB7 := bnext hB6 hb7
      clear C1
      go_wp2_with fail
      refine (HC2.out w7 hb7).mono ?_
      rintro e w8 ⟨A8, n8, k8, rs8, rfl, hf8, -, -, hd8, hb8⟩
      have hB8 := bnext hB7 hb8
      have F7 := hid (hf7.belowT hb8)
      have F8 := hid hf8
      simp only at hd7 hd8
      have S7 := frames_small hf7 hd7 P1.1 P1.2
      have S8 := frames_small hf8 hd8 P1.1 P1.2
      have HDD := hid (show frs rs7 = frs rs8 from (show frD rs7 = frD rs8 by rw [hd7, hd8]))
      clear hf7 hf8 hd7 hd8 P1 HC2
      simp only
      go_wp2_with fail
      refine (number_any f w8 (by omega)).mono ?_
      rintro e w9 ⟨rfl, hb9⟩
      go_wp2_with fail
      refine (number_any f w9 (by omega)).mono ?_
      rintro e w10 ⟨rfl, hb10⟩
      have hb8' := bnext hb9 hb10
      have hB10 := bnext hB8 hb8'
      go_wp2_with fail
      refine (rsameframes_any A7 A8 n7 n8 k7 k8 rs7 rs8 w10 (F7.out.belowT hb8') (F8.out.belowT hb8') S7.1 S8.1 S7.2 S8.2).mono ?_
      rintro e w11 ⟨rfl, hb11⟩
      rw [HDD.out, eqFrs_self]
      go_wp2_with fail
      go_ret
      exact ⟨rfl, bnext hB10 hb11⟩
theorem topLoop_row (w : World) (r : FAt (List (FAt FOp))) (h : Ops w r.A r.n r.x ∧ r.n ≤ r.c ∧ r.c ≤ maxLen ∧ ∀ q ∈ r.x, OpOk w q) (r2 : FAt (List (FAt FOp))) (h2 : Ops w r2.A r2.n r2.x ∧ r2.n ≤ r2.c ∧ r2.c ≤ maxLen ∧ ∀ q ∈ r2.x, OpOk w q) (r3 : FAt (List (FAt FOp))) (h3 : Ops w r3.A r3.n r3.x ∧ r3.n ≤ r3.c ∧ r3.c ≤ maxLen ∧ ∀ q ∈ r3.x, OpOk w q) (i : Int) (_h1 : (Lit.int .i64 i).wf = true) :
    Calls Try.prog 5 #[.slice r.A r.n r.c, .slice r2.A r2.n r2.c, .slice r3.A r3.n r3.c, .int .i64 i] w (Ret (.bool true) w) :=
  topLoop_walk r.A r.n r.c r.x r2.A r2.n r2.c r2.x r3.A r3.n r3.c r3.x i w h.1 h2.1 h3.1 (Nat.le_trans h.2.1 h.2.2.1) (Nat.le_trans h2.2.1 h2.2.2.1) (Nat.le_trans h3.2.1 h3.2.2.1)
end Fb
