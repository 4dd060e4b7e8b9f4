/- The law TopBack: it returns true. Condition: the argument's shape. -/
import Derived.Test.YtgkemeclpidmcaaOpsKit
import Derived.Test.YtgkemeclpidmcaaOpen2
import Derived.Test.YtgkemeclpidmcaaRows
set_option linter.unusedSimpArgs false
set_option linter.unusedVariables false
namespace Fb
open Go Go.Proofs Go.RowKit Go.Sort
attribute [local go_sem ↓] Go.wp_at_zero Go.wp_at_succ
theorem datO_append (a b : List (FAt FOp)) : datO (a ++ b) = datO a ++ datO b := by unfold datO; rw [List.map_append]
theorem datO_bare (os : List FOp) : datO (os.map bareR) = os := by unfold datO; rw [List.map_map]; exact List.map_id' os
theorem back_play {w h : Int} {bs : List Px} (hf : BookFine ([headOp w h] ++ bs.map backOp ++ [waitOp 1, endOp])) (hl : bs.length ≤ 20) :
    1 ≤ w ∧ w ≤ 8 ∧ 1 ≤ h ∧ h ≤ 8 ∧ playP ([headOp w h] ++ bs.map backOp ++ [waitOp 1, endOp]) 400 = ([⟨plainP w.toNat h.toNat (bs.getLast?.getD (0, 0)), 1⟩], 0) := by
  have hs := head_sides hf
  have e0 : opAt ([headOp w h] ++ bs.map backOp ++ [waitOp 1, endOp]) 0 = headOp w h := rfl
  have hW : headW ([headOp w h] ++ bs.map backOp ++ [waitOp 1, endOp]) = w.toNat := by unfold headW; rw [e0]; rfl
  have hH : headH ([headOp w h] ++ bs.map backOp ++ [waitOp 1, endOp]) = h.toNat := by unfold headH; rw [e0]; rfl
  rw [hW, hH, e0] at hs
  obtain ⟨s1, s2, s3, s4, s5, s6⟩ := hs
  have s5' : (w.toNat : Int) = w := s5
  have s6' : (h.toNat : Int) = h := s6
  refine ⟨by omega, by omega, by omega, by omega, ?_⟩
  have e : [headOp w h] ++ bs.map backOp ++ [waitOp 1, endOp] = (headOp w h :: (bs.map backOp ++ [waitOp 1])) ++ [endOp] := by simp
  rw [e] at hf hW hH ⊢
  rw [play_straight hf (fun o ho => by
    rcases List.mem_cons.1 ho with rfl | ho
    · exact ⟨by simp [headOp], by simp [headOp], by simp [headOp]⟩
    · rcases List.mem_append.1 ho with ho | ho
      · obtain ⟨p, -, rfl⟩ := List.mem_map.1 ho
        exact ⟨by simp [backOp], by simp [backOp], by simp [backOp]⟩
      · simp at ho
        subst ho
        exact ⟨by simp [waitOp], by simp [waitOp], by simp [waitOp]⟩) (by simp; omega), hW, hH]
  rw [coreL_step (c1 := c0) (by unfold coreO headOp; simp), coreL_append, core_backs, if_neg (by simp)]
  rw [coreL_step (coreO_wait (o := waitOp 1) rfl |>.trans (if_neg (by simp [c0])))]
  rfl
theorem neq_px_self (a b : Int) (w : World) : (binOp .neq 42 (.agg #[.int .i64 a, .int .i64 b]) (.agg #[.int .i64 a, .int .i64 b])).run Try.prog w = .ok (.bool false) w := by
  rw [neq_px]; simp [eqPx]
/-- the ops behind k pixels -/
def backR (wi hi : Int) (bs : List Px) (k : Nat) : List (FAt FOp) := ([headOp wi hi] ++ (bs.take k).map backOp).map bareR
theorem backR_succ {wi hi : Int} {bs : List Px} {k : Nat} (h : k < bs.length) : backR wi hi bs (k + 1) = backR wi hi bs k ++ [backOp bs[k]].map bareR := by
  unfold backR
  rw [List.take_succ_eq_append_getElem h]
  simp only [List.map_append, List.map_cons, List.map_nil, List.append_assoc]
theorem last_take {bs : List Px} {k : Nat} (h : k < bs.length) : ((bs.take (k + 1)).getLast?.getD (0, 0) : Px) = bs[k] := by
  rw [List.take_succ_eq_append_getElem h, List.getLast?_append]
  rfl
theorem backR_bare {wi hi : Int} {bs : List Px} {k : Nat} {w : World} {own : Option Nat} : Apart w own (backR wi hi bs k) := apart_bare
theorem OwnL.off {w : World} {B : Nat} {A : Option Addr} {n c : Nat} {rs : List (FAt FOp)} {bx o : Nat} {u : Value} {cur : Array Value} (h : OwnL B w A n c rs) (hb : w.heap[bx]? = some (.cells cur 42)) (hr : Apart w (some bx) rs) : OwnL B (w.setCell ⟨bx, o, none⟩ u) A n c rs :=
  h.keep (row := some bx) (gb_set (gb_refl w (some bx)) o u) (fun b e e2 => by injection e2 with e2; subst e2; exact own_not h.own hb (by decide) e) hr
set_option maxRecDepth 100000 in
set_option maxHeartbeats 32000000 in
theorem topBack_walk (wi hi : Int) (A : Option Addr) (n c : Nat) (bs : List Px) (w : World) (hl : Pixs w A n bs) (hn : n ≤ maxLen) :
    Calls Try.prog 10 #[.int .i64 wi, .int .i64 hi, .slice A n c] w (Ret (.bool true) w) := by
  have HL := hid hl
  have hlen := hl.1
  clear hl
  go_enter Try.func10, Try.ntmps10
  go_wp2_with fail
  refine (mworks_any w).mono ?_
  rintro e w1 ⟨rfl, hb1⟩
  by_cases h20 : 20 < n
  · have i20 : (20 : Int) < (n : Int) := by omega
    go_wp2_with fail
    go_ret
    exact ⟨rfl, hb1⟩
  have i20 : ¬ (20 : Int) < (n : Int) := by omega
  have hz1 := hb1.size
  obtain ⟨BB, hBB⟩ : ∃ BB, BB = w1.heap.size := ⟨_, rfl⟩
  have hwB : w.heap.size ≤ BB := by omega
  have hal := (Below.refl w1.heap.size w1).alloc (Nat.le_refl _) (.cells #[.int .i64 1, .int .i64 0, .int .i64 wi, .int .i64 hi, .int .i64 0, .int .i64 0, .int .i64 0, .int .i64 0, .slice none 0 0] 51)
  have hown : OwnL w1.heap.size _ (some ⟨w1.heap.size, 0, none⟩) 1 1 ([headOp wi hi].map bareR) := OwnL.lit w1 [headOp wi hi] #[.int .i64 1, .int .i64 0, .int .i64 wi, .int .i64 hi, .int .i64 0, .int .i64 0, .int .i64 0, .int .i64 0, .slice none 0 0] rfl (by simp) (by simp [headOp])
  have hB2 := bnext hb1 hal
  have HBB := hid hBB
  clear hBB
  go_upto_region 7 with fail
  generalize w1.alloc (.cells #[.int .i64 1, .int .i64 0, .int .i64 wi, .int .i64 hi, .int .i64 0, .int .i64 0, .int .i64 0, .int .i64 0, .slice none 0 0] 51) = w2 at *
  have HO2 : Hid (OwnL BB w2 (some ⟨w1.heap.size, 0, none⟩) 1 1 ([headOp wi hi].map bareR)) := hid (by rw [HBB.out]; exact hown)
  clear hown hal hb1 hz1
  have hz2 := hB2.size
  -- REST
  go_upto_region 8 with fail
  obtain ⟨bx, hbx⟩ : ∃ bx, bx = w2.heap.size := ⟨_, rfl⟩
  obtain ⟨w3, hw3⟩ : ∃ w3, w3 = w2.alloc (.cells #[.int .i64 0, .int .i64 0] 42) := ⟨_, rfl⟩
  have hX3 : w3.heap[bx]? = some (.cells #[.int .i64 0, .int .i64 0] 42) := by rw [hw3, hbx]; exact heap_alloc_new w2 _
  have hb23 : Below w2.heap.size w2 w3 := by rw [hw3]; exact (Below.refl _ _).alloc (Nat.le_refl _) _
  have hbxB : w.heap.size ≤ bx := by rw [hbx]; exact hz2
  rw [← hw3, ← hbx]
  have HO3 := hid (HO2.out.below hb23)
  have HX3 := hid hX3
  have HB3 := hid (bnext hB2 hb23)
  obtain ⟨A1, hA1⟩ : ∃ A1, (some ⟨w1.heap.size, 0, none⟩ : Option Addr) = A1 := ⟨_, rfl⟩
  rw [hA1] at HO3 ⊢
  clear hw3 hbx hX3 hb23 HO2 hB2 hA1 HBB hz2
  go_wp2_with fail
  go_loopw [8, 10] (fun lv iv wr => ∃ (k : Nat) (A' : Option Addr) (N' c' : Nat) (q : Px), lv = .slice A' N' c' ∧ iv = .int .i64 (k : Int) ∧ k ≤ n ∧ Hid (N' = 1 + k) ∧ Hid (OwnL BB wr A' N' c' (backR wi hi bs k)) ∧ Hid (wr.heap[bx]? = some (.cells #[.int .i64 q.1, .int .i64 q.2] 42)) ∧ Hid (q = (bs.take k).getLast?.getD (0, 0)) ∧ Hid (Below w.heap.size w wr)) (fun _ iv _ => n - (intOf iv).toNat)
  case atStart => exact ⟨0, A1, 1, 1, (0, 0), rfl, rfl, by omega, hid rfl, HO3, HX3, hid rfl, HB3⟩
  case round =>
    obtain ⟨k, A', N', c', q, rfl, rfl, hk, HN, HO, HX, HQ, HB⟩ := hrel
    clear HO3 HX3 HB3
    have hN21 : N' ≤ 21 := by have := HN.out; omega
    by_cases hlt : k < n
    · obtain ⟨b, off, hA, hbb, hat⟩ := HL.out.open_ (by omega)
      subst hA
      have hkl : k < bs.length := by omega
      have hc := hat.below HB.out hbb k hkl
      obtain ⟨y0, y1⟩ := hc
      have HBS := hid (backR_succ (wi := wi) (hi := hi) hkl)
      have HLT := hid (last_take hkl)
      obtain ⟨⟨pv, pa⟩, hpp⟩ : ∃ p, bs[k] = p := ⟨_, rfl⟩
      rw [hpp] at y0 y1 HBS HLT
      simp only at y0 y1
      have i1 : (k : Int) < (n : Int) := by omega
      have i2 : (0 : Int) ≤ (k : Int) := by omega
      have e1 : IntKind.i64.wrap ((k : Int) + 1) = (k : Int) + 1 := IntWalk.i64_in _ (by omega)
      clear hpp hat
      obtain ⟨W9, rfl⟩ : ∃ W9 : World, W9 = wr := ⟨_, rfl⟩
      obtain ⟨X, hX⟩ : ∃ X, X = (W9.alloc (.cells #[.int .i64 10, .int .i64 0, .int .i64 pv, .int .i64 pa, .int .i64 0, .int .i64 0, .int .i64 0, .int .i64 0, .slice none 0 0] 51)).drew := ⟨_, rfl⟩
      have hbX : Below W9.heap.size W9 X := by rw [hX]; exact ((Below.refl _ _).alloc (Nat.le_refl _) _).drew
      have hownX := HO.out.below hbX
      have hsrcX : Ops X (some ⟨W9.heap.size, 0, none⟩) 1 ([backOp (pv, pa)].map bareR) := by
        rw [hX]
        exact ((OwnL.lit W9 [backOp (pv, pa)] #[.int .i64 10, .int .i64 0, .int .i64 pv, .int .i64 pa, .int .i64 0, .int .i64 0, .int .i64 0, .int .i64 0, .slice none 0 0] rfl (by simp) (by simp [backOp])).ops).below (Below.refl _ _).drew
      obtain ⟨A2, c2, w4, hrun, hown4, hg4, hat4⟩ := run_append_ops X 22 BB A' N' c' (backR wi hi bs k) ([backOp (pv, pa)].map bareR) hownX (some ⟨W9.heap.size, 0, none⟩) 1 1 hsrcX (by omega) backR_bare apart_bare
      have hB9 := HB.out
      have hB4 : Below w.heap.size w w4 := OwnL.after (hB9.trans (hbX.mono hB9.size)) hownX hwB hg4
      have hX4 : w4.heap[bx]? = some (.cells #[.int .i64 q.1, .int .i64 q.2] 42) := by
        have h1 := blk_keep HX.out hbX
        rw [hg4.block bx (Array.getElem?_eq_some_iff.1 h1).1 (fun e => own_not hownX.own h1 (by decide) e.symm)]
        exact h1
      have z0 : w4.cell? ⟨b, off + k * 2, none⟩ = some (.int .i64 pv) := by
        have := hB4.cell (p := ⟨b, off + k * 2, none⟩) hbb
        have h2 := hB9.cell (p := ⟨b, off + k * 2, none⟩) hbb
        rw [this, ← h2]; exact y0
      have z1 : w4.cell? ⟨b, off + k * 2 + 1, none⟩ = some (.int .i64 pa) := by
        have := hB4.cell (p := ⟨b, off + k * 2 + 1, none⟩) hbb
        have h2 := hB9.cell (p := ⟨b, off + k * 2 + 1, none⟩) hbb
        rw [this, ← h2]; exact y1
      have x0 := opblk_cell hX4 0 _ rfl
      have x1 := opblk_cell hX4 1 _ rfl
      have xf := fun o => opblk_free hX4 o
      have HX4 := hid hX4
      have HB4 := hid hB4
      have HO4 : Hid (OwnL BB w4 A2 (N' + 1) c2 (backR wi hi bs (k + 1))) := hid (by rw [HBS.out]; exact hown4)
      rw [hX] at hrun
      clear hX hbX hownX hsrcX hown4 hg4 hat4 hB9 hB4 hX4 HO HX HB HBS
      go_wp2_with fail
      go_region_law (refine step_append_run rfl (.tmp 31) (.tmp 43) 22 rfl _ _ rfl rfl _ _ hrun ?_)
      all_goals
        go_wp2_with fail
        go_roundw
        case rel =>
          refine ⟨k + 1, A2, N' + 1, c2, (pv, pa), by go_num, by go_num, by omega, hid (by have := HN.out; omega), hid ((HO4.out.off HX4.out backR_bare).off (box_set HX4.out) backR_bare), hid ?_, hid HLT.out.symm, hid ((HB4.out.setCell (by show w.heap.size ≤ bx; exact hbxB) _).setCell (by show w.heap.size ≤ bx; exact hbxB) _)⟩
          rw [box_set (box_set HX4.out)]
          rfl
        case measure => simp [intOf]; omega
    · obtain rfl : k = n := by omega
      have i1 : ¬ (k : Int) < (k : Int) := by omega
      rw [List.take_of_length_le (by omega)] at HQ
      obtain ⟨W9, rfl⟩ : ∃ W9 : World, W9 = wr := ⟨_, rfl⟩
      have hB9 := HB.out
      have hHO := HO.out
      have hDR : datO (backR wi hi bs k) = [headOp wi hi] ++ bs.map backOp := by unfold backR; rw [datO_bare, List.take_of_length_le (by omega)]
      obtain ⟨R, hR⟩ : ∃ R, backR wi hi bs k = R := ⟨_, rfl⟩
      have hapR : Apart W9 (Value.slice A' N' c').ownBlock R := by rw [← hR]; exact backR_bare
      rw [hR] at hHO hDR
      have HDR := hid hDR
      clear hDR hR HO
      have hal9 := (Below.refl W9.heap.size W9).alloc (Nat.le_refl _) (.cells #[.int .i64 11, .int .i64 0, .int .i64 1, .int .i64 0, .int .i64 0, .int .i64 0, .int .i64 0, .int .i64 0, .slice none 0 0, .int .i64 16, .int .i64 0, .int .i64 0, .int .i64 0, .int .i64 0, .int .i64 0, .int .i64 0, .int .i64 0, .slice none 0 0] 51)
      have hsrc9 : Ops _ (some ⟨W9.heap.size, 0, none⟩) 2 ([waitOp 1, endOp].map bareR) := (OwnL.lit W9 [waitOp 1, endOp] #[.int .i64 11, .int .i64 0, .int .i64 1, .int .i64 0, .int .i64 0, .int .i64 0, .int .i64 0, .int .i64 0, .slice none 0 0, .int .i64 16, .int .i64 0, .int .i64 0, .int .i64 0, .int .i64 0, .int .i64 0, .int .i64 0, .int .i64 0, .slice none 0 0] rfl (by simp) (by simp [waitOp, endOp])).ops
      have hown9a := hHO.below hal9
      have hB9a := bnext hB9 hal9
      have HX9 := hid (blk_keep HX.out hal9)
      go_wp2_with (at_builtin; refine wpList_append_ops _ rfl (.tmp 49) (.tmp 52) rfl BB _ _ _ R ([waitOp 1, endOp].map bareR) rfl hown9a _ 2 2 rfl hsrc9 (by omega) hapR.to apart_bare ?_)
      intro A4 k4 w4 hown4 hg4 _
      have hB4 := OwnL.after hB9a hown9a hwB hg4
      have HX4 := hid (show w4.heap[bx]? = some (.cells #[.int .i64 q.1, .int .i64 q.2] 42) by
        rw [hg4.block bx (Array.getElem?_eq_some_iff.1 HX9.out).1 (fun e => own_not hown9a.own HX9.out (by decide) e.symm)]
        exact HX9.out)
      obtain ⟨RA, hRA⟩ : ∃ RA, R ++ [waitOp 1, endOp].map bareR = RA := ⟨_, rfl⟩
      obtain ⟨MA, hMA⟩ : ∃ MA, N' + 2 = MA := ⟨_, rfl⟩
      have HA : Hid (OwnL BB w4 A4 MA k4 RA) := hid (by rw [← hRA, ← hMA]; exact hown4)
      have hMAs : MA ≤ 23 := by omega
      rw [hMA]
      have hdd : datO RA = [headOp wi hi] ++ bs.map backOp ++ [waitOp 1, endOp] := by rw [← hRA, datO_append, HDR.out, datO_bare]
      have HDD := hid hdd
      clear hal9 hsrc9 hown9a hB9a hown4 hg4 hRA hMA hdd HX9 hapR hHO hB9 HX HB HDR HN
      go_wp2_with fail
      refine (mmay_any A4 MA k4 RA w4 HA.out.ops (by unfold maxLen; omega)).mono ?_
      rintro e w5 ⟨rfl, hb5⟩
      have hB5 := bnext hB4 hb5
      by_cases hm : mayB MA RA = true
      case neg =>
        rw [show mayB MA RA = false by simpa using hm]
        go_wp2_with fail
        go_ret
        exact ⟨rfl, hB5⟩
      rw [hm]
      obtain ⟨m1, m2, m3⟩ := may_iff.1 hm
      have hs := light_small m2
      have hf := book_fine m3
      rw [HDD.out] at hf
      obtain ⟨r1, r2, r3, r4, hpl⟩ := back_play hf (by omega)
      have C := mplay_any A4 MA k4 RA 400 w5 (HA.out.ops.below hb5) hs (by omega) (by decide)
      rw [HDD.out, hpl, ← HQ.out] at C
      obtain ⟨W, hW⟩ : ∃ W : Nat, wi.toNat = W := ⟨_, rfl⟩
      obtain ⟨H, hH⟩ : ∃ H : Nat, hi.toNat = H := ⟨_, rfl⟩
      obtain rfl : wi = (W : Int) := by omega
      obtain rfl : hi = (H : Int) := by omega
      rw [hW, hH] at C
      have hWH : W * H ≤ 8 * 8 := Nat.mul_le_mul (by omega) (by omega)
      obtain ⟨T, hT⟩ : ∃ T, W * H = T := ⟨_, rfl⟩
      have e1 : IntKind.i64.wrap ((W : Int) * (H : Int)) = (T : Int) := by rw [← Int.natCast_mul, hT]; exact IntWalk.i64_in _ (by omega)
      have HC := hid C
      have HT := hid hT
      have HX5 := hid (blk_keep HX4.out hb5)
      have hT64 : T ≤ 64 := by omega
      clear C hT hW hH hpl hf hs m1 m2 m3 hm hb5 HDD HQ hWH HX4 HA hB4
      go_wp2_with fail
      refine HC.out.mono ?_
      rintro e w6 ⟨A6, n6, k6, rs6, rfl, hf6, -, -, hd6, hb6⟩
      have hB6 := bnext hB5 hb6
      have HX6 := hid (blk_keep HX5.out hb6)
      have hd6 : frD rs6 = [⟨plainP W H q, 1⟩] := hd6
      have hn6 : n6 = 1 := by
        have := congrArg List.length hd6
        unfold frD at this
        rw [List.length_map, hf6.1] at this
        simpa using this
      subst hn6
      obtain ⟨b6, o6, rfl, hb6b, hat6⟩ := hf6.openT (by omega)
      rw [hd6] at hat6
      obtain ⟨pA, pn, pc, hpx, y0, y1, y2, y3⟩ := hat6 0 _ rfl
      simp only [Nat.zero_mul, Nat.add_zero] at hpx y0 y1 y2 y3
      have hpn : pn = T := by
        have := hpx.1
        rw [← this]
        show (List.replicate (W * H) q).length = T
        rw [List.length_replicate]
        exact HT.out
      subst hpn
      have HPX := hid hpx
      have HX6' := HX6
      clear hf6 hd6 hat6 hpx HC hb6 HX5 hB5 HX6'
      simp only
      rw [show errV 0 = .nilIface from rfl]
      have j0 : (0 : Int) < 1 := by omega
      go_wp2_with fail
      obtain ⟨qv, qa⟩ := q
      have hneq := neq_px_self qv qa
      have hbx6 := (Array.getElem?_eq_some_iff.1 HX6.out).1
      have HY2 := hid y2
      have HB6 := hid hB6
      clear y0 y1 y2 y3 hB6
      go_loopw [13] (fun iv wr => ∃ i : Nat, iv = .int .i64 (i : Int) ∧ i ≤ pn ∧ Hid (Below w6.heap.size w6 wr)) (fun iv _ => pn - (intOf iv).toNat)
      case atStart => exact ⟨0, rfl, by omega, hid (Below.refl _ _)⟩
      case round =>
        obtain ⟨i, rfl, hi, HBr⟩ := hrel
        by_cases hlt2 : i < pn
        · obtain ⟨pb, po, hpA, hpb, hpat⟩ := HPX.out.open_ (by omega)
          subst hpA
          have hil : i < (plainP W H (qv, qa)).p.length := by rw [HPX.out.1]; exact hlt2
          have hpi : (plainP W H (qv, qa)).p[i] = (qv, qa) := List.getElem_replicate ..
          obtain ⟨u0, u1⟩ := hpat.below HBr.out hpb i hil
          rw [hpi] at u0 u1
          simp only at u0 u1
          have z2 := (HBr.out.cell (p := ⟨b6, o6 + 2, none⟩) hb6b).trans HY2.out
          have hxr := blk_keep HX6.out HBr.out
          have x0 := opblk_cell hxr 0 _ rfl
          have x1 := opblk_cell hxr 1 _ rfl
          have i2 : (0 : Int) ≤ (i : Int) := by omega
          have i3 : (i : Int) < (pn : Int) := by omega
          have e2 : IntKind.i64.wrap ((i : Int) + 1) = (i : Int) + 1 := IntWalk.i64_in _ (by omega)
          clear hpat hpi hil hxr
          go_upto_region 22 with fail
          go_quiet (fail)
          go_wp2_with fail
          go_roundw
          case rel => exact ⟨i + 1, by go_num, by omega, hid (below_drewN HBr.out _)⟩
          case measure => simp [intOf]; omega
        · obtain rfl : i = pn := by omega
          have i3 : ¬ (i : Int) < (i : Int) := by omega
          go_wp2_with fail
          go_ret
          exact ⟨rfl, bnext HB6.out HBr.out⟩
theorem topBack_row (w : World) (wi : Int) (_h1 : (Lit.int .i64 wi).wf = true) (hi : Int) (_h2 : (Lit.int .i64 hi).wf = true) (r : FAt (List Px)) (h : Pixs w r.A r.n r.x ∧ r.n ≤ r.c ∧ r.c ≤ maxLen ∧ ∀ q ∈ r.x, Wf q.1 ∧ Wf q.2) :
    Calls Try.prog 10 #[.int .i64 wi, .int .i64 hi, .slice r.A r.n r.c] w (Ret (.bool true) w) :=
  topBack_walk wi hi r.A r.n r.c r.x w h.1 (Nat.le_trans h.2.1 h.2.2.1)
end Fb
