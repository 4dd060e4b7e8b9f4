/- The law TopSame: it returns true. Conditions: none but the arguments' shape. -/
import Derived.Test.YtinlmikkggnljaaHeld
import Derived.Test.YtinlmikkggnljaaReelSame
import Derived.Test.YtinlmikkggnljaaOpen2
import Derived.Test.YtinlmikkggnljaaPicsClosed
import Derived.Test.YtinlmikkggnljaaChunkBytes
import Derived.Deep.DrawnRows
namespace Fb
open Go Go.Proofs Go.RowKit Go.Sort
attribute [local go_sem ↓] Go.wp_at_zero Go.wp_at_succ
theorem chainB_TopSame {w w' W : World} (h : Below w.heap.size w w') (hb : Below w'.heap.size w' W) : Below w.heap.size w W := bnext h hb
theorem same_selfA (pw ph : Int) (l : List Px) (A B : Option Addr) (c d : Nat) (w : World) (ha : Pixs w A l.length l) (hb : Pixs w B l.length l) (hl : l.length ≤ 1000000) :
    Calls Try.prog 19 #[.agg #[.int .i64 pw, .int .i64 ph, .slice A l.length c], .agg #[.int .i64 pw, .int .i64 ph, .slice B l.length d]] w (Ret (.bool true) w) := by
  have h := rsame_pic_any ⟨⟨pw, ph, l⟩, A, l.length, c⟩ ⟨⟨pw, ph, l⟩, B, l.length, d⟩ w ha hb hl hl
  have e : samePic ⟨pw, ph, l⟩ ⟨pw, ph, l⟩ = true := by unfold samePic; simp
  simp only [e] at h
  exact h
def BoxesTopSame (w : World) (pw : Int) (ph : Int) (_pl : List Px) (pA : Option Addr) (pn pc : Nat) (qw : Int) (qh : Int) (_ql : List Px) (qA : Option Addr) (qn qc : Nat) (W : World) : Prop := W.cell? ⟨w.heap.size, 0, none⟩ = some (.int .i64 pw) ∧ W.cell? ⟨w.heap.size, 1, none⟩ = some (.int .i64 ph) ∧ W.cell? ⟨w.heap.size, 2, none⟩ = some (.slice pA pn pc) ∧ W.cell? ⟨w.heap.size + 1, 0, none⟩ = some (.int .i64 qw) ∧ W.cell? ⟨w.heap.size + 1, 1, none⟩ = some (.int .i64 qh) ∧ W.cell? ⟨w.heap.size + 1, 2, none⟩ = some (.slice qA qn qc)
theorem kc_TopSame {w w' : World} {B : Nat} (hb : Below B w w') {b o : Nat} {v : Value} (h : b < B) (hc : w.cell? ⟨b, o, none⟩ = some v) : w'.cell? ⟨b, o, none⟩ = some v := (hb.cell (p := ⟨b, o, none⟩) h).trans hc
theorem BoxesTopSame.below {w W W' : World} {pw : Int} {ph : Int} {pl : List Px} {pA : Option Addr} {pn pc : Nat} {qw : Int} {qh : Int} {ql : List Px} {qA : Option Addr} {qn qc : Nat} (h : BoxesTopSame w pw ph pl pA pn pc qw qh ql qA qn qc W) (hb : Below W.heap.size W W') (hs : w.heap.size + 2 ≤ W.heap.size) : BoxesTopSame w pw ph pl pA pn pc qw qh ql qA qn qc W' := by
  obtain ⟨c0, c1, c2, c3, c4, c5⟩ := h
  exact ⟨kc_TopSame hb (by omega) c0, kc_TopSame hb (by omega) c1, kc_TopSame hb (by omega) c2, kc_TopSame hb (by omega) c3, kc_TopSame hb (by omega) c4, kc_TopSame hb (by omega) c5⟩
set_option maxRecDepth 100000 in
set_option maxHeartbeats 8000000 in
theorem topSame_walk (pw : Int) (ph : Int) (pl : List Px) (pA : Option Addr) (pn pc : Nat) (qw : Int) (qh : Int) (ql : List Px) (qA : Option Addr) (qn qc : Nat) (w : World)  (h_p : Pixs w pA pn pl) (h_q : Pixs w qA qn ql) :
    Calls Try.prog 5 #[.agg #[.int .i64 pw, .int .i64 ph, .slice pA pn pc], .agg #[.int .i64 qw, .int .i64 qh, .slice qA qn qc]] w (Ret (.bool true) w) := by
  have H_p := hid h_p
  clear h_p
  have H_q := hid h_q
  clear h_q
  go_enter Try.func5, Try.ntmps5
  go_upto_region 1 with fail
  obtain ⟨W0, hW0⟩ : ∃ W0, W0 = ((w.alloc (.cells #[.int .i64 pw, .int .i64 ph, .slice pA pn pc] 24)).alloc (.cells #[.int .i64 qw, .int .i64 qh, .slice qA qn qc] 24)) := ⟨_, rfl⟩
  have hB0 : Below w.heap.size w W0 := by rw [hW0]; exact ((Below.refl w.heap.size w).alloc (by simp; try omega) _).alloc (by simp; try omega) _
  have z0 : w.heap.size + 2 ≤ W0.heap.size := by rw [hW0]; simp
  have CE0 : BoxesTopSame w pw ph pl pA pn pc qw qh ql qA qn qc W0 := by rw [hW0]; refine ⟨?_, ?_, ?_, ?_, ?_, ?_⟩ <;> go_simp
  rw [← hW0]
  clear hW0
  have CEH := hid CE0
  clear CE0
  have CE0 := CEH
  clear CEH
  obtain ⟨c0, c1, c2, c3, c4, c5⟩ := CE0.out
  go_upto_region 2 with fail
  obtain ⟨W', hW'⟩ : ∃ W', W' = (W0.alloc (.cells #[.int .i64 1, .int .i64 0] 43)).alloc (.cells #[.int .i64 1, .int .i64 1, .slice (some ⟨W0.heap.size, 0, none⟩) 1 1] 24) := ⟨_, rfl⟩
  rw [← hW']
  have hb : Below W0.heap.size W0 W' := by rw [hW']; exact ((Below.refl _ _).alloc (Nat.le_refl _) _).alloc (by simp) _
  have hF : PicAt (W0.heap.size + 1) 1 1 (some ⟨W0.heap.size, 0, none⟩) 1 1 W' := by rw [hW']; refine ⟨by simp, ?_, ?_, ?_⟩ <;> go_simp
  have hG : Pixs W' (some ⟨W0.heap.size, 0, none⟩) 1 [(1, 0)] := by
    rw [hW']
    exact pixs_blk2 (l := [((1 : Int), (0 : Int))]) (fz := (0, 0)) ((Lib.alloc_old _ _ _ (by simp)).trans (heap_alloc_new W0 _)) rfl
  clear hW'
  obtain ⟨w1, rfl⟩ : ∃ w : World, w = W' := ⟨_, rfl⟩
  clear c0 c1 c2 c3 c4 c5
  have CE1 := hid (CE0.out.below hb z0)
  have hB1 : Below w.heap.size w w1 := bnext hB0 hb
  have z1 : w.heap.size + 2 ≤ w1.heap.size := Nat.le_trans z0 hb.size
  clear hb hB0 z0 CE0
  obtain ⟨c0, c1, c2, c3, c4, c5⟩ := CE1.out
  obtain ⟨gone, hg⟩ : ∃ g, g = W0.heap.size + 1 := ⟨_, rfl⟩
  obtain ⟨pone, hg2⟩ : ∃ g, g = W0.heap.size := ⟨_, rfl⟩
  rw [← hg, ← hg2] at hF
  rw [← hg2] at hG
  rw [← hg, ← hg2]
  clear hg hg2
  have Hone := hid (hF)
  obtain ⟨oz, o0, o1, o2⟩ := Hone.out
  have HoneP := hid (hG)
  clear hF hG
  go_wp2_with fail
  refine (same_pic_any ⟨⟨1, 1, [(1, 0)]⟩, some ⟨pone, 0, none⟩, 1, 1⟩ ⟨⟨1, 1, [(1, 0)]⟩, some ⟨pone, 0, none⟩, 1, 1⟩ _ HoneP.out HoneP.out (by show 1 ≤ 1000000; omega) (by show 1 ≤ 1000000; omega)).mono ?_
  rintro e w2 ⟨rfl, hb⟩
  clear c0 c1 c2 c3 c4 c5 oz o0 o1 o2
  have Hone := hid (Hone.out.below hb)
  have HoneP := hid (HoneP.out.below hb)
  have CE2 := hid (CE1.out.below hb z1)
  have hB2 : Below w.heap.size w w2 := bnext hB1 hb
  have z2 : w.heap.size + 2 ≤ w2.heap.size := Nat.le_trans z1 hb.size
  rw [samePic_self]
  clear hb hB1 z1 CE1
  obtain ⟨c0, c1, c2, c3, c4, c5⟩ := CE2.out
  obtain ⟨oz, o0, o1, o2⟩ := Hone.out
  clear oz o0 o1 o2
  clear Hone
  clear HoneP
  go_wp2_with fail
  refine (lightpic_any ⟨⟨pw, ph, pl⟩, pA, pn, pc⟩ _).mono ?_
  rintro e w3 ⟨rfl, hb⟩
  clear c0 c1 c2 c3 c4 c5
  have CE3 := hid (CE2.out.below hb z2)
  have hB3 : Below w.heap.size w w3 := bnext hB2 hb
  have z3 : w.heap.size + 2 ≤ w3.heap.size := Nat.le_trans z2 hb.size
  clear hb hB2 z2 CE2
  obtain ⟨c0, c1, c2, c3, c4, c5⟩ := CE3.out
  cases hCp : decide (pn ≤ 80)
  case false => (go_wp2_with fail; go_ret; exact ⟨rfl, hB3⟩)
  have np := of_decide_eq_true hCp
  clear hCp
  go_wp2_with fail
  refine (lightpic_any ⟨⟨qw, qh, ql⟩, qA, qn, qc⟩ _).mono ?_
  rintro e w4 ⟨rfl, hb⟩
  clear c0 c1 c2 c3 c4 c5
  have CE4 := hid (CE3.out.below hb z3)
  have hB4 : Below w.heap.size w w4 := bnext hB3 hb
  have z4 : w.heap.size + 2 ≤ w4.heap.size := Nat.le_trans z3 hb.size
  clear hb hB3 z3 CE3
  obtain ⟨c0, c1, c2, c3, c4, c5⟩ := CE4.out
  cases hCq : decide (qn ≤ 80)
  case false => (go_wp2_with fail; go_ret; exact ⟨rfl, hB4⟩)
  have nq := of_decide_eq_true hCq
  clear hCq
  go_wp2_with fail
  refine (piccheck_any ⟨⟨pw, ph, pl⟩, pA, pn, pc⟩ _ (H_p.out.below hB4) (by show pn ≤ 100; omega)).mono ?_
  rintro e w5 ⟨rfl, hb⟩
  clear c0 c1 c2 c3 c4 c5
  have CE5 := hid (CE4.out.below hb z4)
  have hB5 : Below w.heap.size w w5 := bnext hB4 hb
  have z5 : w.heap.size + 2 ≤ w5.heap.size := Nat.le_trans z4 hb.size
  clear hb hB4 z4 CE4
  obtain ⟨c0, c1, c2, c3, c4, c5⟩ := CE5.out
  obtain ⟨F, hF⟩ : ∃ F, picFault ⟨pw, ph, pl⟩ = F := ⟨_, rfl⟩
  simp only [hF]
  have HF_p := hid hF
  clear hF
  cases F
  case succ F => (rw [errV_pos (Nat.succ_ne_zero F)]; go_wp2_with fail; go_ret; exact ⟨rfl, hB5⟩)
  rw [errV_zero]
  go_wp2_with fail
  refine (piccheck_any ⟨⟨qw, qh, ql⟩, qA, qn, qc⟩ _ (H_q.out.below hB5) (by show qn ≤ 100; omega)).mono ?_
  rintro e w6 ⟨rfl, hb⟩
  clear c0 c1 c2 c3 c4 c5
  have CE6 := hid (CE5.out.below hb z5)
  have hB6 : Below w.heap.size w w6 := bnext hB5 hb
  have z6 : w.heap.size + 2 ≤ w6.heap.size := Nat.le_trans z5 hb.size
  clear hb hB5 z5 CE5
  obtain ⟨c0, c1, c2, c3, c4, c5⟩ := CE6.out
  obtain ⟨F, hF⟩ : ∃ F, picFault ⟨qw, qh, ql⟩ = F := ⟨_, rfl⟩
  simp only [hF]
  have HF_q := hid hF
  clear hF
  cases F
  case succ F => (rw [errV_pos (Nat.succ_ne_zero F)]; go_wp2_with fail; go_ret; exact ⟨rfl, hB6⟩)
  rw [errV_zero]
  go_wp2_with fail
  refine (pbytes_any ⟨⟨pw, ph, pl⟩, pA, pn, pc⟩ _ (H_p.out.below hB6) (by show pn ≤ 100; omega)).mono ?_
  rintro e w7 ⟨rfl, hb⟩
  clear c0 c1 c2 c3 c4 c5
  have CE7 := hid (CE6.out.below hb z6)
  have hB7 : Below w.heap.size w w7 := bnext hB6 hb
  have z7 : w.heap.size + 2 ≤ w7.heap.size := Nat.le_trans z6 hb.size
  rw [picBV_ok HF_p.out]
  clear hb hB6 z6 CE6
  obtain ⟨c0, c1, c2, c3, c4, c5⟩ := CE7.out
  go_wp2_with fail
  refine (pbytes_any ⟨⟨qw, qh, ql⟩, qA, qn, qc⟩ _ (H_q.out.below hB7) (by show qn ≤ 100; omega)).mono ?_
  rintro e w8 ⟨rfl, hb⟩
  clear c0 c1 c2 c3 c4 c5
  have CE8 := hid (CE7.out.below hb z7)
  have hB8 : Below w.heap.size w w8 := bnext hB7 hb
  have z8 : w.heap.size + 2 ≤ w8.heap.size := Nat.le_trans z7 hb.size
  rw [picBV_ok HF_q.out]
  clear hb hB7 z7 CE7
  obtain ⟨c0, c1, c2, c3, c4, c5⟩ := CE8.out
  have fp := picFault_fine.1 HF_p.out
  have fq := picFault_fine.1 HF_q.out
  have hinj := hid (fun h => picBytes_inj fp fq h)
  obtain ⟨PB, hPB⟩ : ∃ X, picBytes ⟨pw, ph, pl⟩ = X := ⟨_, rfl⟩
  obtain ⟨QB, hQB⟩ : ∃ X, picBytes ⟨qw, qh, ql⟩ = X := ⟨_, rfl⟩
  have hsame : ((strOf PB).toList == (strOf QB).toList) = samePic ⟨pw, ph, pl⟩ ⟨qw, qh, ql⟩ := by
    rw [strOf_list', strOf_list', Bool.eq_iff_iff, samePic_iff, beq_iff_eq]
    constructor
    · intro h
      apply hinj.out
      rw [hPB, hQB, h]
    · intro h
      rw [← hPB, ← hQB, h]
  rw [hPB, hQB]
  have HS := hid hsame
  clear hPB hQB hinj fp fq hsame
  have F0 := cell_all2 (b := w.heap.size) (o := 0) (by have := z8; omega) c0
  have F1 := cell_all2 (b := w.heap.size) (o := 1) (by have := z8; omega) c1
  have F2 := cell_all2 (b := w.heap.size) (o := 2) (by have := z8; omega) c2
  have F3 := cell_all2 (b := w.heap.size + 1) (o := 0) (by have := z8; omega) c3
  have F4 := cell_all2 (b := w.heap.size + 1) (o := 1) (by have := z8; omega) c4
  have F5 := cell_all2 (b := w.heap.size + 1) (o := 2) (by have := z8; omega) c5
  have hbr := fun dd os => below_regrown w8 dd os
  have r1 := fun dd os => Ret.regrown (same_pic_any ⟨⟨pw, ph, pl⟩, pA, pn, pc⟩ ⟨⟨qw, qh, ql⟩, qA, qn, qc⟩ (grow (redrawn w8 dd) os) (H_p.out.below (bnext hB8 (hbr dd os))) (H_q.out.below (bnext hB8 (hbr dd os))) (by show pn ≤ 1000000; omega) (by show qn ≤ 1000000; omega))
  have r2 := fun dd os => Ret.regrown (same_pic_any ⟨⟨qw, qh, ql⟩, qA, qn, qc⟩ ⟨⟨pw, ph, pl⟩, pA, pn, pc⟩ (grow (redrawn w8 dd) os) (H_q.out.below (bnext hB8 (hbr dd os))) (H_p.out.below (bnext hB8 (hbr dd os))) (by show qn ≤ 1000000; omega) (by show pn ≤ 1000000; omega))
  have r3 := fun dd os => Ret.regrown (same_pic_any ⟨⟨pw, ph, pl⟩, pA, pn, pc⟩ ⟨⟨pw, ph, pl⟩, pA, pn, pc⟩ (grow (redrawn w8 dd) os) (H_p.out.below (bnext hB8 (hbr dd os))) (H_p.out.below (bnext hB8 (hbr dd os))) (by show pn ≤ 1000000; omega) (by show pn ≤ 1000000; omega))
  have hcm := samePic_comm ⟨qw, qh, ql⟩ ⟨pw, ph, pl⟩
  simp only [hcm] at r2
  simp only [samePic_self] at r3
  have HBK := hid hB8
  have hsm := HS.out
  obtain ⟨SB, hSB⟩ : ∃ X, samePic ⟨pw, ph, pl⟩ ⟨qw, qh, ql⟩ = X := ⟨_, rfl⟩
  simp only [hSB] at r1 r2 hsm
  clear hbr hSB hcm HS c0 c1 c2 c3 c4 c5
  cases SB
  case false =>
    go_wp2_with fail
    refine wp_region_quiet_below (by kernel_rfl) (by kernel_rfl) ?_
    iterate 9 (quiet_step (fail))
    quiet_step (exact r1 _ _)
    iterate 3 (quiet_step (fail))
    iterate 5 (quiet_step (fail))
    quiet_step (exact r2 _ _)
    iterate 2 (quiet_step (fail))
    quiet_step (exact r1 _ _)
    iterate 5 (quiet_step (fail))
    quiet_step (exact r3 _ _)
    iterate 2 (quiet_step (fail))
    (refine wpQuiet_nil ?_; intro _ hw'; obtain ⟨⟨dq, osq⟩, hw''⟩ := hw'; subst hw'')
    have hbQ := bnext HBK.out (below_regrown w8 dq osq)
    go_wp2_with fail
    go_ret
    exact ⟨rfl, hbQ⟩
  case true =>
    go_wp2_with fail
    refine wp_region_quiet_below (by kernel_rfl) (by kernel_rfl) ?_
    iterate 9 (quiet_step (fail))
    quiet_step (exact r1 _ _)
    iterate 3 (quiet_step (fail))
    iterate 5 (quiet_step (fail))
    quiet_step (exact r2 _ _)
    iterate 2 (quiet_step (fail))
    quiet_step (exact r1 _ _)
    iterate 5 (quiet_step (fail))
    quiet_step (exact r3 _ _)
    iterate 2 (quiet_step (fail))
    (refine wpQuiet_nil ?_; intro _ hw'; obtain ⟨⟨dq, osq⟩, hw''⟩ := hw'; subst hw'')
    have hbQ := bnext HBK.out (below_regrown w8 dq osq)
    go_wp2_with fail
    go_ret
    exact ⟨rfl, hbQ⟩
theorem topSame_row (w : World) (p : FAt FPic) (hp : PicOk w p) (q : FAt FPic) (hq : PicOk w q) :
    Calls Try.prog 5 #[.agg #[.int .i64 p.x.w, .int .i64 p.x.h, .slice p.A p.n p.c], .agg #[.int .i64 q.x.w, .int .i64 q.x.h, .slice q.A q.n q.c]] w (Ret (.bool true) w) :=
  topSame_walk p.x.w p.x.h p.x.p p.A p.n p.c q.x.w q.x.h q.x.p q.A q.n q.c w hp.1 hq.1 
end Fb
