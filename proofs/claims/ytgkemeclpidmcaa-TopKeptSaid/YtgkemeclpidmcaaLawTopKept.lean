/- The law TopKept: it returns true. Condition: the arguments' shape. Printed by mktopkept.py. -/
import Derived.Test.YtgkemeclpidmcaaOpsKit
import Derived.Test.YtgkemeclpidmcaaOpen2
import Derived.Test.YtgkemeclpidmcaaRows
import Derived.Test.YtgkemeclpidmcaaObjsA
import Derived.Test.YtgkemeclpidmcaaReelLight
import Derived.Test.YtgkemeclpidmcaaStructEq
import Derived.BigQuiet
set_option linter.unusedSimpArgs false
set_option linter.unusedVariables false
namespace Fb
open Go Go.Proofs Go.RowKit Go.Sort
def sameOb (a b : FObj) : Bool := samePic a.pic b.pic && (decide (a.id = b.id) && (decide (a.x = b.x) && (decide (a.y = b.y) && (eqRect a.clip.x a.clip.y a.clip.w a.clip.h b.clip.x b.clip.y b.clip.w b.clip.h && (a.shown == b.shown)))))
theorem sameOb_iff {a b : FObj} : sameOb a b = true ↔ a = b := by
  constructor
  · intro h
    unfold sameOb eqRect at h
    simp only [Bool.and_eq_true, decide_eq_true_eq, beq_iff_eq] at h
    obtain ⟨hp, h1, h2, h3, ⟨h4, h5, h6, h7⟩, h8⟩ := h
    have hp := samePic_iff.1 hp
    obtain ⟨i, x, y, p, ⟨c1, c2, c3, c4⟩, s⟩ := a
    obtain ⟨i', x', y', p', ⟨c1', c2', c3', c4'⟩, s'⟩ := b
    simp only at hp h1 h2 h3 h4 h5 h6 h7 h8
    subst hp h1 h2 h3 h4 h5 h6 h7 h8
    rfl
  · rintro rfl
    unfold sameOb eqRect
    simp [samePic_self]
set_option maxRecDepth 100000 in
set_option maxHeartbeats 800000 in
theorem sameob_0 (ai ax ay : Int) (ap : FPic) (acx acy acw ach : Int) (ash : Bool) (aA : Option Addr) (an ac : Nat) (bi bx by_ : Int) (bp : FPic) (bcx bcy bcw bch : Int) (bsh : Bool) (bA : Option Addr) (bn bc : Nat) (w : World) (ha : Pixs w aA an ap.p) (hb : Pixs w bA bn bp.p) (hn : an ≤ 1000000) (hm : bn ≤ 1000000)  (hP : (samePic ap bp) = false) :
    Calls Try.prog 47 #[.agg #[.int .i64 ai, .int .i64 ax, .int .i64 ay, .int .i64 ap.w, .int .i64 ap.h, .slice aA an ac, .int .i64 acx, .int .i64 acy, .int .i64 acw, .int .i64 ach, .bool ash], .agg #[.int .i64 bi, .int .i64 bx, .int .i64 by_, .int .i64 bp.w, .int .i64 bp.h, .slice bA bn bc, .int .i64 bcx, .int .i64 bcy, .int .i64 bcw, .int .i64 bch, .bool bsh]] w (Ret (.bool false) w) := by
  have Hc := hid (fun W (hB : Below w.heap.size w W) => rsame_pic_any ⟨ap, aA, an, ac⟩ ⟨bp, bA, bn, bc⟩ W (ha.below hB) (hb.below hB) hn hm)
  simp only [hP] at Hc
  clear ha hb hn hm hP
  go_enter Try.func47, Try.ntmps47
  go_wp2_with fail
  refine (Hc.out _ (by (repeat (first | with_reducible exact Below.refl _ _ | with_reducible refine Below.alloc ?_ (by simp; try omega) _ | with_reducible refine Below.setCell ?_ (by simp; try omega) _ | with_reducible refine below_drewN ?_ _ | with_reducible refine Below.drew ?_)))).mono ?_
  rintro e w1 ⟨rfl, hb1⟩
  obtain ⟨hc, hf⟩ := bcell hb1
  have hB1 : Below w.heap.size w w1 := bnext (by (repeat (first | with_reducible exact Below.refl _ _ | with_reducible refine Below.alloc ?_ (by simp; try omega) _ | with_reducible refine Below.setCell ?_ (by simp; try omega) _ | with_reducible refine below_drewN ?_ _ | with_reducible refine Below.drew ?_))) hb1
  go_wp2_with fail
  go_ret
  exact ⟨rfl, hB1⟩
set_option maxRecDepth 100000 in
set_option maxHeartbeats 800000 in
theorem sameob_1 (ai ax ay : Int) (ap : FPic) (acx acy acw ach : Int) (ash : Bool) (aA : Option Addr) (an ac : Nat) (bi bx by_ : Int) (bp : FPic) (bcx bcy bcw bch : Int) (bsh : Bool) (bA : Option Addr) (bn bc : Nat) (w : World) (ha : Pixs w aA an ap.p) (hb : Pixs w bA bn bp.p) (hn : an ≤ 1000000) (hm : bn ≤ 1000000) (hP : (samePic ap bp) = true) (hI : (ai == bi) = false) :
    Calls Try.prog 47 #[.agg #[.int .i64 ai, .int .i64 ax, .int .i64 ay, .int .i64 ap.w, .int .i64 ap.h, .slice aA an ac, .int .i64 acx, .int .i64 acy, .int .i64 acw, .int .i64 ach, .bool ash], .agg #[.int .i64 bi, .int .i64 bx, .int .i64 by_, .int .i64 bp.w, .int .i64 bp.h, .slice bA bn bc, .int .i64 bcx, .int .i64 bcy, .int .i64 bcw, .int .i64 bch, .bool bsh]] w (Ret (.bool false) w) := by
  have Hc := hid (fun W (hB : Below w.heap.size w W) => rsame_pic_any ⟨ap, aA, an, ac⟩ ⟨bp, bA, bn, bc⟩ W (ha.below hB) (hb.below hB) hn hm)
  simp only [hP] at Hc
  clear ha hb hn hm hP
  go_enter Try.func47, Try.ntmps47
  go_wp2_with fail
  refine (Hc.out _ (by (repeat (first | with_reducible exact Below.refl _ _ | with_reducible refine Below.alloc ?_ (by simp; try omega) _ | with_reducible refine Below.setCell ?_ (by simp; try omega) _ | with_reducible refine below_drewN ?_ _ | with_reducible refine Below.drew ?_)))).mono ?_
  rintro e w1 ⟨rfl, hb1⟩
  obtain ⟨hc, hf⟩ := bcell hb1
  have hB1 : Below w.heap.size w w1 := bnext (by (repeat (first | with_reducible exact Below.refl _ _ | with_reducible refine Below.alloc ?_ (by simp; try omega) _ | with_reducible refine Below.setCell ?_ (by simp; try omega) _ | with_reducible refine below_drewN ?_ _ | with_reducible refine Below.drew ?_))) hb1
  go_wp2_with fail
  go_ret
  exact ⟨rfl, hB1⟩
set_option maxRecDepth 100000 in
set_option maxHeartbeats 800000 in
theorem sameob_2 (ai ax ay : Int) (ap : FPic) (acx acy acw ach : Int) (ash : Bool) (aA : Option Addr) (an ac : Nat) (bi bx by_ : Int) (bp : FPic) (bcx bcy bcw bch : Int) (bsh : Bool) (bA : Option Addr) (bn bc : Nat) (w : World) (ha : Pixs w aA an ap.p) (hb : Pixs w bA bn bp.p) (hn : an ≤ 1000000) (hm : bn ≤ 1000000) (hP : (samePic ap bp) = true) (hI : (ai == bi) = true) (hX : (ax == bx) = false) :
    Calls Try.prog 47 #[.agg #[.int .i64 ai, .int .i64 ax, .int .i64 ay, .int .i64 ap.w, .int .i64 ap.h, .slice aA an ac, .int .i64 acx, .int .i64 acy, .int .i64 acw, .int .i64 ach, .bool ash], .agg #[.int .i64 bi, .int .i64 bx, .int .i64 by_, .int .i64 bp.w, .int .i64 bp.h, .slice bA bn bc, .int .i64 bcx, .int .i64 bcy, .int .i64 bcw, .int .i64 bch, .bool bsh]] w (Ret (.bool false) w) := by
  have Hc := hid (fun W (hB : Below w.heap.size w W) => rsame_pic_any ⟨ap, aA, an, ac⟩ ⟨bp, bA, bn, bc⟩ W (ha.below hB) (hb.below hB) hn hm)
  simp only [hP] at Hc
  clear ha hb hn hm hP
  go_enter Try.func47, Try.ntmps47
  go_wp2_with fail
  refine (Hc.out _ (by (repeat (first | with_reducible exact Below.refl _ _ | with_reducible refine Below.alloc ?_ (by simp; try omega) _ | with_reducible refine Below.setCell ?_ (by simp; try omega) _ | with_reducible refine below_drewN ?_ _ | with_reducible refine Below.drew ?_)))).mono ?_
  rintro e w1 ⟨rfl, hb1⟩
  obtain ⟨hc, hf⟩ := bcell hb1
  have hB1 : Below w.heap.size w w1 := bnext (by (repeat (first | with_reducible exact Below.refl _ _ | with_reducible refine Below.alloc ?_ (by simp; try omega) _ | with_reducible refine Below.setCell ?_ (by simp; try omega) _ | with_reducible refine below_drewN ?_ _ | with_reducible refine Below.drew ?_))) hb1
  go_wp2_with fail
  go_ret
  exact ⟨rfl, hB1⟩
set_option maxRecDepth 100000 in
set_option maxHeartbeats 800000 in
theorem sameob_3 (ai ax ay : Int) (ap : FPic) (acx acy acw ach : Int) (ash : Bool) (aA : Option Addr) (an ac : Nat) (bi bx by_ : Int) (bp : FPic) (bcx bcy bcw bch : Int) (bsh : Bool) (bA : Option Addr) (bn bc : Nat) (w : World) (ha : Pixs w aA an ap.p) (hb : Pixs w bA bn bp.p) (hn : an ≤ 1000000) (hm : bn ≤ 1000000) (hP : (samePic ap bp) = true) (hI : (ai == bi) = true) (hX : (ax == bx) = true) (hY : (ay == by_) = false) :
    Calls Try.prog 47 #[.agg #[.int .i64 ai, .int .i64 ax, .int .i64 ay, .int .i64 ap.w, .int .i64 ap.h, .slice aA an ac, .int .i64 acx, .int .i64 acy, .int .i64 acw, .int .i64 ach, .bool ash], .agg #[.int .i64 bi, .int .i64 bx, .int .i64 by_, .int .i64 bp.w, .int .i64 bp.h, .slice bA bn bc, .int .i64 bcx, .int .i64 bcy, .int .i64 bcw, .int .i64 bch, .bool bsh]] w (Ret (.bool false) w) := by
  have Hc := hid (fun W (hB : Below w.heap.size w W) => rsame_pic_any ⟨ap, aA, an, ac⟩ ⟨bp, bA, bn, bc⟩ W (ha.below hB) (hb.below hB) hn hm)
  simp only [hP] at Hc
  clear ha hb hn hm hP
  go_enter Try.func47, Try.ntmps47
  go_wp2_with fail
  refine (Hc.out _ (by (repeat (first | with_reducible exact Below.refl _ _ | with_reducible refine Below.alloc ?_ (by simp; try omega) _ | with_reducible refine Below.setCell ?_ (by simp; try omega) _ | with_reducible refine below_drewN ?_ _ | with_reducible refine Below.drew ?_)))).mono ?_
  rintro e w1 ⟨rfl, hb1⟩
  obtain ⟨hc, hf⟩ := bcell hb1
  have hB1 : Below w.heap.size w w1 := bnext (by (repeat (first | with_reducible exact Below.refl _ _ | with_reducible refine Below.alloc ?_ (by simp; try omega) _ | with_reducible refine Below.setCell ?_ (by simp; try omega) _ | with_reducible refine below_drewN ?_ _ | with_reducible refine Below.drew ?_))) hb1
  go_wp2_with fail
  go_ret
  exact ⟨rfl, hB1⟩
set_option maxRecDepth 100000 in
set_option maxHeartbeats 800000 in
theorem sameob_4 (ai ax ay : Int) (ap : FPic) (acx acy acw ach : Int) (ash : Bool) (aA : Option Addr) (an ac : Nat) (bi bx by_ : Int) (bp : FPic) (bcx bcy bcw bch : Int) (bsh : Bool) (bA : Option Addr) (bn bc : Nat) (w : World) (ha : Pixs w aA an ap.p) (hb : Pixs w bA bn bp.p) (hn : an ≤ 1000000) (hm : bn ≤ 1000000) (hP : (samePic ap bp) = true) (hI : (ai == bi) = true) (hX : (ax == bx) = true) (hY : (ay == by_) = true) (hR : (eqRect acx acy acw ach bcx bcy bcw bch) = false) :
    Calls Try.prog 47 #[.agg #[.int .i64 ai, .int .i64 ax, .int .i64 ay, .int .i64 ap.w, .int .i64 ap.h, .slice aA an ac, .int .i64 acx, .int .i64 acy, .int .i64 acw, .int .i64 ach, .bool ash], .agg #[.int .i64 bi, .int .i64 bx, .int .i64 by_, .int .i64 bp.w, .int .i64 bp.h, .slice bA bn bc, .int .i64 bcx, .int .i64 bcy, .int .i64 bcw, .int .i64 bch, .bool bsh]] w (Ret (.bool false) w) := by
  have Hc := hid (fun W (hB : Below w.heap.size w W) => rsame_pic_any ⟨ap, aA, an, ac⟩ ⟨bp, bA, bn, bc⟩ W (ha.below hB) (hb.below hB) hn hm)
  simp only [hP] at Hc
  clear ha hb hn hm hP
  have heq := fun W => eql_rect acx acy acw ach bcx bcy bcw bch W
  rw [hR] at heq
  clear hR
  go_enter Try.func47, Try.ntmps47
  go_wp2_with fail
  refine (Hc.out _ (by (repeat (first | with_reducible exact Below.refl _ _ | with_reducible refine Below.alloc ?_ (by simp; try omega) _ | with_reducible refine Below.setCell ?_ (by simp; try omega) _ | with_reducible refine below_drewN ?_ _ | with_reducible refine Below.drew ?_)))).mono ?_
  rintro e w1 ⟨rfl, hb1⟩
  obtain ⟨hc, hf⟩ := bcell hb1
  have hB1 : Below w.heap.size w w1 := bnext (by (repeat (first | with_reducible exact Below.refl _ _ | with_reducible refine Below.alloc ?_ (by simp; try omega) _ | with_reducible refine Below.setCell ?_ (by simp; try omega) _ | with_reducible refine below_drewN ?_ _ | with_reducible refine Below.drew ?_))) hb1
  go_wp2_with fail
  go_ret
  exact ⟨rfl, hB1⟩
set_option maxRecDepth 100000 in
set_option maxHeartbeats 800000 in
theorem sameob_5 (ai ax ay : Int) (ap : FPic) (acx acy acw ach : Int) (ash : Bool) (aA : Option Addr) (an ac : Nat) (bi bx by_ : Int) (bp : FPic) (bcx bcy bcw bch : Int) (bsh : Bool) (bA : Option Addr) (bn bc : Nat) (w : World) (ha : Pixs w aA an ap.p) (hb : Pixs w bA bn bp.p) (hn : an ≤ 1000000) (hm : bn ≤ 1000000) (hP : (samePic ap bp) = true) (hI : (ai == bi) = true) (hX : (ax == bx) = true) (hY : (ay == by_) = true) (hR : (eqRect acx acy acw ach bcx bcy bcw bch) = true) (hS : (ash == bsh) = false) :
    Calls Try.prog 47 #[.agg #[.int .i64 ai, .int .i64 ax, .int .i64 ay, .int .i64 ap.w, .int .i64 ap.h, .slice aA an ac, .int .i64 acx, .int .i64 acy, .int .i64 acw, .int .i64 ach, .bool ash], .agg #[.int .i64 bi, .int .i64 bx, .int .i64 by_, .int .i64 bp.w, .int .i64 bp.h, .slice bA bn bc, .int .i64 bcx, .int .i64 bcy, .int .i64 bcw, .int .i64 bch, .bool bsh]] w (Ret (.bool false) w) := by
  have Hc := hid (fun W (hB : Below w.heap.size w W) => rsame_pic_any ⟨ap, aA, an, ac⟩ ⟨bp, bA, bn, bc⟩ W (ha.below hB) (hb.below hB) hn hm)
  simp only [hP] at Hc
  clear ha hb hn hm hP
  have heq := fun W => eql_rect acx acy acw ach bcx bcy bcw bch W
  rw [hR] at heq
  clear hR
  have heb : bsh = !ash := by revert hS; cases ash <;> cases bsh <;> simp
  subst heb
  clear hS
  cases ash
  all_goals
    go_enter Try.func47, Try.ntmps47
    go_wp2_with fail
    refine (Hc.out _ (by (repeat (first | with_reducible exact Below.refl _ _ | with_reducible refine Below.alloc ?_ (by simp; try omega) _ | with_reducible refine Below.setCell ?_ (by simp; try omega) _ | with_reducible refine below_drewN ?_ _ | with_reducible refine Below.drew ?_)))).mono ?_
    rintro e w1 ⟨rfl, hb1⟩
    obtain ⟨hc, hf⟩ := bcell hb1
    have hB1 : Below w.heap.size w w1 := bnext (by (repeat (first | with_reducible exact Below.refl _ _ | with_reducible refine Below.alloc ?_ (by simp; try omega) _ | with_reducible refine Below.setCell ?_ (by simp; try omega) _ | with_reducible refine below_drewN ?_ _ | with_reducible refine Below.drew ?_))) hb1
    go_wp2_with fail
    go_ret
    exact ⟨rfl, hB1⟩
set_option maxRecDepth 100000 in
set_option maxHeartbeats 800000 in
theorem sameob_6 (ai ax ay : Int) (ap : FPic) (acx acy acw ach : Int) (ash : Bool) (aA : Option Addr) (an ac : Nat) (bi bx by_ : Int) (bp : FPic) (bcx bcy bcw bch : Int) (bsh : Bool) (bA : Option Addr) (bn bc : Nat) (w : World) (ha : Pixs w aA an ap.p) (hb : Pixs w bA bn bp.p) (hn : an ≤ 1000000) (hm : bn ≤ 1000000) (hP : (samePic ap bp) = true) (hI : (ai == bi) = true) (hX : (ax == bx) = true) (hY : (ay == by_) = true) (hR : (eqRect acx acy acw ach bcx bcy bcw bch) = true) (hS : (ash == bsh) = true) :
    Calls Try.prog 47 #[.agg #[.int .i64 ai, .int .i64 ax, .int .i64 ay, .int .i64 ap.w, .int .i64 ap.h, .slice aA an ac, .int .i64 acx, .int .i64 acy, .int .i64 acw, .int .i64 ach, .bool ash], .agg #[.int .i64 bi, .int .i64 bx, .int .i64 by_, .int .i64 bp.w, .int .i64 bp.h, .slice bA bn bc, .int .i64 bcx, .int .i64 bcy, .int .i64 bcw, .int .i64 bch, .bool bsh]] w (Ret (.bool true) w) := by
  have Hc := hid (fun W (hB : Below w.heap.size w W) => rsame_pic_any ⟨ap, aA, an, ac⟩ ⟨bp, bA, bn, bc⟩ W (ha.below hB) (hb.below hB) hn hm)
  simp only [hP] at Hc
  clear ha hb hn hm hP
  have heq := fun W => eql_rect acx acy acw ach bcx bcy bcw bch W
  rw [hR] at heq
  clear hR
  have heb : ash = bsh := by simpa using hS
  subst heb
  clear hS
  go_enter Try.func47, Try.ntmps47
  go_wp2_with fail
  refine (Hc.out _ (by (repeat (first | with_reducible exact Below.refl _ _ | with_reducible refine Below.alloc ?_ (by simp; try omega) _ | with_reducible refine Below.setCell ?_ (by simp; try omega) _ | with_reducible refine below_drewN ?_ _ | with_reducible refine Below.drew ?_)))).mono ?_
  rintro e w1 ⟨rfl, hb1⟩
  obtain ⟨hc, hf⟩ := bcell hb1
  have hB1 : Below w.heap.size w w1 := bnext (by (repeat (first | with_reducible exact Below.refl _ _ | with_reducible refine Below.alloc ?_ (by simp; try omega) _ | with_reducible refine Below.setCell ?_ (by simp; try omega) _ | with_reducible refine below_drewN ?_ _ | with_reducible refine Below.drew ?_))) hb1
  go_wp2_with fail
  go_ret
  exact ⟨rfl, hB1⟩
theorem sameobj_any (r s : FAt FObj) (w : World) (hr : Pixs w r.A r.n r.x.pic.p) (hs : Pixs w s.A s.n s.x.pic.p) (hn : r.n ≤ 1000000) (hm : s.n ≤ 1000000) :
    Calls Try.prog 47 #[.agg #[.int .i64 r.x.id, .int .i64 r.x.x, .int .i64 r.x.y, .int .i64 r.x.pic.w, .int .i64 r.x.pic.h, .slice r.A r.n r.c, .int .i64 r.x.clip.x, .int .i64 r.x.clip.y, .int .i64 r.x.clip.w, .int .i64 r.x.clip.h, .bool r.x.shown], .agg #[.int .i64 s.x.id, .int .i64 s.x.x, .int .i64 s.x.y, .int .i64 s.x.pic.w, .int .i64 s.x.pic.h, .slice s.A s.n s.c, .int .i64 s.x.clip.x, .int .i64 s.x.clip.y, .int .i64 s.x.clip.w, .int .i64 s.x.clip.h, .bool s.x.shown]] w (Ret (.bool (sameOb r.x s.x)) w) := by
  obtain ⟨⟨ai, ax, ay, ap, ⟨acx, acy, acw, ach⟩, ash⟩, aA, an, ac⟩ := r
  obtain ⟨⟨bi, bx, by_, bp, ⟨bcx, bcy, bcw, bch⟩, bsh⟩, bA, bn, bc⟩ := s
  simp only at hr hs hn hm ⊢
  unfold sameOb
  simp only
  cases hP : (samePic ap bp)
  · exact sameob_0 ai ax ay ap acx acy acw ach ash aA an ac bi bx by_ bp bcx bcy bcw bch bsh bA bn bc w hr hs hn hm  hP
  cases hI : (decide (ai = bi))
  · exact sameob_1 ai ax ay ap acx acy acw ach ash aA an ac bi bx by_ bp bcx bcy bcw bch bsh bA bn bc w hr hs hn hm hP hI
  cases hX : (decide (ax = bx))
  · exact sameob_2 ai ax ay ap acx acy acw ach ash aA an ac bi bx by_ bp bcx bcy bcw bch bsh bA bn bc w hr hs hn hm hP hI hX
  cases hY : (decide (ay = by_))
  · exact sameob_3 ai ax ay ap acx acy acw ach ash aA an ac bi bx by_ bp bcx bcy bcw bch bsh bA bn bc w hr hs hn hm hP hI hX hY
  cases hR : (eqRect acx acy acw ach bcx bcy bcw bch)
  · exact sameob_4 ai ax ay ap acx acy acw ach ash aA an ac bi bx by_ bp bcx bcy bcw bch bsh bA bn bc w hr hs hn hm hP hI hX hY hR
  cases hS : (ash == bsh)
  · exact sameob_5 ai ax ay ap acx acy acw ach ash aA an ac bi bx by_ bp bcx bcy bcw bch bsh bA bn bc w hr hs hn hm hP hI hX hY hR hS
  exact sameob_6 ai ax ay ap acx acy acw ach ash aA an ac bi bx by_ bp bcx bcy bcw bch bsh bA bn bc w hr hs hn hm hP hI hX hY hR hS
/-- two lists of the same objects -/
def SameObs (rs ss : List (FAt FObj)) : Prop := dat rs = dat ss
set_option maxRecDepth 100000 in
set_option maxHeartbeats 1600000 in
theorem sameobjs_true (A B : Option Addr) (n m c d : Nat) (rs ss : List (FAt FObj)) (w : World) (hr : Objs w A n rs) (hs : Objs w B m ss) (he : dat rs = dat ss) (hn : n ≤ 1000) (hp : ∀ r ∈ rs, r.n ≤ 1000000) (hq : ∀ r ∈ ss, r.n ≤ 1000000) :
    Calls Try.prog 26 #[.slice A n c, .slice B m d] w (Ret (.bool true) w) := by
  have Hl := hid hr.1
  have Hm := hid hs.1
  obtain rfl : n = m := by
    rw [← hr.1, ← hs.1, ← dat_len rs, ← dat_len ss, he]
  have HA := hid hr
  have HS := hid hs
  have HE := hid he
  have HP := hid hp
  have HQ := hid hq
  clear hr hs he hp hq
  go_enter Try.func26, Try.ntmps26
  go_wp2_with fail
  go_loopw [5] (fun i wr => ∃ k : Nat, k ≤ n ∧ i = .int .i64 k ∧ Below w.heap.size w wr) (fun i _ => n - (intOf i).toNat)
  case atStart => exact ⟨0, by omega, rfl, Below.refl _ _⟩
  case round =>
    obtain ⟨k, hk, rfl, hbel⟩ := hrel
    by_cases hlt : k < n
    · have k1 : k < rs.length := by rw [Hl.out]; exact hlt
      have k2 : k < ss.length := by rw [Hm.out]; exact hlt
      obtain ⟨b, off, rfl, hbs, hc⟩ := HA.out.open_ (by omega)
      obtain ⟨b', off', rfl, hbs', hc'⟩ := HS.out.open_ (by omega)
      have C1 := hc.cells hbel hbs k1
      have C2 := hc'.cells hbel hbs' k2
      have hx : rs[k].x = ss[k].x := by
        have e := congrArg (fun l => l[k]?) HE.out
        simp only [dat, List.getElem?_map, List.getElem?_eq_getElem k1, List.getElem?_eq_getElem k2, Option.map_some, Option.some.injEq] at e
        exact e
      have p1 := (HA.out.2.2 rs[k] (List.getElem_mem k1)).below hbel
      have p2 := (HS.out.2.2 ss[k] (List.getElem_mem k2)).below hbel
      have n1 := HP.out rs[k] (List.getElem_mem k1)
      have n2 := HQ.out ss[k] (List.getElem_mem k2)
      have q1 : (0 : Int) ≤ (k : Int) := by omega
      have q2 : (k : Int) < (n : Int) := by omega
      have hs1 : b < wr.heap.size := Nat.lt_of_lt_of_le hbs hbel.size
      have hs2 : b' < wr.heap.size := Nat.lt_of_lt_of_le hbs' hbel.size
      generalize rs[k] = r at *
      generalize ss[k] = s at *
      have hcall := fun dd os => Ret.regrown (sameobj_any r s (grow (redrawn wr dd) os) (p1.below (below_regrown wr dd os)) (p2.below (below_regrown wr dd os)) n1 n2)
      rw [show sameOb r.x s.x = true from sameOb_iff.2 hx] at hcall
      obtain ⟨d0, d1, d2, d3, d4, d5, d6, d7, d8, d9, d10⟩ := C1
      obtain ⟨e0, e1, e2, e3, e4, e5, e6, e7, e8, e9, e10⟩ := C2
      have D0 := cell_all2 hs1 d0
      have E0 := cell_all2 hs2 e0
      have D1 := cell_all2 hs1 d1
      have E1 := cell_all2 hs2 e1
      have D2 := cell_all2 hs1 d2
      have E2 := cell_all2 hs2 e2
      have D3 := cell_all2 hs1 d3
      have E3 := cell_all2 hs2 e3
      have D4 := cell_all2 hs1 d4
      have E4 := cell_all2 hs2 e4
      have D5 := cell_all2 hs1 d5
      have E5 := cell_all2 hs2 e5
      have D6 := cell_all2 hs1 d6
      have E6 := cell_all2 hs2 e6
      have D7 := cell_all2 hs1 d7
      have E7 := cell_all2 hs2 e7
      have D8 := cell_all2 hs1 d8
      have E8 := cell_all2 hs2 e8
      have D9 := cell_all2 hs1 d9
      have E9 := cell_all2 hs2 e9
      have D10 := cell_all2 hs1 d10
      have E10 := cell_all2 hs2 e10
      clear d0 d1 d2 d3 d4 d5 d6 d7 d8 d9 d10 e0 e1 e2 e3 e4 e5 e6 e7 e8 e9 e10 hx p1 p2 n1 n2 hc hc' k1 k2
      go_wp2_with fail
      refine wp_region_quiet_below (by kernel_rfl) (by kernel_rfl) ?_
      repeat (go_big_quiet_step (exact hcall _ _))
      (refine wpQuiet_nil ?_; intro _ hw'; obtain ⟨⟨dq, osq⟩, hw''⟩ := hw'; subst hw'')
      have hb3 := bnext hbel (below_regrown wr dq osq)
      clear hcall D0 D1 D2 D3 D4 D5 D6 D7 D8 D9 D10 E0 E1 E2 E3 E4 E5 E6 E7 E8 E9 E10
      generalize grow (redrawn wr dq) osq = w3 at *
      go_wp2_with fail
      go_roundw
      case rel => exact ⟨k + 1, by omega, by go_num, hb3⟩
      case measure => simp [intOf]; omega
    · go_wp2_with fail
      go_ret
      exact ⟨rfl, hbel⟩
end Fb
namespace Fb
open Go Go.Proofs Go.RowKit Go.Sort
attribute [local go_sem ↓] Go.wp_at_zero Go.wp_at_succ
theorem datO_append (a b : List (FAt FOp)) : datO (a ++ b) = datO a ++ datO b := by unfold datO; rw [List.map_append]
theorem datO_bare (os : List FOp) : datO (os.map bareR) = os := by unfold datO; rw [List.map_map]; exact List.map_id' os
/-! ## the plain law -/
def saveOp : FOp := ⟨14, 0, 0, 0, 0, 0, ⟨0, 0, []⟩⟩
def seekOp : FOp := ⟨15, 0, 0, 0, 0, 0, ⟨0, 0, []⟩⟩
theorem coreO_saved {W H : Nat} {c : MC} {o : FOp} (h : o.kind ≠ 14) : (coreO W H c o).1.saved = c.saved := by
  unfold coreO
  by_cases h1 : o.kind = 1
  · rw [if_pos h1]
  · rw [if_neg h1]
    by_cases h2 : o.kind = 10
    · rw [if_pos h2]
    · rw [if_neg h2]
      by_cases h3 : o.kind = 11
      · rw [if_pos h3]
        split <;> rfl
      · rw [if_neg h3, if_neg h]
        by_cases h5 : o.kind = 15
        · rw [if_pos h5]
        · rw [if_neg h5]
          split <;> rfl
/-- behind j of the ops from the save on: what was kept -/
structure KeptAt (nb : Nat) (O : List FObj) (j : Nat) (c : MC) : Prop where
  start : j = 0 → c.objs = O
  saved : 1 ≤ j → c.saved = O
  back : j = nb + 2 → c.objs = O
def keptL (hd bd : List FOp) : List FOp := [headOp 3 2] ++ hd ++ (saveOp :: (bd ++ [seekOp, endOp]))
theorem kept_save {hd bd : List FOp} {M : Nat} (hM : hd.length + 1 = M) : opAt (keptL hd bd) M = saveOp := by
  have := opAt_behind (a := [headOp 3 2] ++ hd) (b := saveOp :: (bd ++ [seekOp, endOp])) (n := M) (i := 0) (by simp; omega)
  rw [Nat.add_zero] at this
  exact this
theorem kept_body {hd bd : List FOp} {M k : Nat} (hM : hd.length + 1 = M) (hk : k < bd.length) : opAt (keptL hd bd) (M + (k + 1)) = opAt bd k := by
  have := opAt_behind (a := [headOp 3 2] ++ hd) (b := saveOp :: (bd ++ [seekOp, endOp])) (n := M) (i := k + 1) (by simp; omega)
  exact this.trans (opAt_append_left (a := bd) (b := [seekOp, endOp]) hk)
theorem kept_seek {hd bd : List FOp} {M : Nat} (hM : hd.length + 1 = M) : opAt (keptL hd bd) (M + (bd.length + 1)) = seekOp := by
  have := opAt_behind (a := [headOp 3 2] ++ hd) (b := saveOp :: (bd ++ [seekOp, endOp])) (n := M) (i := bd.length + 1) (by simp; omega)
  exact this.trans (opAt_append_right (a := bd) (b := [seekOp, endOp]) (i := 0))
theorem kept_end {hd bd : List FOp} {M : Nat} (hM : hd.length + 1 = M) : opAt (keptL hd bd) (M + (bd.length + 2)) = endOp := by
  have := opAt_behind (a := [headOp 3 2] ++ hd) (b := saveOp :: (bd ++ [seekOp, endOp])) (n := M) (i := bd.length + 2) (by simp; omega)
  exact this.trans (opAt_append_right (a := bd) (b := [seekOp, endOp]) (i := 1))
theorem kept_head {hd bd : List FOp} {i : Nat} (hi : i < hd.length) : opAt (keptL hd bd) (i + 1) = opAt hd i := by
  unfold keptL
  rw [List.append_assoc]
  have := opAt_behind (a := [headOp 3 2]) (b := hd ++ (saveOp :: (bd ++ [seekOp, endOp]))) (n := 1) (i := i) rfl
  rw [Nat.add_comm i 1]
  exact this.trans (opAt_append_left hi)
theorem opAt_mem {l : List FOp} {i : Nat} (h : i < l.length) : opAt l i ∈ l := by rw [opAt_get h]; exact List.getElem_mem h
theorem kept_plain {hd bd : List FOp} {M i : Nat} (hM : hd.length + 1 = M) (p1 : plainB hd = true) (p2 : plainB bd = true) (hi : i < M + (bd.length + 2)) : plainK (opAt (keptL hd bd) i).kind := by
  have q1 := plainB_iff.1 p1
  have q2 := plainB_iff.1 p2
  by_cases h1 : i = 0
  · subst h1; exact ⟨show ¬ (1 : Int) = 16 by decide, show ¬ (1 : Int) = 12 by decide, show ¬ (1 : Int) = 13 by decide⟩
  by_cases h2 : i < M
  · obtain ⟨k, rfl⟩ : ∃ k, i = k + 1 := ⟨i - 1, by omega⟩
    rw [kept_head (by omega)]
    exact (q1 _ (opAt_mem (by omega))).1
  by_cases h3 : i = M
  · subst h3; rw [kept_save hM]; exact ⟨show ¬ (14 : Int) = 16 by decide, show ¬ (14 : Int) = 12 by decide, show ¬ (14 : Int) = 13 by decide⟩
  by_cases h4 : i < M + (bd.length + 1)
  · obtain ⟨k, rfl⟩ : ∃ k, i = M + (k + 1) := ⟨i - M - 1, by omega⟩
    rw [kept_body hM (by omega)]
    exact (q2 _ (opAt_mem (by omega))).1
  · obtain rfl : i = M + (bd.length + 1) := by omega
    rw [kept_seek hM]
    exact ⟨show ¬ (15 : Int) = 16 by decide, show ¬ (15 : Int) = 12 by decide, show ¬ (15 : Int) = 13 by decide⟩
theorem kept_step {hd bd : List FOp} {M j : Nat} {O : List FObj} {c : MC} {W H : Nat} (hM : hd.length + 1 = M) (hno : ∀ o ∈ bd, o.kind ≠ 14) (hj : j < bd.length + 2) (h : KeptAt bd.length O j c) : KeptAt bd.length O (j + 1) (coreO W H c (opAt (keptL hd bd) (M + j))).1 := by
  by_cases h0 : j = 0
  · subst h0
    rw [show opAt (keptL hd bd) (M + 0) = saveOp from kept_save hM]
    exact ⟨fun e => by omega, fun _ => h.start rfl, fun e => by omega⟩
  by_cases h1 : j < bd.length + 1
  · obtain ⟨k, rfl⟩ : ∃ k, j = k + 1 := ⟨j - 1, by omega⟩
    rw [kept_body hM (by omega)]
    refine ⟨fun e => by omega, fun _ => ?_, fun e => by omega⟩
    rw [coreO_saved (hno _ (opAt_mem (by omega)))]
    exact h.saved (by omega)
  · obtain rfl : j = bd.length + 1 := by omega
    rw [kept_seek hM]
    exact ⟨fun e => by omega, fun _ => h.saved (by omega), fun _ => h.saved (by omega)⟩
/-! ## what was read stays -/
theorem Row.kept {Z : Nat → Prop} {w w' : World} {A : Option Addr} {n size : Nat} {cs : List Value} (hf : FarR Z A n) (h : Row w A n size cs) (hk : KeepM Z w w') : Row w' A n size cs :=
  ⟨h.1, fun hn => by
    obtain ⟨b, off, e, hb, hc⟩ := h.2 hn
    exact ⟨b, off, e, Nat.lt_of_lt_of_le hb hk.size, fun j u hu => (World.cell?_of_block (a := ⟨b, off + j, none⟩) (hk.block b hb (hf hn _ e))).trans (hc j u hu)⟩⟩
theorem FObjs.kept {Z Z' : Nat → Prop} {w w' : World} {A : Option Addr} {n : Nat} {rs : List (FAt FObj)} (h : FObjs Z w A n rs) (hk : KeepM Z w w') (hz : ∀ b, Z' b → Z b ∨ w.heap.size ≤ b) : FObjs Z' w' A n rs :=
  ⟨⟨h.objs.1, h.objs.2.1.kept h.far hk, fun r hr => ⟨(h.objs.2.2 r hr).1, (h.objs.2.2 r hr).2.kept (h.pics r hr) hk⟩⟩, h.far.more h.objs.2.1 hz, fun r hr => (h.pics r hr).more (h.objs.2.2 r hr).2 hz⟩
theorem objs_small {l : List FObj} (h : ObjsFine l) : ∀ x ∈ l, x.pic.p.length ≤ 1000000 := fun x hx => by
  have h1 := h.2 x hx
  have h2 := pic_len h1.2.2
  omega
theorem lens_ofK {w : World} {A : Option Addr} {n : Nat} {rs : List (FAt FObj)} {P : List FObj} (h : Objs w A n rs) (hd : dat rs = P) (hl : ∀ x ∈ P, x.pic.p.length ≤ 1000000) : ∀ r ∈ rs, r.n ≤ 1000000 := fun r hr => by
  have h1 := (h.2.2 r hr).1
  have h2 := hl r.x (by rw [← hd]; exact List.mem_map.2 ⟨r, hr, rfl⟩)
  omega
set_option maxRecDepth 100000 in
set_option maxHeartbeats 32000000 in
theorem topKept_walk (A : Option Addr) (n c : Nat) (rs : List (FAt FOp)) (A0 : Option Addr) (nb cb : Nat) (rb : List (FAt FOp)) (w : World) (hl : Ops w A n rs) (hl2 : Ops w A0 nb rb) (hn : n ≤ maxLen) (hn2 : nb ≤ maxLen) :
    Calls Try.prog 12 #[.slice A n c, .slice A0 nb cb] w (Ret (.bool true) w) := by
  have HL := hid hl
  have HL2 := hid hl2
  have hlen := hl.1
  have hlen2 := hl2.1
  clear hl hl2
  go_enter Try.func12, Try.ntmps12
  go_wp2_with fail
  refine (mworks_any w).mono ?_
  rintro e w1 ⟨rfl, hb1⟩
  by_cases h20 : 20 < n
  · have i30 : (20 : Int) < (n : Int) := by omega
    go_wp2_with fail
    go_ret
    exact ⟨rfl, hb1⟩
  have i_h20 : ¬ (20 : Int) < (n : Int) := by omega
  by_cases h21 : 20 < nb
  · have i30 : (20 : Int) < (nb : Int) := by omega
    go_wp2_with fail
    go_ret
    exact ⟨rfl, hb1⟩
  have i_h21 : ¬ (20 : Int) < (nb : Int) := by omega
  go_wp2_with fail
  refine (mplain_any A n c rs w1 (HL.out.below hb1) (by omega)).mono ?_
  rintro e wp0 ⟨rfl, hbx0⟩
  have hBx0 := bnext hb1 hbx0
  by_cases p1 : plainB (datO rs) = true
  case neg =>
    rw [show plainB (datO rs) = false by simpa using p1]
    go_wp2_with fail
    go_ret
    exact ⟨rfl, hBx0⟩
  rw [p1]
  go_wp2_with fail
  refine (mplain_any A0 nb cb rb wp0 (HL2.out.below hBx0) (by omega)).mono ?_
  rintro e wp1 ⟨rfl, hbx1⟩
  have hBx1 := bnext hBx0 hbx1
  by_cases p2 : plainB (datO rb) = true
  case neg =>
    rw [show plainB (datO rb) = false by simpa using p2]
    go_wp2_with fail
    go_ret
    exact ⟨rfl, hBx1⟩
  rw [p2]
  have HB0 := hid hBx1
  obtain ⟨w0, rfl⟩ : ∃ w0 : World, w0 = wp1 := ⟨_, rfl⟩
  clear hb1 hbx0 hbx1 hBx0 hBx1
  go_wp2_with fail
  go_loopw [6] (fun iv wr => ∃ k : Nat, iv = .int .i64 (k : Int) ∧ k ≤ nb ∧ Hid (∀ j (h : j < rb.length), j < k → rb[j].x.kind ≠ 14) ∧ wr = w0) (fun iv _ => nb - (intOf iv).toNat)
  case atStart => exact ⟨0, rfl, by omega, hid (fun j _ h => by omega), rfl⟩
  case round =>
    obtain ⟨k, rfl, hk, HNO, rfl⟩ := hrel
    by_cases hlt : k < nb
    · obtain ⟨b0, o0, hA0, hb0, hat⟩ := Ops.open_ HL2.out (by omega)
      have hkr : k < rb.length := by omega
      have hc := (OpCells.below (hat k hkr) HB0.out hb0).1
      obtain ⟨kk, hkk⟩ : ∃ kk, rb[k].x.kind = kk := ⟨_, rfl⟩
      rw [hkk] at hc
      have HKK := hid hkk
      clear hkk hat
      subst hA0
      have i1 : (0 : Int) ≤ (k : Int) := by omega
      have i2 : (k : Int) < (nb : Int) := by omega
      have e1 : IntKind.i64.wrap ((k : Int) + 1) = (k : Int) + 1 := IntWalk.i64_in _ (by omega)
      by_cases h14 : kk = 14
      · subst h14
        go_wp2_with fail
        go_ret
        exact ⟨rfl, HB0.out⟩
      · have b1 : (kk == 14) = false := by simp [h14]
        go_wp2_with fail
        go_roundw
        case rel => exact ⟨k + 1, by go_num, by omega, hid (fun j h1 h2 => by
          by_cases hj : j = k
          · subst hj; rw [HKK.out]; exact h14
          · exact HNO.out j h1 (by omega)), trivial⟩
        case measure => simp [intOf]; omega
    · obtain rfl : k = nb := by omega
      have i2 : ¬ (k : Int) < (k : Int) := by omega
      have hno : ∀ o ∈ datO rb, o.kind ≠ 14 := fun o ho => by
        unfold datO at ho
        obtain ⟨r, hr, rfl⟩ := List.mem_map.1 ho
        obtain ⟨j, hj, e⟩ := List.mem_iff_getElem.1 hr
        rw [← e]
        exact HNO.out j hj (by omega)
      have HNO2 := hid hno
      have hB2 := HB0.out
      clear hno HNO HB0
      have hz2 := hB2.size
      obtain ⟨BB, hBB⟩ : ∃ BB, BB = wr.heap.size := ⟨_, rfl⟩
      have hwB : w.heap.size ≤ BB := by omega
      have hal := (Below.refl wr.heap.size wr).alloc (Nat.le_refl _) (.cells #[.int .i64 1, .int .i64 0, .int .i64 3, .int .i64 2, .int .i64 0, .int .i64 0, .int .i64 0, .int .i64 0, .slice none 0 0] 51)
      have hown : OwnL wr.heap.size _ (some ⟨wr.heap.size, 0, none⟩) 1 1 ([headOp 3 2].map bareR) := OwnL.lit wr [headOp 3 2] #[.int .i64 1, .int .i64 0, .int .i64 3, .int .i64 2, .int .i64 0, .int .i64 0, .int .i64 0, .int .i64 0, .slice none 0 0] rfl (by simp) (by simp [headOp])
      have hB2a := bnext hB2 hal
      have hsrc := HL.out.below hB2a
      have HBB := hid hBB
      clear hBB
      go_wp2_with (at_builtin; refine wpList_append_ops _ rfl (.tmp 48) (.tmp 49) rfl wr.heap.size _ _ _ ([headOp 3 2].map bareR) rs rfl hown A n c rfl hsrc (by omega) apart_bare (apart_low HL.out.2.2 hz2 hown.own) ?_)
      intro A3 k3 w3 hown3 hg3 _
      have hB3 := OwnL.after hB2a hown hz2 hg3
      clear hown hal hB2a hg3 hsrc
      obtain ⟨R, hR⟩ : ∃ R, [headOp 3 2].map bareR ++ rs = R := ⟨_, rfl⟩
      obtain ⟨M, hM⟩ : ∃ M, 1 + n = M := ⟨_, rfl⟩
      have HMM := hid hM
      have hM21 : M ≤ 21 := by omega
      have HO3 : OwnL BB w3 A3 M k3 R := by rw [← hR, ← hM, HBB.out]; exact hown3
      rw [hM]
      have hpR : Hid (∀ W : World, ∀ xs : List Value, ∀ (A' : Option Addr) (n' c' : Nat), W.ownsRow BB 51 9 (.slice A' n' c') n' xs → Apart W (Value.slice A' n' c').ownBlock R) := hid (fun W xs A' n' c' ho => by
        rw [← hR]
        exact apart_append apart_bare (apart_low HL.out.2.2 hwB ho))
      have hpB : Hid (∀ W : World, ∀ xs : List Value, ∀ (A' : Option Addr) (n' c' : Nat), W.ownsRow BB 51 9 (.slice A' n' c') n' xs → Apart W (Value.slice A' n' c').ownBlock rb) := hid (fun W xs A' n' c' ho => apart_low HL2.out.2.2 hwB ho)
      clear hown3 hM
      -- the save
      have hal3 := (Below.refl w3.heap.size w3).alloc (Nat.le_refl _) (.cells #[.int .i64 14, .int .i64 0, .int .i64 0, .int .i64 0, .int .i64 0, .int .i64 0, .int .i64 0, .int .i64 0, .slice none 0 0] 51)
      have hsrc3 : Ops _ (some ⟨w3.heap.size, 0, none⟩) 1 ([saveOp].map bareR) := (OwnL.lit w3 [saveOp] #[.int .i64 14, .int .i64 0, .int .i64 0, .int .i64 0, .int .i64 0, .int .i64 0, .int .i64 0, .int .i64 0, .slice none 0 0] rfl (by simp) (by simp [saveOp])).ops
      have HO3a := HO3.below hal3
      have hB3a := bnext hB3 hal3
      go_wp2_with (at_builtin; refine wpList_append_ops _ rfl (.tmp 53) (.tmp 55) rfl BB _ _ _ R ([saveOp].map bareR) rfl HO3a _ 1 1 rfl hsrc3 (by omega) (hpR.out _ _ _ _ _ HO3a.own) apart_bare ?_)
      intro A4 k4 w4 hown4 hg4 _
      have hB4 := OwnL.after hB3a HO3a hwB hg4
      clear HO3 hal3 hB3a hg4 hsrc3 HO3a hB3
      obtain ⟨R4, hR4⟩ : ∃ R4, R ++ [saveOp].map bareR = R4 := ⟨_, rfl⟩
      have hown4' : OwnL BB w4 A4 (M + 1) k4 R4 := by rw [← hR4]; exact hown4
      have hpR4 : Hid (∀ W : World, ∀ xs : List Value, ∀ (A' : Option Addr) (n' c' : Nat), W.ownsRow BB 51 9 (.slice A' n' c') n' xs → Apart W (Value.slice A' n' c').ownBlock R4) := hid (fun W xs A' n' c' ho => by
        rw [← hR4]
        exact apart_append (hpR.out _ _ _ _ _ ho) apart_bare)
      have HR4 := hid hR4
      clear hown4 hR4 hpR
      have hsrc4 := HL2.out.below hB4
      go_wp2_with (at_builtin; refine wpList_append_ops _ rfl (.tmp 56) (.tmp 57) rfl BB _ _ _ R4 rb rfl hown4' A0 k cb rfl hsrc4 (by omega) (hpR4.out _ _ _ _ _ hown4'.own) (hpB.out _ _ _ _ _ hown4'.own) ?_)
      intro A5 k5 w5 hown5 hg5 _
      have hB5 := OwnL.after hB4 hown4' hwB hg5
      obtain ⟨R5, hR5⟩ : ∃ R5, R4 ++ rb = R5 := ⟨_, rfl⟩
      obtain ⟨M5, hM5⟩ : ∃ M5, M + 1 + k = M5 := ⟨_, rfl⟩
      have hown5' : OwnL BB w5 A5 M5 k5 R5 := by rw [← hR5, ← hM5]; exact hown5
      have hpR5 : Hid (∀ W : World, ∀ xs : List Value, ∀ (A' : Option Addr) (n' c' : Nat), W.ownsRow BB 51 9 (.slice A' n' c') n' xs → Apart W (Value.slice A' n' c').ownBlock R5) := hid (fun W xs A' n' c' ho => by
        rw [← hR5]
        exact apart_append (hpR4.out _ _ _ _ _ ho) (hpB.out _ _ _ _ _ ho))
      have hM541 : M5 ≤ 42 := by omega
      rw [hM5]
      have HR5 := hid hR5
      have HM5 := hid hM5
      clear hown5 hR5 hM5 hown4' hg5 hsrc4 hB4 hpR4 hpB
      have hal5 := (Below.refl w5.heap.size w5).alloc (Nat.le_refl _) (.cells #[.int .i64 15, .int .i64 0, .int .i64 0, .int .i64 0, .int .i64 0, .int .i64 0, .int .i64 0, .int .i64 0, .slice none 0 0, .int .i64 16, .int .i64 0, .int .i64 0, .int .i64 0, .int .i64 0, .int .i64 0, .int .i64 0, .int .i64 0, .slice none 0 0] 51)
      have hsrc5 : Ops _ (some ⟨w5.heap.size, 0, none⟩) 2 ([seekOp, endOp].map bareR) := (OwnL.lit w5 [seekOp, endOp] #[.int .i64 15, .int .i64 0, .int .i64 0, .int .i64 0, .int .i64 0, .int .i64 0, .int .i64 0, .int .i64 0, .slice none 0 0, .int .i64 16, .int .i64 0, .int .i64 0, .int .i64 0, .int .i64 0, .int .i64 0, .int .i64 0, .int .i64 0, .slice none 0 0] rfl (by simp) (by simp [seekOp, endOp])).ops
      have hown5a := hown5'.below hal5
      have hB5a := bnext hB5 hal5
      go_wp2_with (at_builtin; refine wpList_append_ops _ rfl (.tmp 58) (.tmp 61) rfl BB _ _ _ R5 ([seekOp, endOp].map bareR) rfl hown5a _ 2 2 rfl hsrc5 (by omega) (hpR5.out _ _ _ _ _ hown5a.own) apart_bare ?_)
      intro AA kA wz hownz hgz _
      have hBz := OwnL.after hB5a hown5a hwB hgz
      obtain ⟨RA, hRA⟩ : ∃ RA, R5 ++ [seekOp, endOp].map bareR = RA := ⟨_, rfl⟩
      obtain ⟨MA, hMA⟩ : ∃ MA, M5 + 2 = MA := ⟨_, rfl⟩
      have HA : Hid (OwnL BB wz AA MA kA RA) := hid (by rw [← hRA, ← hMA]; exact hownz)
      have hMAs : MA ≤ 50 := by omega
      rw [hMA]
      have hdd : datO RA = keptL (datO rs) (datO rb) := by
        rw [← hRA, ← HR5.out, ← HR4.out, ← hR, datO_append, datO_append, datO_append, datO_append, datO_bare, datO_bare, datO_bare]
        unfold keptL
        simp
      have HDD := hid hdd
      have HMA := hid hMA
      clear hown5' hal5 hsrc5 hown5a hB5a hgz hownz hRA hR hMA hdd hpR5 HR4 HR5 hB5 hB2
      go_wp2_with fail
      refine (mmay_any AA MA kA RA wz HA.out.ops (by unfold maxLen; omega)).mono ?_
      rintro e w6 ⟨rfl, hb6⟩
      have hB6 := bnext hBz hb6
      by_cases hm : mayB MA RA = true
      case neg =>
        rw [show mayB MA RA = false by simpa using hm]
        go_wp2_with fail
        go_ret
        exact ⟨rfl, hB6⟩
      rw [hm]
      obtain ⟨m1, m2, m3⟩ := may_iff.1 hm
      have hf := book_fine m3
      have C := mnew_ok AA MA kA RA w6 (HA.out.ops.below hb6) (light_small m2) (by omega) hf
      have hlM : (datO RA).length = MA := by rw [datO_len]; exact HA.out.len
      rw [HDD.out] at C hf hlM
      obtain ⟨l, hl⟩ : ∃ l, keptL (datO rs) (datO rb) = l := ⟨_, rfl⟩
      rw [hl] at C hf hlM
      have HF := hid hf
      have HLL := hid hl
      have h0ok := m0_ok hf
      have hdl : (datO rs).length + 1 = M := by rw [datO_len, hlen]; have := HMM.out; omega
      have hbl : (datO rb).length = k := by rw [datO_len, hlen2]
      have HPL := hid (fun i (hi : i < M + (k + 2)) => (by rw [← hl]; exact kept_plain hdl p1 p2 (by rw [hbl]; exact hi) : plainK (opAt l i).kind))
      have HST := hid (fun (O : List FObj) (c : MC) (j : Nat) (hj : j < k + 2) (h : KeptAt k O j c) => (by
        have h1 := kept_step (W := headW l) (H := headH l) hdl HNO2.out (by rw [hbl]; exact hj) (by rw [hbl]; exact h)
        rw [hl, hbl] at h1
        exact h1 : KeptAt k O (j + 1) (coreO (headW l) (headH l) c (opAt l (M + j))).1))
      have HEN := hid (show (opAt l (M + (k + 2))).kind = 16 by rw [← hl, ← hbl, kept_end hdl]; rfl)
      have hMk : MA = M + (k + 2) + 1 := by have := HMA.out; have := HM5.out; omega
      have HMK := hid hMk
      have HLM := hid hlM
      clear m1 m2 m3 hm hb6 hf hl HDD HMA HM5 HLL hMk hlM hdl hbl HNO2 p1 p2 HA hBz
      go_wp2_with fail
      refine C.mono ?_
      rintro e wN ⟨g, m, rfl, hmw, hbN⟩
      have HBN := hid (bnext hB6 hbN)
      have HM := hid hmw
      have HOK := hid h0ok
      have hw6 := hB6.size
      clear C hmw hbN h0ok hB6
      go_wp2_with fail
      go_loopw [11] (fun iv wr => ∃ (i : Nat) (c : MC) (mk : MSlots), iv = .int .i64 (i : Int) ∧ i ≤ M ∧ Hid (MOk l (c.at_ i [])) ∧ Hid (MachW l (c.at_ i []) w6.heap.size g mk wr) ∧ Hid (Below w.heap.size w wr)) (fun iv _ => M - (intOf iv).toNat)
      case atStart => exact ⟨0, c0, m, rfl, by omega, hid (by rw [c0_at]; exact HOK.out), hid (by rw [c0_at]; exact HM.out), HBN⟩
      case round =>
        obtain ⟨i, cc, mk, rfl, hi, Hok, HK, HB⟩ := hrel
        clear HM HOK HBN m
        obtain ⟨W9, rfl⟩ : ∃ W9 : World, W9 = wr := ⟨_, rfl⟩
        have e1 : IntKind.i64.wrap ((i : Int) + 1) = (i : Int) + 1 := IntWalk.i64_in _ (by omega)
        by_cases hlt : i < M
        · have i1 : (i : Int) < (M : Int) := by omega
          have hsp := step_plain (l := l) (c := cc) (p := i) (t := []) (HPL.out i (by omega))
          have hso := step_ok HF.out Hok.out
          have CS := mstep_any l (cc.at_ i []) w6.heap.size g mk W9 HK.out HF.out Hok.out
          rw [hsp] at CS hso
          have HCS := hid CS
          clear CS hsp
          by_cases hf0 : (coreO (headW l) (headH l) cc (opAt l i)).2 = 0
          · rw [if_neg (by omega)] at HCS hso
            have HOK2 := hid hso
            clear hso
            go_wp2_with fail
            refine HCS.out.mono ?_
            rintro e w10 ⟨rfl, ⟨m10, hm10, -⟩, hb10⟩
            have HK10 := hid hm10
            have HB10 := hid (HB.out.trans (hb10.mono (by omega)))
            clear hm10 hb10 HCS
            rw [show errV 0 = .nilIface from rfl]
            go_wp2_with fail
            go_roundw
            case rel => exact ⟨i + 1, _, m10, by go_num, by omega, HOK2, HK10, HB10⟩
            case measure => simp [intOf]; omega
          · rw [if_pos hf0] at HCS
            obtain ⟨f, hff⟩ : ∃ f, (coreO (headW l) (headH l) cc (opAt l i)).2 = f + 1 := ⟨(coreO (headW l) (headH l) cc (opAt l i)).2 - 1, by omega⟩
            rw [hff] at HCS
            clear hff hf0 hso
            go_wp2_with fail
            refine HCS.out.mono ?_
            rintro e w10 ⟨rfl, -, hb10⟩
            have HB10 := hid (HB.out.trans (hb10.mono (by omega)))
            clear hb10 HCS
            rw [errV_pos (by omega)]
            go_wp2_with fail
            go_ret
            exact ⟨rfl, HB10.out⟩
        · obtain rfl : i = M := by omega
          have i1 : ¬ (i : Int) < (i : Int) := by omega
          obtain ⟨O, hO⟩ : ∃ O, cc.objs = O := ⟨_, rfl⟩
          have hoF : ObjsFine O := by rw [← hO]; exact Hok.out.objs
          have hO1000 : O.length ≤ 1000 := by have := objs_few hoF; omega
          have CO := mobjs_any l (cc.at_ i []) w6.heap.size g mk W9 HK.out (by show cc.objs.length ≤ 1000; rw [hO]; exact hO1000)
          rw [show (cc.at_ i []).objs = O from hO] at CO
          have HOF := hid hoF
          have HKE0 := hid (show KeptAt k O 0 cc from ⟨fun _ => hO, fun h => by omega, fun h => by omega⟩)
          have HCO := hid CO
          clear CO hO hoF
          go_wp2_with fail
          refine HCO.out.mono ?_
          rintro e w11 ⟨OA, on, oc, ors, rfl, hfo, hod, hb11⟩
          have HK11 := hid (HK.out.below hb11)
          have HB11 := hid (HB.out.trans (hb11.mono HB.out.size))
          have HFO := hid hfo
          have HOD := hid hod
          clear hfo hod hb11 HCO HK HB
          go_wp2_with fail
          go_loopw [13] (fun jv wr => ∃ (j : Nat) (c : MC) (mk : MSlots), jv = .int .i64 (j : Int) ∧ j ≤ k + 2 ∧ Hid (MOk l (c.at_ (i + j) [])) ∧ Hid (MachW l (c.at_ (i + j) []) w6.heap.size g mk wr) ∧ Hid (KeptAt k O j c) ∧ Hid (FObjs (mk.Z g) wr OA on ors) ∧ Hid (Below w.heap.size w wr)) (fun jv _ => (k + 2) - (intOf jv).toNat)
          case atStart => exact ⟨0, cc, mk, rfl, by omega, Hok, HK11, HKE0, HFO, HB11⟩
          case round =>
            obtain ⟨j, c2, mk2, rfl, hj, Hok2, HK2, HKE, HFO2, HB2⟩ := hrel
            clear HFO HKE0 HK11 HB11 Hok
            obtain ⟨W8, rfl⟩ : ∃ W8 : World, W8 = wr := ⟨_, rfl⟩
            have e2 : IntKind.i64.wrap ((k : Int) + 2) = (k : Int) + 2 := IntWalk.i64_in _ (by omega)
            have e3 : IntKind.i64.wrap ((j : Int) + 1) = (j : Int) + 1 := IntWalk.i64_in _ (by omega)
            by_cases hlt2 : j < k + 2
            · have i2 : (j : Int) < (k : Int) + 2 := by omega
              have hsp := step_plain (l := l) (c := c2) (p := i + j) (t := []) (HPL.out (i + j) (by omega))
              have hso := step_ok HF.out Hok2.out
              have CS := mstep_any l (c2.at_ (i + j) []) w6.heap.size g mk2 W8 HK2.out HF.out Hok2.out
              rw [hsp] at CS hso
              have HCS := hid CS
              clear CS hsp
              by_cases hf0 : (coreO (headW l) (headH l) c2 (opAt l (i + j))).2 = 0
              · rw [if_neg (by omega)] at HCS hso
                have HOK3 := hid hso
                clear hso
                go_wp2_with fail
                refine HCS.out.mono ?_
                rintro e w10 ⟨rfl, ⟨m10, hm10, hv10⟩, hb10⟩
                have HK10 := hid hm10
                have HB10 := hid (HB2.out.trans (hb10.mono (by omega)))
                have HF10 := hid (HFO2.out.kept hv10.1 hv10.2)
                have HKE2 := hid (HST.out O c2 j hlt2 HKE.out)
                clear hm10 hb10 hv10 HCS
                rw [show errV 0 = .nilIface from rfl]
                go_wp2_with fail
                go_roundw
                case rel => exact ⟨j + 1, _, m10, by go_num, by omega, HOK3, HK10, HKE2, HF10, HB10⟩
                case measure => simp [intOf]; omega
              · rw [if_pos hf0] at HCS
                obtain ⟨f, hff⟩ : ∃ f, (coreO (headW l) (headH l) c2 (opAt l (i + j))).2 = f + 1 := ⟨(coreO (headW l) (headH l) c2 (opAt l (i + j))).2 - 1, by omega⟩
                rw [hff] at HCS
                clear hff hf0 hso
                go_wp2_with fail
                refine HCS.out.mono ?_
                rintro e w10 ⟨rfl, -, hb10⟩
                have HB10 := hid (HB2.out.trans (hb10.mono (by omega)))
                clear hb10 HCS
                rw [errV_pos (by omega)]
                go_wp2_with fail
                go_ret
                exact ⟨rfl, HB10.out⟩
            · obtain rfl : j = k + 2 := by omega
              have i2 : ¬ (((k + 2 : Nat) : Int)) < (k : Int) + 2 := by omega
              have hat2 : i + (k + 2) < l.length := by have := HMK.out; have := HLM.out; omega
              have hcO : c2.objs = O := HKE.out.back rfl
              have CD := mdone_any l (c2.at_ (i + (k + 2)) []) w6.heap.size g mk2 W8 HK2.out hat2
              rw [show ((opAt l (c2.at_ (i + (k + 2)) []).at_).kind == 16) = true by
                show ((opAt l (i + (k + 2))).kind == 16) = true
                rw [HEN.out]; rfl] at CD
              have HCD := hid CD
              clear CD
              go_wp2_with fail
              refine HCD.out.mono ?_
              rintro e w12 ⟨rfl, hb12⟩
              have HK12 := hid (HK2.out.below hb12)
              have HB12 := hid (HB2.out.trans (hb12.mono HB2.out.size))
              have HF12 := hid (HFO2.out.below hb12)
              have CO := mobjs_any l (c2.at_ (i + (k + 2)) []) w6.heap.size g mk2 w12 HK12.out (by show c2.objs.length ≤ 1000; rw [hcO]; exact hO1000)
              rw [show (c2.at_ (i + (k + 2)) []).objs = O from hcO] at CO
              have HCO := hid CO
              clear CO hcO HCD hb12 HFO2
              go_wp2_with fail
              refine HCO.out.mono ?_
              rintro e w13 ⟨PA, pn, pc, prs, rfl, hfp, hpd, hb13⟩
              have HB13 := hid (HB12.out.trans (hb13.mono HB12.out.size))
              have HF13 := hid (HF12.out.below hb13)
              have CS := sameobjs_true PA OA pn on pc oc prs ors w13 hfp.objs HF13.out.objs (hpd.trans HOD.out.symm) (by
                have h1 := hfp.objs.1
                have h2 := congrArg List.length hpd
                rw [dat_len] at h2
                omega) (lens_ofK hfp.objs hpd (objs_small HOF.out)) (lens_ofK HF13.out.objs HOD.out (objs_small HOF.out))
              have HCS := hid CS
              clear CS hfp hpd hb13 HCO
              go_wp2_with fail
              refine HCS.out.mono ?_
              rintro e w14 ⟨rfl, hb14⟩
              go_wp2_with fail
              go_ret
              exact ⟨rfl, HB13.out.trans (hb14.mono HB13.out.size)⟩
theorem topKept_row (w : World) (r : FAt (List (FAt FOp))) (h : Ops w r.A r.n r.x ∧ r.n ≤ r.c ∧ r.c ≤ maxLen ∧ ∀ q ∈ r.x, OpOk w q) (r2 : FAt (List (FAt FOp))) (h2 : Ops w r2.A r2.n r2.x ∧ r2.n ≤ r2.c ∧ r2.c ≤ maxLen ∧ ∀ q ∈ r2.x, OpOk w q) :
    Calls Try.prog 12 #[.slice r.A r.n r.c, .slice r2.A r2.n r2.c] w (Ret (.bool true) w) :=
  topKept_walk r.A r.n r.c r.x r2.A r2.n r2.c r2.x w h.1 h2.1 (Nat.le_trans h.2.1 h.2.2.1) (Nat.le_trans h2.2.1 h2.2.2.1)
end Fb
