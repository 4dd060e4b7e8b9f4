/- ref.SameObject, ref.SameObjects: they return what the plain law says. Conditions: bounds on lengths. -/
import Derived.Test.YtgkemeclpidmcaaObjsA
import Derived.Test.YtgkemeclpidmcaaReelLight
import Derived.Test.YtgkemeclpidmcaaPlainA
import Derived.BigQuiet
set_option linter.unusedSimpArgs false
set_option linter.unusedVariables false
namespace Fb
open Go Go.Proofs Go.RowKit Go.Sort
def sameOb (a b : FObj) : Bool := samePic a.pic b.pic && (decide (a.id = b.id) && (decide (a.x = b.x) && (decide (a.y = b.y) && (eqRect a.clip.x a.clip.y a.clip.w a.clip.h b.clip.x b.clip.y b.clip.w b.clip.h && (a.shown == b.shown)))))
theorem sameOb_iff {a b : FObj} : sameOb a b = true ↔ a = b := by
  constructor
  · intro h
    unfold sameOb eqRect at h
    simp only [Bool.and_eq_true, decide_eq_true_eq, beq_iff_eq] at h
    obtain ⟨hp, h1, h2, h3, ⟨h4, h5, h6, h7⟩, h8⟩ := h
    have hp := samePic_iff.1 hp
    obtain ⟨i, x, y, p, ⟨c1, c2, c3, c4⟩, s⟩ := a
    obtain ⟨i', x', y', p', ⟨c1', c2', c3', c4'⟩, s'⟩ := b
    simp only at hp h1 h2 h3 h4 h5 h6 h7 h8
    subst hp h1 h2 h3 h4 h5 h6 h7 h8
    rfl
  · rintro rfl
    unfold sameOb eqRect
    simp [samePic_self]
set_option maxRecDepth 100000 in
set_option maxHeartbeats 800000 in
theorem sameob_0 (ai ax ay : Int) (ap : FPic) (acx acy acw ach : Int) (ash : Bool) (aA : Option Addr) (an ac : Nat) (bi bx by_ : Int) (bp : FPic) (bcx bcy bcw bch : Int) (bsh : Bool) (bA : Option Addr) (bn bc : Nat) (w : World) (ha : Pixs w aA an ap.p) (hb : Pixs w bA bn bp.p) (hn : an ≤ 1000000) (hm : bn ≤ 1000000)  (hP : (samePic ap bp) = false) :
    Calls Try.prog 47 #[.agg #[.int .i64 ai, .int .i64 ax, .int .i64 ay, .int .i64 ap.w, .int .i64 ap.h, .slice aA an ac, .int .i64 acx, .int .i64 acy, .int .i64 acw, .int .i64 ach, .bool ash], .agg #[.int .i64 bi, .int .i64 bx, .int .i64 by_, .int .i64 bp.w, .int .i64 bp.h, .slice bA bn bc, .int .i64 bcx, .int .i64 bcy, .int .i64 bcw, .int .i64 bch, .bool bsh]] w (Ret (.bool false) w) := by
  have Hc := hid (fun W (hB : Below w.heap.size w W) => rsame_pic_any ⟨ap, aA, an, ac⟩ ⟨bp, bA, bn, bc⟩ W (ha.below hB) (hb.below hB) hn hm)
  simp only [hP] at Hc
  clear ha hb hn hm hP
  go_enter Try.func47, Try.ntmps47
  go_wp2_with fail
  refine (Hc.out _ (by (repeat (first | with_reducible exact Below.refl _ _ | with_reducible refine Below.alloc ?_ (by simp; try omega) _ | with_reducible refine Below.setCell ?_ (by simp; try omega) _ | with_reducible refine below_drewN ?_ _ | with_reducible refine Below.drew ?_)))).mono ?_
  rintro e w1 ⟨rfl, hb1⟩
  obtain ⟨hc, hf⟩ := bcell hb1
  have hB1 : Below w.heap.size w w1 := bnext (by (repeat (first | with_reducible exact Below.refl _ _ | with_reducible refine Below.alloc ?_ (by simp; try omega) _ | with_reducible refine Below.setCell ?_ (by simp; try omega) _ | with_reducible refine below_drewN ?_ _ | with_reducible refine Below.drew ?_))) hb1
  go_wp2_with fail
  go_ret
  exact ⟨rfl, hB1⟩
set_option maxRecDepth 100000 in
set_option maxHeartbeats 800000 in
theorem sameob_1 (ai ax ay : Int) (ap : FPic) (acx acy acw ach : Int) (ash : Bool) (aA : Option Addr) (an ac : Nat) (bi bx by_ : Int) (bp : FPic) (bcx bcy bcw bch : Int) (bsh : Bool) (bA : Option Addr) (bn bc : Nat) (w : World) (ha : Pixs w aA an ap.p) (hb : Pixs w bA bn bp.p) (hn : an ≤ 1000000) (hm : bn ≤ 1000000) (hP : (samePic ap bp) = true) (hI : (ai == bi) = false) :
    Calls Try.prog 47 #[.agg #[.int .i64 ai, .int .i64 ax, .int .i64 ay, .int .i64 ap.w, .int .i64 ap.h, .slice aA an ac, .int .i64 acx, .int .i64 acy, .int .i64 acw, .int .i64 ach, .bool ash], .agg #[.int .i64 bi, .int .i64 bx, .int .i64 by_, .int .i64 bp.w, .int .i64 bp.h, .slice bA bn bc, .int .i64 bcx, .int .i64 bcy, .int .i64 bcw, .int .i64 bch, .bool bsh]] w (Ret (.bool false) w) := by
  have Hc := hid (fun W (hB : Below w.heap.size w W) => rsame_pic_any ⟨ap, aA, an, ac⟩ ⟨bp, bA, bn, bc⟩ W (ha.below hB) (hb.below hB) hn hm)
  simp only [hP] at Hc
  clear ha hb hn hm hP
  go_enter Try.func47, Try.ntmps47
  go_wp2_with fail
  refine (Hc.out _ (by (repeat (first | with_reducible exact Below.refl _ _ | with_reducible refine Below.alloc ?_ (by simp; try omega) _ | with_reducible refine Below.setCell ?_ (by simp; try omega) _ | with_reducible refine below_drewN ?_ _ | with_reducible refine Below.drew ?_)))).mono ?_
  rintro e w1 ⟨rfl, hb1⟩
  obtain ⟨hc, hf⟩ := bcell hb1
  have hB1 : Below w.heap.size w w1 := bnext (by (repeat (first | with_reducible exact Below.refl _ _ | with_reducible refine Below.alloc ?_ (by simp; try omega) _ | with_reducible refine Below.setCell ?_ (by simp; try omega) _ | with_reducible refine below_drewN ?_ _ | with_reducible refine Below.drew ?_))) hb1
  go_wp2_with fail
  go_ret
  exact ⟨rfl, hB1⟩
set_option maxRecDepth 100000 in
set_option maxHeartbeats 800000 in
theorem sameob_2 (ai ax ay : Int) (ap : FPic) (acx acy acw ach : Int) (ash : Bool) (aA : Option Addr) (an ac : Nat) (bi bx by_ : Int) (bp : FPic) (bcx bcy bcw bch : Int) (bsh : Bool) (bA : Option Addr) (bn bc : Nat) (w : World) (ha : Pixs w aA an ap.p) (hb : Pixs w bA bn bp.p) (hn : an ≤ 1000000) (hm : bn ≤ 1000000) (hP : (samePic ap bp) = true) (hI : (ai == bi) = true) (hX : (ax == bx) = false) :
    Calls Try.prog 47 #[.agg #[.int .i64 ai, .int .i64 ax, .int .i64 ay, .int .i64 ap.w, .int .i64 ap.h, .slice aA an ac, .int .i64 acx, .int .i64 acy, .int .i64 acw, .int .i64 ach, .bool ash], .agg #[.int .i64 bi, .int .i64 bx, .int .i64 by_, .int .i64 bp.w, .int .i64 bp.h, .slice bA bn bc, .int .i64 bcx, .int .i64 bcy, .int .i64 bcw, .int .i64 bch, .bool bsh]] w (Ret (.bool false) w) := by
  have Hc := hid (fun W (hB : Below w.heap.size w W) => rsame_pic_any ⟨ap, aA, an, ac⟩ ⟨bp, bA, bn, bc⟩ W (ha.below hB) (hb.below hB) hn hm)
  simp only [hP] at Hc
  clear ha hb hn hm hP
  go_enter Try.func47, Try.ntmps47
  go_wp2_with fail
  refine (Hc.out _ (by (repeat (first | with_reducible exact Below.refl _ _ | with_reducible refine Below.alloc ?_ (by simp; try omega) _ | with_reducible refine Below.setCell ?_ (by simp; try omega) _ | with_reducible refine below_drewN ?_ _ | with_reducible refine Below.drew ?_)))).mono ?_
  rintro e w1 ⟨rfl, hb1⟩
  obtain ⟨hc, hf⟩ := bcell hb1
  have hB1 : Below w.heap.size w w1 := bnext (by (repeat (first | with_reducible exact Below.refl _ _ | with_reducible refine Below.alloc ?_ (by simp; try omega) _ | with_reducible refine Below.setCell ?_ (by simp; try omega) _ | with_reducible refine below_drewN ?_ _ | with_reducible refine Below.drew ?_))) hb1
  go_wp2_with fail
  go_ret
  exact ⟨rfl, hB1⟩
set_option maxRecDepth 100000 in
set_option maxHeartbeats 800000 in
theorem sameob_3 (ai ax ay : Int) (ap : FPic) (acx acy acw ach : Int) (ash : Bool) (aA : Option Addr) (an ac : Nat) (bi bx by_ : Int) (bp : FPic) (bcx bcy bcw bch : Int) (bsh : Bool) (bA : Option Addr) (bn bc : Nat) (w : World) (ha : Pixs w aA an ap.p) (hb : Pixs w bA bn bp.p) (hn : an ≤ 1000000) (hm : bn ≤ 1000000) (hP : (samePic ap bp) = true) (hI : (ai == bi) = true) (hX : (ax == bx) = true) (hY : (ay == by_) = false) :
    Calls Try.prog 47 #[.agg #[.int .i64 ai, .int .i64 ax, .int .i64 ay, .int .i64 ap.w, .int .i64 ap.h, .slice aA an ac, .int .i64 acx, .int .i64 acy, .int .i64 acw, .int .i64 ach, .bool ash], .agg #[.int .i64 bi, .int .i64 bx, .int .i64 by_, .int .i64 bp.w, .int .i64 bp.h, .slice bA bn bc, .int .i64 bcx, .int .i64 bcy, .int .i64 bcw, .int .i64 bch, .bool bsh]] w (Ret (.bool false) w) := by
  have Hc := hid (fun W (hB : Below w.heap.size w W) => rsame_pic_any ⟨ap, aA, an, ac⟩ ⟨bp, bA, bn, bc⟩ W (ha.below hB) (hb.below hB) hn hm)
  simp only [hP] at Hc
  clear ha hb hn hm hP
  go_enter Try.func47, Try.ntmps47
  go_wp2_with fail
  refine (Hc.out _ (by (repeat (first | with_reducible exact Below.refl _ _ | with_reducible refine Below.alloc ?_ (by simp; try omega) _ | with_reducible refine Below.setCell ?_ (by simp; try omega) _ | with_reducible refine below_drewN ?_ _ | with_reducible refine Below.drew ?_)))).mono ?_
  rintro e w1 ⟨rfl, hb1⟩
  obtain ⟨hc, hf⟩ := bcell hb1
  have hB1 : Below w.heap.size w w1 := bnext (by (repeat (first | with_reducible exact Below.refl _ _ | with_reducible refine Below.alloc ?_ (by simp; try omega) _ | with_reducible refine Below.setCell ?_ (by simp; try omega) _ | with_reducible refine below_drewN ?_ _ | with_reducible refine Below.drew ?_))) hb1
  go_wp2_with fail
  go_ret
  exact ⟨rfl, hB1⟩
set_option maxRecDepth 100000 in
set_option maxHeartbeats 800000 in
theorem sameob_4 (ai ax ay : Int) (ap : FPic) (acx acy acw ach : Int) (ash : Bool) (aA : Option Addr) (an ac : Nat) (bi bx by_ : Int) (bp : FPic) (bcx bcy bcw bch : Int) (bsh : Bool) (bA : Option Addr) (bn bc : Nat) (w : World) (ha : Pixs w aA an ap.p) (hb : Pixs w bA bn bp.p) (hn : an ≤ 1000000) (hm : bn ≤ 1000000) (hP : (samePic ap bp) = true) (hI : (ai == bi) = true) (hX : (ax == bx) = true) (hY : (ay == by_) = true) (hR : (eqRect acx acy acw ach bcx bcy bcw bch) = false) :
    Calls Try.prog 47 #[.agg #[.int .i64 ai, .int .i64 ax, .int .i64 ay, .int .i64 ap.w, .int .i64 ap.h, .slice aA an ac, .int .i64 acx, .int .i64 acy, .int .i64 acw, .int .i64 ach, .bool ash], .agg #[.int .i64 bi, .int .i64 bx, .int .i64 by_, .int .i64 bp.w, .int .i64 bp.h, .slice bA bn bc, .int .i64 bcx, .int .i64 bcy, .int .i64 bcw, .int .i64 bch, .bool bsh]] w (Ret (.bool false) w) := by
  have Hc := hid (fun W (hB : Below w.heap.size w W) => rsame_pic_any ⟨ap, aA, an, ac⟩ ⟨bp, bA, bn, bc⟩ W (ha.below hB) (hb.below hB) hn hm)
  simp only [hP] at Hc
  clear ha hb hn hm hP
  have heq := fun W => eql_rect acx acy acw ach bcx bcy bcw bch W
  rw [hR] at heq
  clear hR
  go_enter Try.func47, Try.ntmps47
  go_wp2_with fail
  refine (Hc.out _ (by (repeat (first | with_reducible exact Below.refl _ _ | with_reducible refine Below.alloc ?_ (by simp; try omega) _ | with_reducible refine Below.setCell ?_ (by simp; try omega) _ | with_reducible refine below_drewN ?_ _ | with_reducible refine Below.drew ?_)))).mono ?_
  rintro e w1 ⟨rfl, hb1⟩
  obtain ⟨hc, hf⟩ := bcell hb1
  have hB1 : Below w.heap.size w w1 := bnext (by (repeat (first | with_reducible exact Below.refl _ _ | with_reducible refine Below.alloc ?_ (by simp; try omega) _ | with_reducible refine Below.setCell ?_ (by simp; try omega) _ | with_reducible refine below_drewN ?_ _ | with_reducible refine Below.drew ?_))) hb1
  go_wp2_with fail
  go_ret
  exact ⟨rfl, hB1⟩
set_option maxRecDepth 100000 in
set_option maxHeartbeats 800000 in
theorem sameob_5 (ai ax ay : Int) (ap : FPic) (acx acy acw ach : Int) (ash : Bool) (aA : Option Addr) (an ac : Nat) (bi bx by_ : Int) (bp : FPic) (bcx bcy bcw bch : Int) (bsh : Bool) (bA : Option Addr) (bn bc : Nat) (w : World) (ha : Pixs w aA an ap.p) (hb : Pixs w bA bn bp.p) (hn : an ≤ 1000000) (hm : bn ≤ 1000000) (hP : (samePic ap bp) = true) (hI : (ai == bi) = true) (hX : (ax == bx) = true) (hY : (ay == by_) = true) (hR : (eqRect acx acy acw ach bcx bcy bcw bch) = true) (hS : (ash == bsh) = false) :
    Calls Try.prog 47 #[.agg #[.int .i64 ai, .int .i64 ax, .int .i64 ay, .int .i64 ap.w, .int .i64 ap.h, .slice aA an ac, .int .i64 acx, .int .i64 acy, .int .i64 acw, .int .i64 ach, .bool ash], .agg #[.int .i64 bi, .int .i64 bx, .int .i64 by_, .int .i64 bp.w, .int .i64 bp.h, .slice bA bn bc, .int .i64 bcx, .int .i64 bcy, .int .i64 bcw, .int .i64 bch, .bool bsh]] w (Ret (.bool false) w) := by
  have Hc := hid (fun W (hB : Below w.heap.size w W) => rsame_pic_any ⟨ap, aA, an, ac⟩ ⟨bp, bA, bn, bc⟩ W (ha.below hB) (hb.below hB) hn hm)
  simp only [hP] at Hc
  clear ha hb hn hm hP
  have heq := fun W => eql_rect acx acy acw ach bcx bcy bcw bch W
  rw [hR] at heq
  clear hR
  have heb : bsh = !ash := by revert hS; cases ash <;> cases bsh <;> simp
  subst heb
  clear hS
  cases ash
  all_goals
    go_enter Try.func47, Try.ntmps47
    go_wp2_with fail
    refine (Hc.out _ (by (repeat (first | with_reducible exact Below.refl _ _ | with_reducible refine Below.alloc ?_ (by simp; try omega) _ | with_reducible refine Below.setCell ?_ (by simp; try omega) _ | with_reducible refine below_drewN ?_ _ | with_reducible refine Below.drew ?_)))).mono ?_
    rintro e w1 ⟨rfl, hb1⟩
    obtain ⟨hc, hf⟩ := bcell hb1
    have hB1 : Below w.heap.size w w1 := bnext (by (repeat (first | with_reducible exact Below.refl _ _ | with_reducible refine Below.alloc ?_ (by simp; try omega) _ | with_reducible refine Below.setCell ?_ (by simp; try omega) _ | with_reducible refine below_drewN ?_ _ | with_reducible refine Below.drew ?_))) hb1
    go_wp2_with fail
    go_ret
    exact ⟨rfl, hB1⟩
set_option maxRecDepth 100000 in
set_option maxHeartbeats 800000 in
theorem sameob_6 (ai ax ay : Int) (ap : FPic) (acx acy acw ach : Int) (ash : Bool) (aA : Option Addr) (an ac : Nat) (bi bx by_ : Int) (bp : FPic) (bcx bcy bcw bch : Int) (bsh : Bool) (bA : Option Addr) (bn bc : Nat) (w : World) (ha : Pixs w aA an ap.p) (hb : Pixs w bA bn bp.p) (hn : an ≤ 1000000) (hm : bn ≤ 1000000) (hP : (samePic ap bp) = true) (hI : (ai == bi) = true) (hX : (ax == bx) = true) (hY : (ay == by_) = true) (hR : (eqRect acx acy acw ach bcx bcy bcw bch) = true) (hS : (ash == bsh) = true) :
    Calls Try.prog 47 #[.agg #[.int .i64 ai, .int .i64 ax, .int .i64 ay, .int .i64 ap.w, .int .i64 ap.h, .slice aA an ac, .int .i64 acx, .int .i64 acy, .int .i64 acw, .int .i64 ach, .bool ash], .agg #[.int .i64 bi, .int .i64 bx, .int .i64 by_, .int .i64 bp.w, .int .i64 bp.h, .slice bA bn bc, .int .i64 bcx, .int .i64 bcy, .int .i64 bcw, .int .i64 bch, .bool bsh]] w (Ret (.bool true) w) := by
  have Hc := hid (fun W (hB : Below w.heap.size w W) => rsame_pic_any ⟨ap, aA, an, ac⟩ ⟨bp, bA, bn, bc⟩ W (ha.below hB) (hb.below hB) hn hm)
  simp only [hP] at Hc
  clear ha hb hn hm hP
  have heq := fun W => eql_rect acx acy acw ach bcx bcy bcw bch W
  rw [hR] at heq
  clear hR
  have heb : ash = bsh := by simpa using hS
  subst heb
  clear hS
  go_enter Try.func47, Try.ntmps47
  go_wp2_with fail
  refine (Hc.out _ (by (repeat (first | with_reducible exact Below.refl _ _ | with_reducible refine Below.alloc ?_ (by simp; try omega) _ | with_reducible refine Below.setCell ?_ (by simp; try omega) _ | with_reducible refine below_drewN ?_ _ | with_reducible refine Below.drew ?_)))).mono ?_
  rintro e w1 ⟨rfl, hb1⟩
  obtain ⟨hc, hf⟩ := bcell hb1
  have hB1 : Below w.heap.size w w1 := bnext (by (repeat (first | with_reducible exact Below.refl _ _ | with_reducible refine Below.alloc ?_ (by simp; try omega) _ | with_reducible refine Below.setCell ?_ (by simp; try omega) _ | with_reducible refine below_drewN ?_ _ | with_reducible refine Below.drew ?_))) hb1
  go_wp2_with fail
  go_ret
  exact ⟨rfl, hB1⟩
theorem sameobj_any (r s : FAt FObj) (w : World) (hr : Pixs w r.A r.n r.x.pic.p) (hs : Pixs w s.A s.n s.x.pic.p) (hn : r.n ≤ 1000000) (hm : s.n ≤ 1000000) :
    Calls Try.prog 47 #[.agg #[.int .i64 r.x.id, .int .i64 r.x.x, .int .i64 r.x.y, .int .i64 r.x.pic.w, .int .i64 r.x.pic.h, .slice r.A r.n r.c, .int .i64 r.x.clip.x, .int .i64 r.x.clip.y, .int .i64 r.x.clip.w, .int .i64 r.x.clip.h, .bool r.x.shown], .agg #[.int .i64 s.x.id, .int .i64 s.x.x, .int .i64 s.x.y, .int .i64 s.x.pic.w, .int .i64 s.x.pic.h, .slice s.A s.n s.c, .int .i64 s.x.clip.x, .int .i64 s.x.clip.y, .int .i64 s.x.clip.w, .int .i64 s.x.clip.h, .bool s.x.shown]] w (Ret (.bool (sameOb r.x s.x)) w) := by
  obtain ⟨⟨ai, ax, ay, ap, ⟨acx, acy, acw, ach⟩, ash⟩, aA, an, ac⟩ := r
  obtain ⟨⟨bi, bx, by_, bp, ⟨bcx, bcy, bcw, bch⟩, bsh⟩, bA, bn, bc⟩ := s
  simp only at hr hs hn hm ⊢
  unfold sameOb
  simp only
  cases hP : (samePic ap bp)
  · exact sameob_0 ai ax ay ap acx acy acw ach ash aA an ac bi bx by_ bp bcx bcy bcw bch bsh bA bn bc w hr hs hn hm  hP
  cases hI : (decide (ai = bi))
  · exact sameob_1 ai ax ay ap acx acy acw ach ash aA an ac bi bx by_ bp bcx bcy bcw bch bsh bA bn bc w hr hs hn hm hP hI
  cases hX : (decide (ax = bx))
  · exact sameob_2 ai ax ay ap acx acy acw ach ash aA an ac bi bx by_ bp bcx bcy bcw bch bsh bA bn bc w hr hs hn hm hP hI hX
  cases hY : (decide (ay = by_))
  · exact sameob_3 ai ax ay ap acx acy acw ach ash aA an ac bi bx by_ bp bcx bcy bcw bch bsh bA bn bc w hr hs hn hm hP hI hX hY
  cases hR : (eqRect acx acy acw ach bcx bcy bcw bch)
  · exact sameob_4 ai ax ay ap acx acy acw ach ash aA an ac bi bx by_ bp bcx bcy bcw bch bsh bA bn bc w hr hs hn hm hP hI hX hY hR
  cases hS : (ash == bsh)
  · exact sameob_5 ai ax ay ap acx acy acw ach ash aA an ac bi bx by_ bp bcx bcy bcw bch bsh bA bn bc w hr hs hn hm hP hI hX hY hR hS
  exact sameob_6 ai ax ay ap acx acy acw ach ash aA an ac bi bx by_ bp bcx bcy bcw bch bsh bA bn bc w hr hs hn hm hP hI hX hY hR hS
/-- two lists of the same objects -/
def SameObs (rs ss : List (FAt FObj)) : Prop := dat rs = dat ss
set_option maxRecDepth 100000 in
set_option maxHeartbeats 1600000 in
theorem sameobjs_true (A B : Option Addr) (n m c d : Nat) (rs ss : List (FAt FObj)) (w : World) (hr : Objs w A n rs) (hs : Objs w B m ss) (he : dat rs = dat ss) (hn : n ≤ 1000) (hp : ∀ r ∈ rs, r.n ≤ 1000000) (hq : ∀ r ∈ ss, r.n ≤ 1000000) :
    Calls Try.prog 26 #[.slice A n c, .slice B m d] w (Ret (.bool true) w) := by
  have Hl := hid hr.1
  have Hm := hid hs.1
  obtain rfl : n = m := by
    rw [← hr.1, ← hs.1, ← dat_len rs, ← dat_len ss, he]
  have HA := hid hr
  have HS := hid hs
  have HE := hid he
  have HP := hid hp
  have HQ := hid hq
  clear hr hs he hp hq
  go_enter Try.func26, Try.ntmps26
  go_wp2_with fail
  go_loopw [5] (fun i wr => ∃ k : Nat, k ≤ n ∧ i = .int .i64 k ∧ Below w.heap.size w wr) (fun i _ => n - (intOf i).toNat)
  case atStart => exact ⟨0, by omega, rfl, Below.refl _ _⟩
  case round =>
    obtain ⟨k, hk, rfl, hbel⟩ := hrel
    by_cases hlt : k < n
    · have k1 : k < rs.length := by rw [Hl.out]; exact hlt
      have k2 : k < ss.length := by rw [Hm.out]; exact hlt
      obtain ⟨b, off, rfl, hbs, hc⟩ := HA.out.open_ (by omega)
      obtain ⟨b', off', rfl, hbs', hc'⟩ := HS.out.open_ (by omega)
      have C1 := hc.cells hbel hbs k1
      have C2 := hc'.cells hbel hbs' k2
      have hx : rs[k].x = ss[k].x := by
        have e := congrArg (fun l => l[k]?) HE.out
        simp only [dat, List.getElem?_map, List.getElem?_eq_getElem k1, List.getElem?_eq_getElem k2, Option.map_some, Option.some.injEq] at e
        exact e
      have p1 := (HA.out.2.2 rs[k] (List.getElem_mem k1)).below hbel
      have p2 := (HS.out.2.2 ss[k] (List.getElem_mem k2)).below hbel
      have n1 := HP.out rs[k] (List.getElem_mem k1)
      have n2 := HQ.out ss[k] (List.getElem_mem k2)
      have q1 : (0 : Int) ≤ (k : Int) := by omega
      have q2 : (k : Int) < (n : Int) := by omega
      have hs1 : b < wr.heap.size := Nat.lt_of_lt_of_le hbs hbel.size
      have hs2 : b' < wr.heap.size := Nat.lt_of_lt_of_le hbs' hbel.size
      generalize rs[k] = r at *
      generalize ss[k] = s at *
      have hcall := fun dd os => Ret.regrown (sameobj_any r s (grow (redrawn wr dd) os) (p1.below (below_regrown wr dd os)) (p2.below (below_regrown wr dd os)) n1 n2)
      rw [show sameOb r.x s.x = true from sameOb_iff.2 hx] at hcall
      obtain ⟨d0, d1, d2, d3, d4, d5, d6, d7, d8, d9, d10⟩ := C1
      obtain ⟨e0, e1, e2, e3, e4, e5, e6, e7, e8, e9, e10⟩ := C2
      have D0 := cell_all2 hs1 d0
      have E0 := cell_all2 hs2 e0
      have D1 := cell_all2 hs1 d1
      have E1 := cell_all2 hs2 e1
      have D2 := cell_all2 hs1 d2
      have E2 := cell_all2 hs2 e2
      have D3 := cell_all2 hs1 d3
      have E3 := cell_all2 hs2 e3
      have D4 := cell_all2 hs1 d4
      have E4 := cell_all2 hs2 e4
      have D5 := cell_all2 hs1 d5
      have E5 := cell_all2 hs2 e5
      have D6 := cell_all2 hs1 d6
      have E6 := cell_all2 hs2 e6
      have D7 := cell_all2 hs1 d7
      have E7 := cell_all2 hs2 e7
      have D8 := cell_all2 hs1 d8
      have E8 := cell_all2 hs2 e8
      have D9 := cell_all2 hs1 d9
      have E9 := cell_all2 hs2 e9
      have D10 := cell_all2 hs1 d10
      have E10 := cell_all2 hs2 e10
      clear d0 d1 d2 d3 d4 d5 d6 d7 d8 d9 d10 e0 e1 e2 e3 e4 e5 e6 e7 e8 e9 e10 hx p1 p2 n1 n2 hc hc' k1 k2
      go_wp2_with fail
      refine wp_region_quiet_below (by kernel_rfl) (by kernel_rfl) ?_
      repeat (go_big_quiet_step (exact hcall _ _))
      (refine wpQuiet_nil ?_; intro _ hw'; obtain ⟨⟨dq, osq⟩, hw''⟩ := hw'; subst hw'')
      have hb3 := bnext hbel (below_regrown wr dq osq)
      clear hcall D0 D1 D2 D3 D4 D5 D6 D7 D8 D9 D10 E0 E1 E2 E3 E4 E5 E6 E7 E8 E9 E10
      generalize grow (redrawn wr dq) osq = w3 at *
      go_wp2_with fail
      go_roundw
      case rel => exact ⟨k + 1, by omega, by go_num, hb3⟩
      case measure => simp [intOf]; omega
    · go_wp2_with fail
      go_ret
      exact ⟨rfl, hbel⟩
end Fb
