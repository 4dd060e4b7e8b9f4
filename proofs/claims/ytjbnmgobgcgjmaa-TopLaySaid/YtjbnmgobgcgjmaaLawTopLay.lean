/- The law TopLay: it returns true. Conditions: none but the arguments' shape. -/
import Derived.Test.YtjbnmgobgcgjmaaLay
import Derived.Test.YtjbnmgobgcgjmaaOpen2
import Derived.Test.YtjbnmgobgcgjmaaPlain
import Derived.Test.YtjbnmgobgcgjmaaLayLaw
import Derived.Test.YtjbnmgobgcgjmaaReelWalk
import Derived.Test.YtjbnmgobgcgjmaaObjFineW
import Derived.Test.YtjbnmgobgcgjmaaHeld
import Derived.Deep.DrawnRows
namespace Fb
open Go Go.Proofs Go.RowKit Go.Sort
theorem mul_bd (a b : Int) (h1 : -20 ≤ a) (h2 : a ≤ 28) (h3 : 1 ≤ b) (h4 : b ≤ 8) : -160 ≤ a * b ∧ a * b ≤ 224 := by
  have e1 := Int.mul_nonneg (show 0 ≤ a + 20 by omega) (show 0 ≤ b by omega)
  have e2 := Int.mul_nonneg (show 0 ≤ 28 - a by omega) (show 0 ≤ b by omega)
  rw [Int.add_mul] at e1
  rw [Int.sub_mul] at e2
  omega
def BoxesTopLay (w : World) (pw : Int) (ph : Int) (pl : List Px) (pA : Option Addr) (pn pc : Nat) (oi : Int) (ox : Int) (oy : Int) (ow : Int) (oh : Int) (ol : List Px) (oA : Option Addr) (on oc : Nat) (orx : Int) (ory : Int) (orw : Int) (orh : Int) (os : Bool) (W : World) : Prop := W.cell? ⟨w.heap.size, 0, none⟩ = some (.int .i64 pw) ∧ W.cell? ⟨w.heap.size, 1, none⟩ = some (.int .i64 ph) ∧ W.cell? ⟨w.heap.size, 2, none⟩ = some (.slice pA pn pc) ∧ W.cell? ⟨w.heap.size + 1, 0, none⟩ = some (.int .i64 oi) ∧ W.cell? ⟨w.heap.size + 1, 1, none⟩ = some (.int .i64 ox) ∧ W.cell? ⟨w.heap.size + 1, 2, none⟩ = some (.int .i64 oy) ∧ W.cell? ⟨w.heap.size + 1, 3, none⟩ = some (.int .i64 ow) ∧ W.cell? ⟨w.heap.size + 1, 4, none⟩ = some (.int .i64 oh) ∧ W.cell? ⟨w.heap.size + 1, 5, none⟩ = some (.slice oA on oc) ∧ W.cell? ⟨w.heap.size + 1, 6, none⟩ = some (.int .i64 orx) ∧ W.cell? ⟨w.heap.size + 1, 7, none⟩ = some (.int .i64 ory) ∧ W.cell? ⟨w.heap.size + 1, 8, none⟩ = some (.int .i64 orw) ∧ W.cell? ⟨w.heap.size + 1, 9, none⟩ = some (.int .i64 orh) ∧ W.cell? ⟨w.heap.size + 1, 10, none⟩ = some (.bool os)
theorem kc_TopLay {w w' : World} {B : Nat} (hb : Below B w w') {b o : Nat} {v : Value} (h : b < B) (hc : w.cell? ⟨b, o, none⟩ = some v) : w'.cell? ⟨b, o, none⟩ = some v := (hb.cell (p := ⟨b, o, none⟩) h).trans hc
theorem BoxesTopLay.below {w W W' : World} {pw : Int} {ph : Int} {pl : List Px} {pA : Option Addr} {pn pc : Nat} {oi : Int} {ox : Int} {oy : Int} {ow : Int} {oh : Int} {ol : List Px} {oA : Option Addr} {on oc : Nat} {orx : Int} {ory : Int} {orw : Int} {orh : Int} {os : Bool} (h : BoxesTopLay w pw ph pl pA pn pc oi ox oy ow oh ol oA on oc orx ory orw orh os W) (hb : Below W.heap.size W W') (hs : w.heap.size + 2 ≤ W.heap.size) : BoxesTopLay w pw ph pl pA pn pc oi ox oy ow oh ol oA on oc orx ory orw orh os W' := by
  obtain ⟨c0, c1, c2, c3, c4, c5, c6, c7, c8, c9, c10, c11, c12, c13⟩ := h
  exact ⟨kc_TopLay hb (by omega) c0, kc_TopLay hb (by omega) c1, kc_TopLay hb (by omega) c2, kc_TopLay hb (by omega) c3, kc_TopLay hb (by omega) c4, kc_TopLay hb (by omega) c5, kc_TopLay hb (by omega) c6, kc_TopLay hb (by omega) c7, kc_TopLay hb (by omega) c8, kc_TopLay hb (by omega) c9, kc_TopLay hb (by omega) c10, kc_TopLay hb (by omega) c11, kc_TopLay hb (by omega) c12, kc_TopLay hb (by omega) c13⟩
set_option maxRecDepth 100000 in
set_option maxHeartbeats 16000000 in
theorem topLay_walk (pw : Int) (ph : Int) (pl : List Px) (pA : Option Addr) (pn pc : Nat) (oi : Int) (ox : Int) (oy : Int) (ow : Int) (oh : Int) (ol : List Px) (oA : Option Addr) (on oc : Nat) (orx : Int) (ory : Int) (orw : Int) (orh : Int) (os : Bool) (w : World)  (h_p : Pixs w pA pn pl) (h_o : Pixs w oA on ol) :
    Calls Try.prog 5 #[.agg #[.int .i64 pw, .int .i64 ph, .slice pA pn pc], .agg #[.int .i64 oi, .int .i64 ox, .int .i64 oy, .int .i64 ow, .int .i64 oh, .slice oA on oc, .int .i64 orx, .int .i64 ory, .int .i64 orw, .int .i64 orh, .bool os]] w (Ret (.bool true) w) := by
  have H_p := hid h_p
  clear h_p
  have H_o := hid h_o
  clear h_o
  go_enter Try.func5, Try.ntmps5
  go_upto_region 1 with fail
  obtain ⟨W0, hW0⟩ : ∃ W0, W0 = ((w.alloc (.cells #[.int .i64 pw, .int .i64 ph, .slice pA pn pc] 26)).alloc (.cells #[.int .i64 oi, .int .i64 ox, .int .i64 oy, .int .i64 ow, .int .i64 oh, .slice oA on oc, .int .i64 orx, .int .i64 ory, .int .i64 orw, .int .i64 orh, .bool os] 30)) := ⟨_, rfl⟩
  have hB0 : Below w.heap.size w W0 := by rw [hW0]; exact ((Below.refl w.heap.size w).alloc (by simp; try omega) _).alloc (by simp; try omega) _
  have z0 : w.heap.size + 2 ≤ W0.heap.size := by rw [hW0]; simp
  have CE0 : BoxesTopLay w pw ph pl pA pn pc oi ox oy ow oh ol oA on oc orx ory orw orh os W0 := by rw [hW0]; refine ⟨?_, ?_, ?_, ?_, ?_, ?_, ?_, ?_, ?_, ?_, ?_, ?_, ?_, ?_⟩ <;> go_simp
  rw [← hW0]
  clear hW0
  have CEH := hid CE0
  clear CE0
  have CE0 := CEH
  clear CEH
  obtain ⟨c0, c1, c2, c3, c4, c5, c6, c7, c8, c9, c10, c11, c12, c13⟩ := CE0.out
  go_wp2_with fail
  refine (plain_int 2 1 (5, 255) _ (by omega) (by omega) (by omega) (by omega)).mono ?_
  rintro e w1 ⟨gb, go, gc, N, rfl, hN, hN1, hN2, hg1, hg2, hpix, hb⟩
  clear c0 c1 c2 c3 c4 c5 c6 c7 c8 c9 c10 c11 c12 c13
  have CE1 := hid (CE0.out.below hb z0)
  have hB1 : Below w.heap.size w w1 := bnext hB0 hb
  have z1 : w.heap.size + 2 ≤ w1.heap.size := Nat.le_trans z0 hb.size
  clear hb hB0 z0 CE0
  obtain ⟨c0, c1, c2, c3, c4, c5, c6, c7, c8, c9, c10, c11, c12, c13⟩ := CE1.out
  obtain rfl : N = 2 := by omega
  clear hN hN1 hN2
  have HPX := hid (pixs_in hpix (by omega))
  clear hpix
  go_upto_region 2 with fail
  obtain ⟨W', hW'⟩ : ∃ W', W' = w1.alloc (.cells #[.int .i64 (2), .int .i64 (1), .slice (some ⟨gb, go, none⟩) (2) (gc)] 26) := ⟨_, rfl⟩
  rw [← hW']
  have hb : Below w1.heap.size w1 W' := by rw [hW']; exact (Below.refl _ _).alloc (Nat.le_refl _) _
  have hF : PicAt w1.heap.size (2) (1) (some ⟨gb, go, none⟩) (2) (gc) W' := by rw [hW']; exact PicAt.new _ _ _ _ _ _ _
  clear hW'
  obtain ⟨w2, rfl⟩ : ∃ w : World, w = W' := ⟨_, rfl⟩
  clear c0 c1 c2 c3 c4 c5 c6 c7 c8 c9 c10 c11 c12 c13
  have HPX := hid (HPX.out.below hb)
  have CE2 := hid (CE1.out.below hb z1)
  have hB2 : Below w.heap.size w w2 := bnext hB1 hb
  have z2 : w.heap.size + 2 ≤ w2.heap.size := Nat.le_trans z1 hb.size
  clear hb hB1 z1 CE1
  obtain ⟨c0, c1, c2, c3, c4, c5, c6, c7, c8, c9, c10, c11, c12, c13⟩ := CE2.out
  obtain ⟨gu, hg⟩ : ∃ g, g = w1.heap.size := ⟨_, rfl⟩
  rw [← hg] at hF ⊢
  clear hg
  have Hgu := hid (hF)
  obtain ⟨uz, u0, u1, u2⟩ := Hgu.out
  clear hF
  have e5 := (HPX.out.2 1 (by simp)).1
  rw [List.getElem_replicate] at e5
  simp only [Nat.one_mul] at e5
  go_wp2_with fail
  refine (lightpic_any ⟨⟨pw, ph, pl⟩, pA, pn, pc⟩ _).mono ?_
  rintro e w3 ⟨rfl, hb⟩
  clear c0 c1 c2 c3 c4 c5 c6 c7 c8 c9 c10 c11 c12 c13 uz u0 u1 u2
  have HPX := hid (HPX.out.below hb)
  have Hgu := hid (Hgu.out.below hb)
  have CE3 := hid (CE2.out.below hb z2)
  have hB3 : Below w.heap.size w w3 := bnext hB2 hb
  have z3 : w.heap.size + 2 ≤ w3.heap.size := Nat.le_trans z2 hb.size
  clear hb hB2 z2 CE2
  obtain ⟨c0, c1, c2, c3, c4, c5, c6, c7, c8, c9, c10, c11, c12, c13⟩ := CE3.out
  obtain ⟨uz, u0, u1, u2⟩ := Hgu.out
  clear e5
  clear HPX
  clear uz u0 u1 u2
  clear Hgu
  cases hC : decide (pn ≤ 80)
  case false => (go_wp2_with fail; go_ret; exact ⟨rfl, hB3⟩)
  have nC := of_decide_eq_true hC
  clear hC
  go_wp2_with fail
  refine (piccheck_any ⟨⟨pw, ph, pl⟩, pA, pn, pc⟩ _ (H_p.out.below hB3) (by show pn ≤ 100; omega)).mono ?_
  rintro e w4 ⟨rfl, hb⟩
  clear c0 c1 c2 c3 c4 c5 c6 c7 c8 c9 c10 c11 c12 c13
  have CE4 := hid (CE3.out.below hb z3)
  have hB4 : Below w.heap.size w w4 := bnext hB3 hb
  have z4 : w.heap.size + 2 ≤ w4.heap.size := Nat.le_trans z3 hb.size
  clear hb hB3 z3 CE3
  obtain ⟨c0, c1, c2, c3, c4, c5, c6, c7, c8, c9, c10, c11, c12, c13⟩ := CE4.out
  obtain ⟨F, hF⟩ : ∃ F, picFault ⟨pw, ph, pl⟩ = F := ⟨_, rfl⟩
  simp only [hF]
  have HF_p := hid hF
  clear hF
  cases F
  case succ F => (rw [errV_pos (Nat.succ_ne_zero F)]; go_wp2_with fail; go_ret; exact ⟨rfl, hB4⟩)
  rw [errV_zero]
  go_wp2_with fail
  refine (objfine_any ⟨⟨oi, ox, oy, ⟨ow, oh, ol⟩, ⟨orx, ory, orw, orh⟩, os⟩, oA, on, oc⟩ _ (H_o.out.below hB4)).mono ?_
  rintro e w5 ⟨rfl, hb⟩
  clear c0 c1 c2 c3 c4 c5 c6 c7 c8 c9 c10 c11 c12 c13
  have CE5 := hid (CE4.out.below hb z4)
  have hB5 : Below w.heap.size w w5 := bnext hB4 hb
  have z5 : w.heap.size + 2 ≤ w5.heap.size := Nat.le_trans z4 hb.size
  clear hb hB4 z4 CE4
  obtain ⟨c0, c1, c2, c3, c4, c5, c6, c7, c8, c9, c10, c11, c12, c13⟩ := CE5.out
  cases hF : fineB ⟨⟨oi, ox, oy, ⟨ow, oh, ol⟩, ⟨orx, ory, orw, orh⟩, os⟩, oA, on, oc⟩
  case false => (go_wp2_with fail; go_ret; exact ⟨rfl, hB5⟩)
  have fp := hid (picFault_fine.1 HF_p.out)
  have fo := hid (objFault_fine.1 (fineB_fault hF))
  have no := fineB_few hF
  simp only at no
  clear HF_p hF
  go_wp2_with fail
  refine (lay_any ⟨⟨pw, ph, pl⟩, pA, pn, pc⟩ ⟨⟨oi, ox, oy, ⟨ow, oh, ol⟩, ⟨orx, ory, orw, orh⟩, os⟩, oA, on, oc⟩ _ (H_p.out.below hB5) (H_o.out.below hB5) fp.out fo.out).mono ?_
  rintro e w6 ⟨QA, qc, rfl, hq, hqn, hb⟩
  clear c0 c1 c2 c3 c4 c5 c6 c7 c8 c9 c10 c11 c12 c13
  have CE6 := hid (CE5.out.below hb z5)
  have hB6 : Below w.heap.size w w6 := bnext hB5 hb
  have z6 : w.heap.size + 2 ≤ w6.heap.size := Nat.le_trans z5 hb.size
  clear hb hB5 z5 CE5
  obtain ⟨c0, c1, c2, c3, c4, c5, c6, c7, c8, c9, c10, c11, c12, c13⟩ := CE6.out
  have HG := hid (fun j i (W H : Nat) hW hH hj hi => lay_get? (p := ⟨pw, ph, pl⟩) (o := ⟨oi, ox, oy, ⟨ow, oh, ol⟩, ⟨orx, ory, orw, orh⟩, os⟩) (W := W) (H := H) fp.out hW hH (j := j) (i := i) hj hi)
  have fq := hid (lay_fine (p := ⟨pw, ph, pl⟩) (o := ⟨oi, ox, oy, ⟨ow, oh, ol⟩, ⟨orx, ory, orw, orh⟩, os⟩) fp.out fo.out.2.2)
  have hQ0 : layP ⟨pw, ph, pl⟩ ⟨oi, ox, oy, ⟨ow, oh, ol⟩, ⟨orx, ory, orw, orh⟩, os⟩ = ⟨pw, ph, (layP ⟨pw, ph, pl⟩ ⟨oi, ox, oy, ⟨ow, oh, ol⟩, ⟨orx, ory, orw, orh⟩, os⟩).p⟩ := rfl
  obtain ⟨ql, hql⟩ : ∃ l, (layP ⟨pw, ph, pl⟩ ⟨oi, ox, oy, ⟨ow, oh, ol⟩, ⟨orx, ory, orw, orh⟩, os⟩).p = l := ⟨_, rfl⟩
  rw [hql] at hQ0
  simp only [hQ0] at HG fq hq ⊢
  clear hQ0 hql
  have hlq := pic_len fq.out
  have hlp := pic_len fp.out
  simp only at hlq hlp
  have hpn := H_p.out.1
  obtain ⟨qb, qo, rfl, -, -⟩ := hq.open_ (by omega)
  obtain ⟨pb, po, rfl, -, -⟩ := H_p.out.open_ (by omega)
  have hpp := H_p.out.below hB6
  have HPX := hid (pixs_in hpp (by omega))
  clear hpp
  have HQX := hid (pixs_in hq (by omega))
  have HQP := hid (hq)
  clear hq
  go_upto_region 7 with fail
  obtain ⟨W', hW'⟩ : ∃ W', W' = w6.alloc (.cells #[.int .i64 (pw), .int .i64 (ph), .slice (some ⟨qb, qo, none⟩) (ql.length) (qc)] 26) := ⟨_, rfl⟩
  rw [← hW']
  have hb : Below w6.heap.size w6 W' := by rw [hW']; exact (Below.refl _ _).alloc (Nat.le_refl _) _
  have hF : PicAt w6.heap.size (pw) (ph) (some ⟨qb, qo, none⟩) (ql.length) (qc) W' := by rw [hW']; exact PicAt.new _ _ _ _ _ _ _
  clear hW'
  obtain ⟨w7, rfl⟩ : ∃ w : World, w = W' := ⟨_, rfl⟩
  clear c0 c1 c2 c3 c4 c5 c6 c7 c8 c9 c10 c11 c12 c13
  have HPX := hid (HPX.out.below hb)
  have HQX := hid (HQX.out.below hb)
  have HQP := hid (HQP.out.below hb)
  have CE7 := hid (CE6.out.below hb z6)
  have hB7 : Below w.heap.size w w7 := bnext hB6 hb
  have z7 : w.heap.size + 2 ≤ w7.heap.size := Nat.le_trans z6 hb.size
  clear hb hB6 z6 CE6
  obtain ⟨c0, c1, c2, c3, c4, c5, c6, c7, c8, c9, c10, c11, c12, c13⟩ := CE7.out
  obtain ⟨gq, hg⟩ : ∃ g, g = w6.heap.size := ⟨_, rfl⟩
  rw [← hg] at hF ⊢
  clear hg
  have Hgq := hid (hF)
  obtain ⟨qz, q0, q1, q2⟩ := Hgq.out
  clear hF
  have hPF := hid (picFault_fine.2 fq.out)
  go_wp2_with fail
  refine (piccheck_any ⟨⟨pw, ph, ql⟩, some ⟨qb, qo, none⟩, ql.length, qc⟩ _ HQP.out (by show ql.length ≤ 100; omega)).mono ?_
  rintro e w8 ⟨rfl, hb⟩
  clear c0 c1 c2 c3 c4 c5 c6 c7 c8 c9 c10 c11 c12 c13 qz q0 q1 q2
  have HPX := hid (HPX.out.below hb)
  have HQX := hid (HQX.out.below hb)
  have HQP := hid (HQP.out.below hb)
  have Hgq := hid (Hgq.out.below hb)
  have CE8 := hid (CE7.out.below hb z7)
  have hB8 : Below w.heap.size w w8 := bnext hB7 hb
  have z8 : w.heap.size + 2 ≤ w8.heap.size := Nat.le_trans z7 hb.size
  rw [hPF.out, errV_zero]
  clear hb hB7 z7 CE7
  obtain ⟨c0, c1, c2, c3, c4, c5, c6, c7, c8, c9, c10, c11, c12, c13⟩ := CE8.out
  obtain ⟨qz, q0, q1, q2⟩ := Hgq.out
  clear HQP
  obtain ⟨PW, PH, eW, eH, p1, p2, -, hlen⟩ := fine_nat fp.out
  simp only at eW eH hlen
  have bW : pw ≤ 8 := fp.out.2.1
  have bH : ph ≤ 8 := fp.out.2.2.2.1
  have EW := hid eW
  have EH := hid eH
  have Hlen := hid hlen
  have hw0 : 0 ≤ pw := by omega
  have hh0 : 0 ≤ ph := by omega
  have hpl : pn = pl.length := hpn.symm
  have HPN := hid hpl
  have fs := hid fo.out.2.2
  have fob := fo.out.1
  simp only at fob
  have frb := rectFault_bd fo.out.2.1
  simp only at frb
  obtain ⟨-, -, fx1, fx2, fy1, fy2⟩ := fob
  obtain ⟨⟨rx1, rx2⟩, ⟨ry1, ry2⟩, ⟨rw1, rw2⟩, rh1, rh2⟩ := frb
  have sW1 : 1 ≤ ow := fs.out.1
  have sW2 : ow ≤ 8 := fs.out.2.1
  have sH1 : 1 ≤ oh := fs.out.2.2.1
  have sH2 : oh ≤ 8 := fs.out.2.2.2.1
  have hlo := pic_len fs.out
  simp only at hlo
  have HON := hid (H_o.out.1)
  obtain ⟨sb, so, rfl, -, -⟩ := H_o.out.open_ (by have := HON.out; omega)
  have hoo := H_o.out.below hB8
  have HOX := hid (pixs_in hoo (by have := HON.out; omega))
  clear eW eH hlen hpl hpn hoo
  go_wp2_with fail
  clear c0 c1 c2 c3 c4 c5 c6 c7 c8 c9 c10 c11 c12 c13 qz q0 q1 q2
  go_loopw [7] (fun yv wr => ∃ j : Nat, yv = .int .i64 j ∧ (j : Int) ≤ ph ∧ Below w8.heap.size w8 wr) (fun yv _ => (ph - intOf yv).toNat)
  case atStart => exact ⟨0, rfl, hh0, Below.refl _ _⟩
  case round =>
  obtain ⟨j, rfl, hjl, hbel⟩ := hrel
  obtain ⟨c0, c1, c2, c3, c4, c5, c6, c7, c8, c9, c10, c11, c12, c13⟩ := CE8.out
  obtain ⟨qz, q0, q1, q2⟩ := Hgq.out
  have hb := hbel
  have hL := hbel
  clear hbel
  obtain ⟨w9, rfl⟩ : ∃ wo : World, wo = wr := ⟨_, rfl⟩
  clear c0 c1 c2 c3 c4 c5 c6 c7 c8 c9 c10 c11 c12 c13 qz q0 q1 q2
  have HPX := hid (HPX.out.below hb)
  have HQX := hid (HQX.out.below hb)
  have Hgq := hid (Hgq.out.below hb)
  have HOX := hid (HOX.out.below hb)
  have CE9 := hid (CE8.out.below hb z8)
  have hB9 : Below w.heap.size w w9 := bnext hB8 hb
  have z9 : w.heap.size + 2 ≤ w9.heap.size := Nat.le_trans z8 hb.size
  clear hb hB8 z8 CE8
  obtain ⟨c0, c1, c2, c3, c4, c5, c6, c7, c8, c9, c10, c11, c12, c13⟩ := CE9.out
  obtain ⟨qz, q0, q1, q2⟩ := Hgq.out
  by_cases hj : (j : Int) < ph
  case neg =>
    go_wp2_with fail
    go_ret
    exact ⟨rfl, hB9⟩
  go_wp2_with fail
  clear c0 c1 c2 c3 c4 c5 c6 c7 c8 c9 c10 c11 c12 c13 qz q0 q1 q2
  go_loopw [8] (fun xv wr => ∃ i : Nat, xv = .int .i64 i ∧ (i : Int) ≤ pw ∧ Below w9.heap.size w9 wr) (fun xv _ => (pw - intOf xv).toNat)
  case atStart => exact ⟨0, rfl, hw0, Below.refl _ _⟩
  case round =>
  obtain ⟨i, rfl, hil, hbel⟩ := hrel
  obtain ⟨c0, c1, c2, c3, c4, c5, c6, c7, c8, c9, c10, c11, c12, c13⟩ := CE9.out
  obtain ⟨qz, q0, q1, q2⟩ := Hgq.out
  have hb := hbel
  have hM := hbel
  clear hbel
  obtain ⟨w10, rfl⟩ : ∃ wo : World, wo = wr := ⟨_, rfl⟩
  clear c0 c1 c2 c3 c4 c5 c6 c7 c8 c9 c10 c11 c12 c13 qz q0 q1 q2
  have HPX := hid (HPX.out.below hb)
  have HQX := hid (HQX.out.below hb)
  have Hgq := hid (Hgq.out.below hb)
  have HOX := hid (HOX.out.below hb)
  have hL := bnext hL hb
  have CE10 := hid (CE9.out.below hb z9)
  have hB10 : Below w.heap.size w w10 := bnext hB9 hb
  have z10 : w.heap.size + 2 ≤ w10.heap.size := Nat.le_trans z9 hb.size
  clear hb hB9 z9 CE9
  obtain ⟨c0, c1, c2, c3, c4, c5, c6, c7, c8, c9, c10, c11, c12, c13⟩ := CE10.out
  obtain ⟨qz, q0, q1, q2⟩ := Hgq.out
  by_cases hi : (i : Int) < pw
  case neg =>
    go_wp2_with fail
    go_roundw
    case rel => exact ⟨j + 1, by go_num, by omega, hL⟩
    case measure => simp [intOf]; omega
  have hjH : j < PH := by have := EH.out; omega
  have hiW : i < PW := by have := EW.out; omega
  obtain ⟨k1, k2, hget⟩ := HG.out j i PW PH EW.out EH.out hjH hiW
  try simp only at k1 k2 hget
  have hJP : (j : Int) * pw = ((j * PW : Nat) : Int) := by rw [EW.out]; simp
  have hKn : j * PW + i < 64 := by omega
  obtain ⟨JP, hJ⟩ : ∃ JP, j * PW = JP := ⟨_, rfl⟩
  simp only [hJ] at hJP k1 k2 hget hKn
  have Hget := hid hget
  have w1 : IntKind.i64.wrap ((j : Int) * pw) = (JP : Int) := by rw [hJP]; exact IntWalk.i64_in _ (by omega)
  clear hget hJP hJ
  obtain ⟨KK, hKK⟩ : ∃ KK, JP + i = KK := ⟨_, rfl⟩
  have w2 : IntKind.i64.wrap ((JP : Int) + (i : Int)) = (KK : Int) := by rw [show (JP : Int) + (i : Int) = (KK : Int) by omega]; exact IntWalk.i64_in _ (by omega)
  simp only [hKK] at k1 k2 Hget
  have x1 : (0 : Int) ≤ (KK : Int) := by omega
  have x2 : (KK : Int) < (pn : Int) := by have := HPN.out; omega
  have x3 : (KK : Int) < (ql.length : Int) := by omega
  clear hKK hKn
  have HCLIP := hid (fun W => has_any ⟨orx, ory, orw, orh⟩ (i : Int) (j : Int) (by simp only; omega) (by simp only; omega) (by simp only; omega) (by simp only; omega) W)
  have HREC := hid (fun W => has_any ⟨ox, oy, ow, oh⟩ (i : Int) (j : Int) (by simp only; omega) (by simp only; omega) (by simp only; omega) (by simp only; omega) W)
  have HSRC := hid (fun h => src_get (q := ⟨ow, oh, ol⟩) (x := ox) (y := oy) (j := j) (i := i) fs.out h)
  unfold onB at Hget HSRC
  generalize hasB ⟨orx, ory, orw, orh⟩ (i : Int) (j : Int) = onc at *
  generalize hasB ⟨ox, oy, ow, oh⟩ (i : Int) (j : Int) = onp at *
  go_wp2_with fail
  refine (HCLIP.out _).mono ?_
  rintro e w11 ⟨rfl, hb⟩
  clear c0 c1 c2 c3 c4 c5 c6 c7 c8 c9 c10 c11 c12 c13 qz q0 q1 q2
  have HPX := hid (HPX.out.below hb)
  have HQX := hid (HQX.out.below hb)
  have Hgq := hid (Hgq.out.below hb)
  have HOX := hid (HOX.out.below hb)
  have hL := bnext hL hb
  have hM := bnext hM hb
  have CE11 := hid (CE10.out.below hb z10)
  have hB11 : Below w.heap.size w w11 := bnext hB10 hb
  have z11 : w.heap.size + 2 ≤ w11.heap.size := Nat.le_trans z10 hb.size
  clear hb hB10 z10 CE10
  obtain ⟨c0, c1, c2, c3, c4, c5, c6, c7, c8, c9, c10, c11, c12, c13⟩ := CE11.out
  obtain ⟨qz, q0, q1, q2⟩ := Hgq.out
  cases onc
  case false =>
    have hpb0 := Hget.out
    rw [getD_at k1, getD_at k2] at hpb0
    simp only [Bool.and_false, Bool.false_and, Bool.and_true, Bool.true_and, if_neg (Bool.false_ne_true)] at hpb0
    obtain ⟨a, ha⟩ : ∃ a, pl[KK] = a := ⟨_, rfl⟩
    obtain ⟨av, aa⟩ := a
    have hpa := ha
    have hpb : ql[KK] = (av, aa) := by rw [hpb0, ha]
    clear ha hpb0
    have HPB := hid hpb
    clear hpb
    obtain ⟨y0, y1⟩ := HPX.out.2 KK k2
    rw [hpa] at y0 y1
    have HPA := hid hpa
    clear hpa
    go_upto_region 16 with fail
    go_upto_region 17 with fail
    obtain ⟨W', hW'⟩ : ∃ W', W' = w11.alloc (.cells #[.int .i64 (av), .int .i64 (aa)] 23) := ⟨_, rfl⟩
    rw [← hW']
    have hb : Below w11.heap.size w11 W' := by rw [hW']; exact (Below.refl _ _).alloc (Nat.le_refl _) _
    have hF : PxAt w11.heap.size (av) (aa) W' := by rw [hW']; exact PxAt.new _ _ _ _
    clear hW'
    obtain ⟨w12, rfl⟩ : ∃ w : World, w = W' := ⟨_, rfl⟩
    clear c0 c1 c2 c3 c4 c5 c6 c7 c8 c9 c10 c11 c12 c13 qz q0 q1 q2
    have HPX := hid (HPX.out.below hb)
    have HQX := hid (HQX.out.below hb)
    have Hgq := hid (Hgq.out.below hb)
    have HOX := hid (HOX.out.below hb)
    have hL := bnext hL hb
    have hM := bnext hM hb
    have CE12 := hid (CE11.out.below hb z11)
    have hB12 : Below w.heap.size w w12 := bnext hB11 hb
    have z12 : w.heap.size + 2 ≤ w12.heap.size := Nat.le_trans z11 hb.size
    clear hb hB11 z11 CE11
    obtain ⟨c0, c1, c2, c3, c4, c5, c6, c7, c8, c9, c10, c11, c12, c13⟩ := CE12.out
    obtain ⟨qz, q0, q1, q2⟩ := Hgq.out
    obtain ⟨ga, hg⟩ : ∃ g, g = w11.heap.size := ⟨_, rfl⟩
    rw [← hg] at hF ⊢
    clear hg
    have Hga := hid (hF)
    obtain ⟨az, a0, a1⟩ := Hga.out
    clear hF
    clear y0 y1
    obtain ⟨y0, y1⟩ := HQX.out.2 KK k1
    rw [HPB.out] at y0 y1
    go_upto_region 18 with fail
    obtain ⟨W', hW'⟩ : ∃ W', W' = w12.alloc (.cells #[.int .i64 (av), .int .i64 (aa)] 23) := ⟨_, rfl⟩
    rw [← hW']
    have hb : Below w12.heap.size w12 W' := by rw [hW']; exact (Below.refl _ _).alloc (Nat.le_refl _) _
    have hF : PxAt w12.heap.size (av) (aa) W' := by rw [hW']; exact PxAt.new _ _ _ _
    clear hW'
    obtain ⟨w13, rfl⟩ : ∃ w : World, w = W' := ⟨_, rfl⟩
    clear c0 c1 c2 c3 c4 c5 c6 c7 c8 c9 c10 c11 c12 c13 qz q0 q1 q2 az a0 a1
    have HPX := hid (HPX.out.below hb)
    have HQX := hid (HQX.out.below hb)
    have Hgq := hid (Hgq.out.below hb)
    have HOX := hid (HOX.out.below hb)
    have Hga := hid (Hga.out.below hb)
    have hL := bnext hL hb
    have hM := bnext hM hb
    have CE13 := hid (CE12.out.below hb z12)
    have hB13 : Below w.heap.size w w13 := bnext hB12 hb
    have z13 : w.heap.size + 2 ≤ w13.heap.size := Nat.le_trans z12 hb.size
    clear hb hB12 z12 CE12
    obtain ⟨c0, c1, c2, c3, c4, c5, c6, c7, c8, c9, c10, c11, c12, c13⟩ := CE13.out
    obtain ⟨qz, q0, q1, q2⟩ := Hgq.out
    obtain ⟨az, a0, a1⟩ := Hga.out
    obtain ⟨gb, hg⟩ : ∃ g, g = w12.heap.size := ⟨_, rfl⟩
    rw [← hg] at hF ⊢
    clear hg
    have Hgb := hid (hF)
    obtain ⟨bz, b0, b1⟩ := Hgb.out
    clear hF
    clear y0 y1
    have hneq := neq_px_same (av, aa)
    simp only at hneq
    cases os
    all_goals
      go_wp2_with fail
      go_quiet (fail)
      go_wp2_with fail
      go_roundw
      case rel => exact ⟨i + 1, by go_num, by omega, below_drewN hM _⟩
      case measure => simp [intOf]; omega
  go_wp2_with fail
  refine (HREC.out _).mono ?_
  rintro e w12 ⟨rfl, hb⟩
  clear c0 c1 c2 c3 c4 c5 c6 c7 c8 c9 c10 c11 c12 c13 qz q0 q1 q2
  have HPX := hid (HPX.out.below hb)
  have HQX := hid (HQX.out.below hb)
  have Hgq := hid (Hgq.out.below hb)
  have HOX := hid (HOX.out.below hb)
  have hL := bnext hL hb
  have hM := bnext hM hb
  have CE12 := hid (CE11.out.below hb z11)
  have hB12 : Below w.heap.size w w12 := bnext hB11 hb
  have z12 : w.heap.size + 2 ≤ w12.heap.size := Nat.le_trans z11 hb.size
  clear hb hB11 z11 CE11
  obtain ⟨c0, c1, c2, c3, c4, c5, c6, c7, c8, c9, c10, c11, c12, c13⟩ := CE12.out
  obtain ⟨qz, q0, q1, q2⟩ := Hgq.out
  cases onp
  case false =>
    have hpb0 := Hget.out
    rw [getD_at k1, getD_at k2] at hpb0
    simp only [Bool.and_false, Bool.false_and, Bool.and_true, Bool.true_and, if_neg (Bool.false_ne_true)] at hpb0
    obtain ⟨a, ha⟩ : ∃ a, pl[KK] = a := ⟨_, rfl⟩
    obtain ⟨av, aa⟩ := a
    have hpa := ha
    have hpb : ql[KK] = (av, aa) := by rw [hpb0, ha]
    clear ha hpb0
    have HPB := hid hpb
    clear hpb
    obtain ⟨y0, y1⟩ := HPX.out.2 KK k2
    rw [hpa] at y0 y1
    have HPA := hid hpa
    clear hpa
    go_upto_region 16 with fail
    go_upto_region 17 with fail
    obtain ⟨W', hW'⟩ : ∃ W', W' = w12.alloc (.cells #[.int .i64 (av), .int .i64 (aa)] 23) := ⟨_, rfl⟩
    rw [← hW']
    have hb : Below w12.heap.size w12 W' := by rw [hW']; exact (Below.refl _ _).alloc (Nat.le_refl _) _
    have hF : PxAt w12.heap.size (av) (aa) W' := by rw [hW']; exact PxAt.new _ _ _ _
    clear hW'
    obtain ⟨w13, rfl⟩ : ∃ w : World, w = W' := ⟨_, rfl⟩
    clear c0 c1 c2 c3 c4 c5 c6 c7 c8 c9 c10 c11 c12 c13 qz q0 q1 q2
    have HPX := hid (HPX.out.below hb)
    have HQX := hid (HQX.out.below hb)
    have Hgq := hid (Hgq.out.below hb)
    have HOX := hid (HOX.out.below hb)
    have hL := bnext hL hb
    have hM := bnext hM hb
    have CE13 := hid (CE12.out.below hb z12)
    have hB13 : Below w.heap.size w w13 := bnext hB12 hb
    have z13 : w.heap.size + 2 ≤ w13.heap.size := Nat.le_trans z12 hb.size
    clear hb hB12 z12 CE12
    obtain ⟨c0, c1, c2, c3, c4, c5, c6, c7, c8, c9, c10, c11, c12, c13⟩ := CE13.out
    obtain ⟨qz, q0, q1, q2⟩ := Hgq.out
    obtain ⟨ga, hg⟩ : ∃ g, g = w12.heap.size := ⟨_, rfl⟩
    rw [← hg] at hF ⊢
    clear hg
    have Hga := hid (hF)
    obtain ⟨az, a0, a1⟩ := Hga.out
    clear hF
    clear y0 y1
    obtain ⟨y0, y1⟩ := HQX.out.2 KK k1
    rw [HPB.out] at y0 y1
    go_upto_region 18 with fail
    obtain ⟨W', hW'⟩ : ∃ W', W' = w13.alloc (.cells #[.int .i64 (av), .int .i64 (aa)] 23) := ⟨_, rfl⟩
    rw [← hW']
    have hb : Below w13.heap.size w13 W' := by rw [hW']; exact (Below.refl _ _).alloc (Nat.le_refl _) _
    have hF : PxAt w13.heap.size (av) (aa) W' := by rw [hW']; exact PxAt.new _ _ _ _
    clear hW'
    obtain ⟨w14, rfl⟩ : ∃ w : World, w = W' := ⟨_, rfl⟩
    clear c0 c1 c2 c3 c4 c5 c6 c7 c8 c9 c10 c11 c12 c13 qz q0 q1 q2 az a0 a1
    have HPX := hid (HPX.out.below hb)
    have HQX := hid (HQX.out.below hb)
    have Hgq := hid (Hgq.out.below hb)
    have HOX := hid (HOX.out.below hb)
    have Hga := hid (Hga.out.below hb)
    have hL := bnext hL hb
    have hM := bnext hM hb
    have CE14 := hid (CE13.out.below hb z13)
    have hB14 : Below w.heap.size w w14 := bnext hB13 hb
    have z14 : w.heap.size + 2 ≤ w14.heap.size := Nat.le_trans z13 hb.size
    clear hb hB13 z13 CE13
    obtain ⟨c0, c1, c2, c3, c4, c5, c6, c7, c8, c9, c10, c11, c12, c13⟩ := CE14.out
    obtain ⟨qz, q0, q1, q2⟩ := Hgq.out
    obtain ⟨az, a0, a1⟩ := Hga.out
    obtain ⟨gb, hg⟩ : ∃ g, g = w13.heap.size := ⟨_, rfl⟩
    rw [← hg] at hF ⊢
    clear hg
    have Hgb := hid (hF)
    obtain ⟨bz, b0, b1⟩ := Hgb.out
    clear hF
    clear y0 y1
    have hneq := neq_px_same (av, aa)
    simp only at hneq
    cases os
    all_goals
      go_wp2_with fail
      go_quiet (fail)
      go_wp2_with fail
      go_roundw
      case rel => exact ⟨i + 1, by go_num, by omega, below_drewN hM _⟩
      case measure => simp [intOf]; omega
  cases os
  case false =>
    have hpb0 := Hget.out
    rw [getD_at k1, getD_at k2] at hpb0
    simp only [Bool.and_false, Bool.false_and, Bool.and_true, Bool.true_and, if_neg (Bool.false_ne_true)] at hpb0
    obtain ⟨a, ha⟩ : ∃ a, pl[KK] = a := ⟨_, rfl⟩
    obtain ⟨av, aa⟩ := a
    have hpa := ha
    have hpb : ql[KK] = (av, aa) := by rw [hpb0, ha]
    clear ha hpb0
    have HPB := hid hpb
    clear hpb
    obtain ⟨y0, y1⟩ := HPX.out.2 KK k2
    rw [hpa] at y0 y1
    have HPA := hid hpa
    clear hpa
    go_upto_region 16 with fail
    go_upto_region 17 with fail
    obtain ⟨W', hW'⟩ : ∃ W', W' = w12.alloc (.cells #[.int .i64 (av), .int .i64 (aa)] 23) := ⟨_, rfl⟩
    rw [← hW']
    have hb : Below w12.heap.size w12 W' := by rw [hW']; exact (Below.refl _ _).alloc (Nat.le_refl _) _
    have hF : PxAt w12.heap.size (av) (aa) W' := by rw [hW']; exact PxAt.new _ _ _ _
    clear hW'
    obtain ⟨w13, rfl⟩ : ∃ w : World, w = W' := ⟨_, rfl⟩
    clear c0 c1 c2 c3 c4 c5 c6 c7 c8 c9 c10 c11 c12 c13 qz q0 q1 q2
    have HPX := hid (HPX.out.below hb)
    have HQX := hid (HQX.out.below hb)
    have Hgq := hid (Hgq.out.below hb)
    have HOX := hid (HOX.out.below hb)
    have hL := bnext hL hb
    have hM := bnext hM hb
    have CE13 := hid (CE12.out.below hb z12)
    have hB13 : Below w.heap.size w w13 := bnext hB12 hb
    have z13 : w.heap.size + 2 ≤ w13.heap.size := Nat.le_trans z12 hb.size
    clear hb hB12 z12 CE12
    obtain ⟨c0, c1, c2, c3, c4, c5, c6, c7, c8, c9, c10, c11, c12, c13⟩ := CE13.out
    obtain ⟨qz, q0, q1, q2⟩ := Hgq.out
    obtain ⟨ga, hg⟩ : ∃ g, g = w12.heap.size := ⟨_, rfl⟩
    rw [← hg] at hF ⊢
    clear hg
    have Hga := hid (hF)
    obtain ⟨az, a0, a1⟩ := Hga.out
    clear hF
    clear y0 y1
    obtain ⟨y0, y1⟩ := HQX.out.2 KK k1
    rw [HPB.out] at y0 y1
    go_upto_region 18 with fail
    obtain ⟨W', hW'⟩ : ∃ W', W' = w13.alloc (.cells #[.int .i64 (av), .int .i64 (aa)] 23) := ⟨_, rfl⟩
    rw [← hW']
    have hb : Below w13.heap.size w13 W' := by rw [hW']; exact (Below.refl _ _).alloc (Nat.le_refl _) _
    have hF : PxAt w13.heap.size (av) (aa) W' := by rw [hW']; exact PxAt.new _ _ _ _
    clear hW'
    obtain ⟨w14, rfl⟩ : ∃ w : World, w = W' := ⟨_, rfl⟩
    clear c0 c1 c2 c3 c4 c5 c6 c7 c8 c9 c10 c11 c12 c13 qz q0 q1 q2 az a0 a1
    have HPX := hid (HPX.out.below hb)
    have HQX := hid (HQX.out.below hb)
    have Hgq := hid (Hgq.out.below hb)
    have HOX := hid (HOX.out.below hb)
    have Hga := hid (Hga.out.below hb)
    have hL := bnext hL hb
    have hM := bnext hM hb
    have CE14 := hid (CE13.out.below hb z13)
    have hB14 : Below w.heap.size w w14 := bnext hB13 hb
    have z14 : w.heap.size + 2 ≤ w14.heap.size := Nat.le_trans z13 hb.size
    clear hb hB13 z13 CE13
    obtain ⟨c0, c1, c2, c3, c4, c5, c6, c7, c8, c9, c10, c11, c12, c13⟩ := CE14.out
    obtain ⟨qz, q0, q1, q2⟩ := Hgq.out
    obtain ⟨az, a0, a1⟩ := Hga.out
    obtain ⟨gb, hg⟩ : ∃ g, g = w13.heap.size := ⟨_, rfl⟩
    rw [← hg] at hF ⊢
    clear hg
    have Hgb := hid (hF)
    obtain ⟨bz, b0, b1⟩ := Hgb.out
    clear hF
    clear y0 y1
    have hneq := neq_px_same (av, aa)
    simp only at hneq
    go_wp2_with fail
    go_quiet (fail)
    go_wp2_with fail
    go_roundw
    case rel => exact ⟨i + 1, by go_num, by omega, below_drewN hM _⟩
    case measure => simp [intOf]; omega
  obtain ⟨SS, hS, eS, eSrc⟩ := HSRC.out rfl
  try simp only at hS eS eSrc
  have fpx := fp.out.2.2.2.2.2 pl[KK] (List.getElem_mem k2)
  have fsx := fs.out.2.2.2.2.2 ol[SS] (List.getElem_mem hS)
  obtain ⟨a, ha⟩ : ∃ a, pl[KK] = a := ⟨_, rfl⟩
  obtain ⟨sx, hs⟩ : ∃ a, ol[SS] = a := ⟨_, rfl⟩
  obtain ⟨av, aa⟩ := a
  obtain ⟨sv, sa⟩ := sx
  rw [ha] at fpx
  rw [hs] at fsx
  have HS := hid hs
  have fs1 : 0 ≤ sv := fsx.1
  have fs2 : sv ≤ 255 := fsx.2.1
  obtain ⟨M1, hM1⟩ : ∃ M1 : Int, (j : Int) - oy = M1 := ⟨_, rfl⟩
  obtain ⟨M2, hM2⟩ : ∃ M2 : Int, M1 * ow = M2 := ⟨_, rfl⟩
  obtain ⟨mb1, mb2⟩ := mul_bd M1 ow (by omega) (by omega) sW1 sW2
  rw [hM1, hM2] at eS
  rw [hM2] at mb1 mb2
  have w3 : IntKind.i64.wrap ((j : Int) - oy) = M1 := by rw [hM1]; exact IntWalk.i64_in _ (by omega)
  have w4 : IntKind.i64.wrap (M1 * ow) = M2 := by rw [hM2]; exact IntWalk.i64_in _ (by omega)
  have w5 : IntKind.i64.wrap (M2 + (i : Int)) = M2 + (i : Int) := IntWalk.i64_in _ (by omega)
  have w6 : IntKind.i64.wrap (M2 + (i : Int) - ox) = (SS : Int) := by rw [eS]; exact IntWalk.i64_in _ (by omega)
  have x4 : (0 : Int) ≤ (SS : Int) := by omega
  have x5 : (SS : Int) < (on : Int) := by have := HON.out; omega
  clear hM1 hM2 eS mb1 mb2 fsx hs
  by_cases h255 : sa = 255
  case pos =>
    subst h255
    have hpb0 := Hget.out
    rw [getD_at k1, getD_at k2] at hpb0
    simp only [Bool.and_true, Bool.and_self, if_true] at hpb0
    rw [eSrc, HS.out, ha] at hpb0
    have hpa := ha
    have hpb : ql[KK] = (sv, 255) := by rw [hpb0]; exact overP_all _ fs1 fs2 fpx
    clear hpb0 ha
    have HPB := hid hpb
    clear hpb
    obtain ⟨y0, y1⟩ := HPX.out.2 KK k2
    rw [hpa] at y0 y1
    have HPA := hid hpa
    clear hpa
    go_upto_region 16 with fail
    go_upto_region 17 with fail
    obtain ⟨W', hW'⟩ : ∃ W', W' = w12.alloc (.cells #[.int .i64 (av), .int .i64 (aa)] 23) := ⟨_, rfl⟩
    rw [← hW']
    have hb : Below w12.heap.size w12 W' := by rw [hW']; exact (Below.refl _ _).alloc (Nat.le_refl _) _
    have hF : PxAt w12.heap.size (av) (aa) W' := by rw [hW']; exact PxAt.new _ _ _ _
    clear hW'
    obtain ⟨w13, rfl⟩ : ∃ w : World, w = W' := ⟨_, rfl⟩
    clear c0 c1 c2 c3 c4 c5 c6 c7 c8 c9 c10 c11 c12 c13 qz q0 q1 q2
    have HPX := hid (HPX.out.below hb)
    have HQX := hid (HQX.out.below hb)
    have Hgq := hid (Hgq.out.below hb)
    have HOX := hid (HOX.out.below hb)
    have hL := bnext hL hb
    have hM := bnext hM hb
    have CE13 := hid (CE12.out.below hb z12)
    have hB13 : Below w.heap.size w w13 := bnext hB12 hb
    have z13 : w.heap.size + 2 ≤ w13.heap.size := Nat.le_trans z12 hb.size
    clear hb hB12 z12 CE12
    obtain ⟨c0, c1, c2, c3, c4, c5, c6, c7, c8, c9, c10, c11, c12, c13⟩ := CE13.out
    obtain ⟨qz, q0, q1, q2⟩ := Hgq.out
    obtain ⟨ga, hg⟩ : ∃ g, g = w12.heap.size := ⟨_, rfl⟩
    rw [← hg] at hF ⊢
    clear hg
    have Hga := hid (hF)
    obtain ⟨az, a0, a1⟩ := Hga.out
    clear hF
    clear y0 y1
    obtain ⟨y0, y1⟩ := HQX.out.2 KK k1
    rw [HPB.out] at y0 y1
    go_upto_region 18 with fail
    obtain ⟨W', hW'⟩ : ∃ W', W' = w13.alloc (.cells #[.int .i64 (sv), .int .i64 (255)] 23) := ⟨_, rfl⟩
    rw [← hW']
    have hb : Below w13.heap.size w13 W' := by rw [hW']; exact (Below.refl _ _).alloc (Nat.le_refl _) _
    have hF : PxAt w13.heap.size (sv) (255) W' := by rw [hW']; exact PxAt.new _ _ _ _
    clear hW'
    obtain ⟨w14, rfl⟩ : ∃ w : World, w = W' := ⟨_, rfl⟩
    clear c0 c1 c2 c3 c4 c5 c6 c7 c8 c9 c10 c11 c12 c13 qz q0 q1 q2 az a0 a1
    have HPX := hid (HPX.out.below hb)
    have HQX := hid (HQX.out.below hb)
    have Hgq := hid (Hgq.out.below hb)
    have HOX := hid (HOX.out.below hb)
    have Hga := hid (Hga.out.below hb)
    have hL := bnext hL hb
    have hM := bnext hM hb
    have CE14 := hid (CE13.out.below hb z13)
    have hB14 : Below w.heap.size w w14 := bnext hB13 hb
    have z14 : w.heap.size + 2 ≤ w14.heap.size := Nat.le_trans z13 hb.size
    clear hb hB13 z13 CE13
    obtain ⟨c0, c1, c2, c3, c4, c5, c6, c7, c8, c9, c10, c11, c12, c13⟩ := CE14.out
    obtain ⟨qz, q0, q1, q2⟩ := Hgq.out
    obtain ⟨az, a0, a1⟩ := Hga.out
    obtain ⟨gb, hg⟩ : ∃ g, g = w13.heap.size := ⟨_, rfl⟩
    rw [← hg] at hF ⊢
    clear hg
    have Hgb := hid (hF)
    obtain ⟨bz, b0, b1⟩ := Hgb.out
    clear hF
    clear y0 y1
    obtain ⟨s0, s1⟩ := HOX.out.2 SS hS
    rw [HS.out] at s0 s1
    have hneq := neq_px_same (sv, 255)
    simp only at hneq
    go_wp2_with fail
    go_quiet (fail)
    go_wp2_with fail
    go_roundw
    case rel => exact ⟨i + 1, by go_num, by omega, below_drewN hM _⟩
    case measure => simp [intOf]; omega
  case neg =>
    have hpb0 := Hget.out
    rw [getD_at k1, getD_at k2] at hpb0
    simp only [Bool.and_true, Bool.and_self, if_true] at hpb0
    rw [eSrc, HS.out, ha] at hpb0
    have hpa := ha
    obtain ⟨bx, hbx⟩ : ∃ b, overP (sv, sa) (av, aa) = b := ⟨_, rfl⟩
    obtain ⟨bv, ba⟩ := bx
    have hpb : ql[KK] = (bv, ba) := by rw [hpb0, hbx]
    clear hpb0 ha hbx
    have HPB := hid hpb
    clear hpb
    obtain ⟨y0, y1⟩ := HPX.out.2 KK k2
    rw [hpa] at y0 y1
    have HPA := hid hpa
    clear hpa
    go_upto_region 16 with fail
    go_upto_region 17 with fail
    obtain ⟨W', hW'⟩ : ∃ W', W' = w12.alloc (.cells #[.int .i64 (av), .int .i64 (aa)] 23) := ⟨_, rfl⟩
    rw [← hW']
    have hb : Below w12.heap.size w12 W' := by rw [hW']; exact (Below.refl _ _).alloc (Nat.le_refl _) _
    have hF : PxAt w12.heap.size (av) (aa) W' := by rw [hW']; exact PxAt.new _ _ _ _
    clear hW'
    obtain ⟨w13, rfl⟩ : ∃ w : World, w = W' := ⟨_, rfl⟩
    clear c0 c1 c2 c3 c4 c5 c6 c7 c8 c9 c10 c11 c12 c13 qz q0 q1 q2
    have HPX := hid (HPX.out.below hb)
    have HQX := hid (HQX.out.below hb)
    have Hgq := hid (Hgq.out.below hb)
    have HOX := hid (HOX.out.below hb)
    have hL := bnext hL hb
    have hM := bnext hM hb
    have CE13 := hid (CE12.out.below hb z12)
    have hB13 : Below w.heap.size w w13 := bnext hB12 hb
    have z13 : w.heap.size + 2 ≤ w13.heap.size := Nat.le_trans z12 hb.size
    clear hb hB12 z12 CE12
    obtain ⟨c0, c1, c2, c3, c4, c5, c6, c7, c8, c9, c10, c11, c12, c13⟩ := CE13.out
    obtain ⟨qz, q0, q1, q2⟩ := Hgq.out
    obtain ⟨ga, hg⟩ : ∃ g, g = w12.heap.size := ⟨_, rfl⟩
    rw [← hg] at hF ⊢
    clear hg
    have Hga := hid (hF)
    obtain ⟨az, a0, a1⟩ := Hga.out
    clear hF
    clear y0 y1
    obtain ⟨y0, y1⟩ := HQX.out.2 KK k1
    rw [HPB.out] at y0 y1
    go_upto_region 18 with fail
    obtain ⟨W', hW'⟩ : ∃ W', W' = w13.alloc (.cells #[.int .i64 (bv), .int .i64 (ba)] 23) := ⟨_, rfl⟩
    rw [← hW']
    have hb : Below w13.heap.size w13 W' := by rw [hW']; exact (Below.refl _ _).alloc (Nat.le_refl _) _
    have hF : PxAt w13.heap.size (bv) (ba) W' := by rw [hW']; exact PxAt.new _ _ _ _
    clear hW'
    obtain ⟨w14, rfl⟩ : ∃ w : World, w = W' := ⟨_, rfl⟩
    clear c0 c1 c2 c3 c4 c5 c6 c7 c8 c9 c10 c11 c12 c13 qz q0 q1 q2 az a0 a1
    have HPX := hid (HPX.out.below hb)
    have HQX := hid (HQX.out.below hb)
    have Hgq := hid (Hgq.out.below hb)
    have HOX := hid (HOX.out.below hb)
    have Hga := hid (Hga.out.below hb)
    have hL := bnext hL hb
    have hM := bnext hM hb
    have CE14 := hid (CE13.out.below hb z13)
    have hB14 : Below w.heap.size w w14 := bnext hB13 hb
    have z14 : w.heap.size + 2 ≤ w14.heap.size := Nat.le_trans z13 hb.size
    clear hb hB13 z13 CE13
    obtain ⟨c0, c1, c2, c3, c4, c5, c6, c7, c8, c9, c10, c11, c12, c13⟩ := CE14.out
    obtain ⟨qz, q0, q1, q2⟩ := Hgq.out
    obtain ⟨az, a0, a1⟩ := Hga.out
    obtain ⟨gb, hg⟩ : ∃ g, g = w13.heap.size := ⟨_, rfl⟩
    rw [← hg] at hF ⊢
    clear hg
    have Hgb := hid (hF)
    obtain ⟨bz, b0, b1⟩ := Hgb.out
    clear hF
    clear y0 y1
    obtain ⟨s0, s1⟩ := HOX.out.2 SS hS
    rw [HS.out] at s0 s1
    have hsa : (sa == 255) = false := by simp; exact h255
    go_wp2_with fail
    go_quiet (fail)
    go_wp2_with fail
    go_roundw
    case rel => exact ⟨i + 1, by go_num, by omega, below_drewN hM _⟩
    case measure => simp [intOf]; omega
theorem topLay_row (w : World) (p : FAt FPic) (hp : PicOk w p) (o : FAt FObj) (ho : ObOk w o) :
    Calls Try.prog 5 #[.agg #[.int .i64 p.x.w, .int .i64 p.x.h, .slice p.A p.n p.c], .agg #[.int .i64 o.x.id, .int .i64 o.x.x, .int .i64 o.x.y, .int .i64 o.x.pic.w, .int .i64 o.x.pic.h, .slice o.A o.n o.c, .int .i64 o.x.clip.x, .int .i64 o.x.clip.y, .int .i64 o.x.clip.w, .int .i64 o.x.clip.h, .bool o.x.shown]] w (Ret (.bool true) w) :=
  topLay_walk p.x.w p.x.h p.x.p p.A p.n p.c o.x.id o.x.x o.x.y o.x.pic.w o.x.pic.h o.x.pic.p o.A o.n o.c o.x.clip.x o.x.clip.y o.x.clip.w o.x.clip.h o.x.shown w hp.1 ho.1 
end Fb
