/- The law BlendSays: it returns true. Conditions: none but the arguments' shape. -/
import Derived.Test.YtjbnmgobgcgjmaaLay
import Derived.Test.YtjbnmgobgcgjmaaOpen2
import Derived.Test.YtjbnmgobgcgjmaaChangedPut
import Derived.Test.YtjbnmgobgcgjmaaPlain
import Derived.Test.YtjbnmgobgcgjmaaReelSame
import Derived.Deep.DrawnRows
namespace Fb
open Go Go.Proofs Go.RowKit Go.Sort
theorem pixs_at {w : World} {b off n : Nat} {l : List Px} (h : Pixs w (some ⟨b, off, none⟩) n l) (hn : 0 < n) : b < w.heap.size ∧ PixAt w b off l := by
  obtain ⟨b', off', e, hb, ha⟩ := h.open_ hn
  injection e with e
  injection e with e1 e2
  subst e1 e2
  exact ⟨hb, ha⟩
theorem same_self (X : FPic) (A B : Option Addr) (c d : Nat) (w : World) (ha : Pixs w A X.p.length X.p) (hb : Pixs w B X.p.length X.p) (hl : X.p.length ≤ 1000000) :
    Calls Try.prog 16 #[.agg #[.int .i64 X.w, .int .i64 X.h, .slice A X.p.length c], .agg #[.int .i64 X.w, .int .i64 X.h, .slice B X.p.length d]] w (Ret (.bool true) w) := by
  have h := rsame_pic_any ⟨X, A, X.p.length, c⟩ ⟨X, B, X.p.length, d⟩ w ha hb hl hl
  have e : samePic X X = true := by unfold samePic; simp
  simp only [e] at h
  exact h
attribute [local go_sem ↓] Go.wp_at_zero Go.wp_at_succ
theorem pixB_fine {v a : Int} (h : pixB v a = true) : (0 ≤ v ∧ v ≤ 255) ∧ (0 ≤ a ∧ a ≤ 255) := by
  unfold pixB at h
  have := of_decide_eq_true h
  omega
def BoxesBlendSays (w : World) (av : Int) (aa : Int) (bv : Int) (ba : Int) (pw : Int) (ph : Int) (pl : List Px) (pA : Option Addr) (pn pc : Nat) (qw : Int) (qh : Int) (ql : List Px) (qA : Option Addr) (qn qc : Nat) (oi : Int) (ox : Int) (oy : Int) (ow : Int) (oh : Int) (ol : List Px) (oA : Option Addr) (on oc : Nat) (orx : Int) (ory : Int) (orw : Int) (orh : Int) (os : Bool) (x : Int) (y : Int) (W : World) : Prop := W.cell? ⟨w.heap.size, 0, none⟩ = some (.int .i64 av) ∧ W.cell? ⟨w.heap.size, 1, none⟩ = some (.int .i64 aa) ∧ W.cell? ⟨w.heap.size + 1, 0, none⟩ = some (.int .i64 bv) ∧ W.cell? ⟨w.heap.size + 1, 1, none⟩ = some (.int .i64 ba) ∧ W.cell? ⟨w.heap.size + 1 + 1, 0, none⟩ = some (.int .i64 pw) ∧ W.cell? ⟨w.heap.size + 1 + 1, 1, none⟩ = some (.int .i64 ph) ∧ W.cell? ⟨w.heap.size + 1 + 1, 2, none⟩ = some (.slice pA pn pc) ∧ W.cell? ⟨w.heap.size + 1 + 1 + 1, 0, none⟩ = some (.int .i64 qw) ∧ W.cell? ⟨w.heap.size + 1 + 1 + 1, 1, none⟩ = some (.int .i64 qh) ∧ W.cell? ⟨w.heap.size + 1 + 1 + 1, 2, none⟩ = some (.slice qA qn qc) ∧ W.cell? ⟨w.heap.size + 1 + 1 + 1 + 1, 0, none⟩ = some (.int .i64 oi) ∧ W.cell? ⟨w.heap.size + 1 + 1 + 1 + 1, 1, none⟩ = some (.int .i64 ox) ∧ W.cell? ⟨w.heap.size + 1 + 1 + 1 + 1, 2, none⟩ = some (.int .i64 oy) ∧ W.cell? ⟨w.heap.size + 1 + 1 + 1 + 1, 3, none⟩ = some (.int .i64 ow) ∧ W.cell? ⟨w.heap.size + 1 + 1 + 1 + 1, 4, none⟩ = some (.int .i64 oh) ∧ W.cell? ⟨w.heap.size + 1 + 1 + 1 + 1, 5, none⟩ = some (.slice oA on oc) ∧ W.cell? ⟨w.heap.size + 1 + 1 + 1 + 1, 6, none⟩ = some (.int .i64 orx) ∧ W.cell? ⟨w.heap.size + 1 + 1 + 1 + 1, 7, none⟩ = some (.int .i64 ory) ∧ W.cell? ⟨w.heap.size + 1 + 1 + 1 + 1, 8, none⟩ = some (.int .i64 orw) ∧ W.cell? ⟨w.heap.size + 1 + 1 + 1 + 1, 9, none⟩ = some (.int .i64 orh) ∧ W.cell? ⟨w.heap.size + 1 + 1 + 1 + 1, 10, none⟩ = some (.bool os)
theorem kc_BlendSays {w w' : World} {B : Nat} (hb : Below B w w') {b o : Nat} {v : Value} (h : b < B) (hc : w.cell? ⟨b, o, none⟩ = some v) : w'.cell? ⟨b, o, none⟩ = some v := (hb.cell (p := ⟨b, o, none⟩) h).trans hc
theorem BoxesBlendSays.below {w W W' : World} {av : Int} {aa : Int} {bv : Int} {ba : Int} {pw : Int} {ph : Int} {pl : List Px} {pA : Option Addr} {pn pc : Nat} {qw : Int} {qh : Int} {ql : List Px} {qA : Option Addr} {qn qc : Nat} {oi : Int} {ox : Int} {oy : Int} {ow : Int} {oh : Int} {ol : List Px} {oA : Option Addr} {on oc : Nat} {orx : Int} {ory : Int} {orw : Int} {orh : Int} {os : Bool} {x : Int} {y : Int} (h : BoxesBlendSays w av aa bv ba pw ph pl pA pn pc qw qh ql qA qn qc oi ox oy ow oh ol oA on oc orx ory orw orh os x y W) (hb : Below W.heap.size W W') (hs : w.heap.size + 5 ≤ W.heap.size) : BoxesBlendSays w av aa bv ba pw ph pl pA pn pc qw qh ql qA qn qc oi ox oy ow oh ol oA on oc orx ory orw orh os x y W' := by
  obtain ⟨c0, c1, c2, c3, c4, c5, c6, c7, c8, c9, c10, c11, c12, c13, c14, c15, c16, c17, c18, c19, c20⟩ := h
  exact ⟨kc_BlendSays hb (by omega) c0, kc_BlendSays hb (by omega) c1, kc_BlendSays hb (by omega) c2, kc_BlendSays hb (by omega) c3, kc_BlendSays hb (by omega) c4, kc_BlendSays hb (by omega) c5, kc_BlendSays hb (by omega) c6, kc_BlendSays hb (by omega) c7, kc_BlendSays hb (by omega) c8, kc_BlendSays hb (by omega) c9, kc_BlendSays hb (by omega) c10, kc_BlendSays hb (by omega) c11, kc_BlendSays hb (by omega) c12, kc_BlendSays hb (by omega) c13, kc_BlendSays hb (by omega) c14, kc_BlendSays hb (by omega) c15, kc_BlendSays hb (by omega) c16, kc_BlendSays hb (by omega) c17, kc_BlendSays hb (by omega) c18, kc_BlendSays hb (by omega) c19, kc_BlendSays hb (by omega) c20⟩
set_option maxRecDepth 100000 in
set_option maxHeartbeats 16000000 in
theorem blendSays_walk (av : Int) (aa : Int) (bv : Int) (ba : Int) (pw : Int) (ph : Int) (pl : List Px) (pA : Option Addr) (pn pc : Nat) (qw : Int) (qh : Int) (ql : List Px) (qA : Option Addr) (qn qc : Nat) (oi : Int) (ox : Int) (oy : Int) (ow : Int) (oh : Int) (ol : List Px) (oA : Option Addr) (on oc : Nat) (orx : Int) (ory : Int) (orw : Int) (orh : Int) (os : Bool) (x : Int) (y : Int) (w : World)  (h_p : Pixs w pA pn pl) (h_q : Pixs w qA qn ql) (h_o : Pixs w oA on ol) :
    Calls Try.prog 3 #[.agg #[.int .i64 av, .int .i64 aa], .agg #[.int .i64 bv, .int .i64 ba], .agg #[.int .i64 pw, .int .i64 ph, .slice pA pn pc], .agg #[.int .i64 qw, .int .i64 qh, .slice qA qn qc], .agg #[.int .i64 oi, .int .i64 ox, .int .i64 oy, .int .i64 ow, .int .i64 oh, .slice oA on oc, .int .i64 orx, .int .i64 ory, .int .i64 orw, .int .i64 orh, .bool os], .int .i64 x, .int .i64 y] w (Ret (.bool true) w) := by
  have H_p := hid h_p
  clear h_p
  have H_q := hid h_q
  clear h_q
  have H_o := hid h_o
  clear h_o
  go_enter Try.func3, Try.ntmps3
  go_upto_region 1 with fail
  obtain ⟨W0, hW0⟩ : ∃ W0, W0 = (((((w.alloc (.cells #[.int .i64 av, .int .i64 aa] 23)).alloc (.cells #[.int .i64 bv, .int .i64 ba] 23)).alloc (.cells #[.int .i64 pw, .int .i64 ph, .slice pA pn pc] 26)).alloc (.cells #[.int .i64 qw, .int .i64 qh, .slice qA qn qc] 26)).alloc (.cells #[.int .i64 oi, .int .i64 ox, .int .i64 oy, .int .i64 ow, .int .i64 oh, .slice oA on oc, .int .i64 orx, .int .i64 ory, .int .i64 orw, .int .i64 orh, .bool os] 30)) := ⟨_, rfl⟩
  have hB0 : Below w.heap.size w W0 := by rw [hW0]; exact (((((Below.refl w.heap.size w).alloc (by simp; try omega) _).alloc (by simp; try omega) _).alloc (by simp; try omega) _).alloc (by simp; try omega) _).alloc (by simp; try omega) _
  have z0 : w.heap.size + 5 ≤ W0.heap.size := by rw [hW0]; simp
  have CE0 : BoxesBlendSays w av aa bv ba pw ph pl pA pn pc qw qh ql qA qn qc oi ox oy ow oh ol oA on oc orx ory orw orh os x y W0 := by rw [hW0]; refine ⟨?_, ?_, ?_, ?_, ?_, ?_, ?_, ?_, ?_, ?_, ?_, ?_, ?_, ?_, ?_, ?_, ?_, ?_, ?_, ?_, ?_⟩ <;> go_simp
  rw [← hW0]
  clear hW0
  have CEH := hid CE0
  clear CE0
  have CE0 := CEH
  clear CEH
  obtain ⟨c0, c1, c2, c3, c4, c5, c6, c7, c8, c9, c10, c11, c12, c13, c14, c15, c16, c17, c18, c19, c20⟩ := CE0.out
  go_wp2_with fail
  refine (over_any 9 255 3 255 (by omega) (by omega) (by omega) (by omega) _).mono ?_
  rintro e w1 ⟨rfl, hb⟩
  clear c0 c1 c2 c3 c4 c5 c6 c7 c8 c9 c10 c11 c12 c13 c14 c15 c16 c17 c18 c19 c20
  have CE1 := hid (CE0.out.below hb z0)
  have hB1 : Below w.heap.size w w1 := bnext hB0 hb
  have z1 : w.heap.size + 5 ≤ w1.heap.size := Nat.le_trans z0 hb.size
  have e0 : overV 9 255 3 255 = 9 := by decide
  have e1 : overA 255 255 = 255 := by decide
  rw [e0, e1]
  clear e0 e1
  clear hb hB0 z0 CE0
  obtain ⟨c0, c1, c2, c3, c4, c5, c6, c7, c8, c9, c10, c11, c12, c13, c14, c15, c16, c17, c18, c19, c20⟩ := CE1.out
  go_wp2_with fail
  refine (lpixel_any av aa _).mono ?_
  rintro e w2 ⟨rfl, hb⟩
  clear c0 c1 c2 c3 c4 c5 c6 c7 c8 c9 c10 c11 c12 c13 c14 c15 c16 c17 c18 c19 c20
  have CE2 := hid (CE1.out.below hb z1)
  have hB2 : Below w.heap.size w w2 := bnext hB1 hb
  have z2 : w.heap.size + 5 ≤ w2.heap.size := Nat.le_trans z1 hb.size
  clear hb hB1 z1 CE1
  obtain ⟨c0, c1, c2, c3, c4, c5, c6, c7, c8, c9, c10, c11, c12, c13, c14, c15, c16, c17, c18, c19, c20⟩ := CE2.out
  cases hA : pixB av aa
  case false => (go_wp2_with fail; go_ret; exact ⟨rfl, hB2⟩)
  go_wp2_with fail
  refine (lpixel_any bv ba _).mono ?_
  rintro e w3 ⟨rfl, hb⟩
  clear c0 c1 c2 c3 c4 c5 c6 c7 c8 c9 c10 c11 c12 c13 c14 c15 c16 c17 c18 c19 c20
  have CE3 := hid (CE2.out.below hb z2)
  have hB3 : Below w.heap.size w w3 := bnext hB2 hb
  have z3 : w.heap.size + 5 ≤ w3.heap.size := Nat.le_trans z2 hb.size
  clear hb hB2 z2 CE2
  obtain ⟨c0, c1, c2, c3, c4, c5, c6, c7, c8, c9, c10, c11, c12, c13, c14, c15, c16, c17, c18, c19, c20⟩ := CE3.out
  cases hBp : pixB bv ba
  case false => (go_wp2_with fail; go_ret; exact ⟨rfl, hB3⟩)
  go_wp2_with fail
  refine (lightpic_any ⟨⟨pw, ph, pl⟩, pA, pn, pc⟩ _).mono ?_
  rintro e w4 ⟨rfl, hb⟩
  clear c0 c1 c2 c3 c4 c5 c6 c7 c8 c9 c10 c11 c12 c13 c14 c15 c16 c17 c18 c19 c20
  have CE4 := hid (CE3.out.below hb z3)
  have hB4 : Below w.heap.size w w4 := bnext hB3 hb
  have z4 : w.heap.size + 5 ≤ w4.heap.size := Nat.le_trans z3 hb.size
  clear hb hB3 z3 CE3
  obtain ⟨c0, c1, c2, c3, c4, c5, c6, c7, c8, c9, c10, c11, c12, c13, c14, c15, c16, c17, c18, c19, c20⟩ := CE4.out
  cases hC : decide (pn ≤ 80)
  case false => (go_wp2_with fail; go_ret; exact ⟨rfl, hB4⟩)
  go_wp2_with fail
  refine (lightpic_any ⟨⟨qw, qh, ql⟩, qA, qn, qc⟩ _).mono ?_
  rintro e w5 ⟨rfl, hb⟩
  clear c0 c1 c2 c3 c4 c5 c6 c7 c8 c9 c10 c11 c12 c13 c14 c15 c16 c17 c18 c19 c20
  have CE5 := hid (CE4.out.below hb z4)
  have hB5 : Below w.heap.size w w5 := bnext hB4 hb
  have z5 : w.heap.size + 5 ≤ w5.heap.size := Nat.le_trans z4 hb.size
  clear hb hB4 z4 CE4
  obtain ⟨c0, c1, c2, c3, c4, c5, c6, c7, c8, c9, c10, c11, c12, c13, c14, c15, c16, c17, c18, c19, c20⟩ := CE5.out
  cases hD : decide (qn ≤ 80)
  case false => (go_wp2_with fail; go_ret; exact ⟨rfl, hB5⟩)
  have nC := of_decide_eq_true hC
  have nD := of_decide_eq_true hD
  clear hC hD
  go_wp2_with fail
  refine (rpicfault_any ⟨⟨pw, ph, pl⟩, pA, pn, pc⟩ _ (H_p.out.below hB5) (by show pn ≤ 100; omega)).mono ?_
  rintro e w6 ⟨rfl, hb⟩
  clear c0 c1 c2 c3 c4 c5 c6 c7 c8 c9 c10 c11 c12 c13 c14 c15 c16 c17 c18 c19 c20
  have CE6 := hid (CE5.out.below hb z5)
  have hB6 : Below w.heap.size w w6 := bnext hB5 hb
  have z6 : w.heap.size + 5 ≤ w6.heap.size := Nat.le_trans z5 hb.size
  clear hb hB5 z5 CE5
  obtain ⟨c0, c1, c2, c3, c4, c5, c6, c7, c8, c9, c10, c11, c12, c13, c14, c15, c16, c17, c18, c19, c20⟩ := CE6.out
  obtain ⟨F, hF⟩ : ∃ F, picFault ⟨pw, ph, pl⟩ = F := ⟨_, rfl⟩
  simp only [hF]
  have HF_p := hid hF
  clear hF
  cases F
  case succ F => (have hpos : (0 : Int) < ((F + 1 : Nat) : Int) := by omega
                  go_wp2_with fail; go_ret; exact ⟨rfl, hB6⟩)
  go_wp2_with fail
  refine (rpicfault_any ⟨⟨qw, qh, ql⟩, qA, qn, qc⟩ _ (H_q.out.below hB6) (by show qn ≤ 100; omega)).mono ?_
  rintro e w7 ⟨rfl, hb⟩
  clear c0 c1 c2 c3 c4 c5 c6 c7 c8 c9 c10 c11 c12 c13 c14 c15 c16 c17 c18 c19 c20
  have CE7 := hid (CE6.out.below hb z6)
  have hB7 : Below w.heap.size w w7 := bnext hB6 hb
  have z7 : w.heap.size + 5 ≤ w7.heap.size := Nat.le_trans z6 hb.size
  clear hb hB6 z6 CE6
  obtain ⟨c0, c1, c2, c3, c4, c5, c6, c7, c8, c9, c10, c11, c12, c13, c14, c15, c16, c17, c18, c19, c20⟩ := CE7.out
  obtain ⟨F, hF⟩ : ∃ F, picFault ⟨qw, qh, ql⟩ = F := ⟨_, rfl⟩
  simp only [hF]
  have HF_q := hid hF
  clear hF
  cases F
  case succ F => (have hpos : (0 : Int) < ((F + 1 : Nat) : Int) := by omega
                  go_wp2_with fail; go_ret; exact ⟨rfl, hB7⟩)
  go_wp2_with fail
  refine (lightpic_any ⟨⟨ow, oh, ol⟩, oA, on, oc⟩ _).mono ?_
  rintro e w8 ⟨rfl, hb⟩
  clear c0 c1 c2 c3 c4 c5 c6 c7 c8 c9 c10 c11 c12 c13 c14 c15 c16 c17 c18 c19 c20
  have CE8 := hid (CE7.out.below hb z7)
  have hB8 : Below w.heap.size w w8 := bnext hB7 hb
  have z8 : w.heap.size + 5 ≤ w8.heap.size := Nat.le_trans z7 hb.size
  clear hb hB7 z7 CE7
  obtain ⟨c0, c1, c2, c3, c4, c5, c6, c7, c8, c9, c10, c11, c12, c13, c14, c15, c16, c17, c18, c19, c20⟩ := CE8.out
  cases hE : decide (on ≤ 80)
  case false => (go_wp2_with fail; go_ret; exact ⟨rfl, hB8⟩)
  have nE := of_decide_eq_true hE
  clear hE
  go_wp2_with fail
  refine (robjfault_any ⟨⟨oi, ox, oy, ⟨ow, oh, ol⟩, ⟨orx, ory, orw, orh⟩, os⟩, oA, on, oc⟩ _ (H_o.out.below hB8) (by show on ≤ 100; omega)).mono ?_
  rintro e w9 ⟨rfl, hb⟩
  clear c0 c1 c2 c3 c4 c5 c6 c7 c8 c9 c10 c11 c12 c13 c14 c15 c16 c17 c18 c19 c20
  have CE9 := hid (CE8.out.below hb z8)
  have hB9 : Below w.heap.size w w9 := bnext hB8 hb
  have z9 : w.heap.size + 5 ≤ w9.heap.size := Nat.le_trans z8 hb.size
  clear hb hB8 z8 CE8
  obtain ⟨c0, c1, c2, c3, c4, c5, c6, c7, c8, c9, c10, c11, c12, c13, c14, c15, c16, c17, c18, c19, c20⟩ := CE9.out
  obtain ⟨F, hF⟩ : ∃ F, objFault ⟨oi, ox, oy, ⟨ow, oh, ol⟩, ⟨orx, ory, orw, orh⟩, os⟩ = F := ⟨_, rfl⟩
  simp only [hF]
  have HF_o := hid hF
  clear hF
  cases F
  case succ F => (have hpos : (0 : Int) < ((F + 1 : Nat) : Int) := by omega
                  go_wp2_with fail; go_ret; exact ⟨rfl, hB9⟩)
  by_cases x1 : x < -20
  · (go_wp2_with fail; go_ret; exact ⟨rfl, hB9⟩)
  by_cases x2 : 20 < x
  · (go_wp2_with fail; go_ret; exact ⟨rfl, hB9⟩)
  by_cases y1 : y < -20
  · (go_wp2_with fail; go_ret; exact ⟨rfl, hB9⟩)
  by_cases y2 : 20 < y
  · (go_wp2_with fail; go_ret; exact ⟨rfl, hB9⟩)
  have xb : -20 ≤ x ∧ x ≤ 20 := by omega
  have yb : -20 ≤ y ∧ y ≤ 20 := by omega
  have fp := hid (picFault_fine.1 HF_p.out)
  have fq := hid (picFault_fine.1 HF_q.out)
  have fo := hid (objFault_fine.1 HF_o.out)
  have fa := hid (pixB_fine hA)
  have fb := hid (pixB_fine hBp)
  clear HF_p HF_q HF_o hA hBp
  go_wp2_with fail
  refine (plain_int pw qh (av, aa) _ fp.out.1 fp.out.2.1 fq.out.2.2.1 fq.out.2.2.2.1).mono ?_
  rintro e w10 ⟨gb, go, gc, N, rfl, hN, hN1, hN2, hg1, hg2, hpix, hb⟩
  clear c0 c1 c2 c3 c4 c5 c6 c7 c8 c9 c10 c11 c12 c13 c14 c15 c16 c17 c18 c19 c20
  have CE10 := hid (CE9.out.below hb z9)
  have hB10 : Below w.heap.size w w10 := bnext hB9 hb
  have z10 : w.heap.size + 5 ≤ w10.heap.size := Nat.le_trans z9 hb.size
  clear hb hB9 z9 CE9
  obtain ⟨c0, c1, c2, c3, c4, c5, c6, c7, c8, c9, c10, c11, c12, c13, c14, c15, c16, c17, c18, c19, c20⟩ := CE10.out
  have hpb : 1 * 1 ≤ pw * qh := Int.mul_le_mul fp.out.1 fq.out.2.2.1 (by omega) (by have h : 1 ≤ pw := fp.out.1; omega)
  have w1 : IntKind.i64.wrap (pw * qh) = (N : Int) := by rw [← hN]; exact IntWalk.i64_in _ (by omega)
  have HN := hid hN
  clear hN hpb
  go_upto_region 6 with fail
  obtain ⟨W11, hW11⟩ : ∃ W11, W11 = w10.alloc (.cells #[.int .i64 pw, .int .i64 qh, .slice (some ⟨gb, go, none⟩) N gc] 26) := ⟨_, rfl⟩
  rw [← hW11]
  have hb : Below w10.heap.size w10 W11 := by rw [hW11]; exact (Below.refl _ _).alloc (Nat.le_refl _) _
  have p0 : W11.cell? ⟨w10.heap.size, 0, none⟩ = some (.int .i64 pw) := by rw [hW11]; go_simp
  have p1 : W11.cell? ⟨w10.heap.size, 1, none⟩ = some (.int .i64 qh) := by rw [hW11]; go_simp
  have p2 : W11.cell? ⟨w10.heap.size, 2, none⟩ = some (.slice (some ⟨gb, go, none⟩) N gc) := by rw [hW11]; go_simp
  have hpz : w10.heap.size < W11.heap.size := by rw [hW11]; simp
  have Hpix := hid (hpix.below hb)
  clear hW11 hpix
  obtain ⟨w11, rfl⟩ : ∃ w11 : World, w11 = W11 := ⟨_, rfl⟩
  clear c0 c1 c2 c3 c4 c5 c6 c7 c8 c9 c10 c11 c12 c13 c14 c15 c16 c17 c18 c19 c20
  have CE11 := hid (CE10.out.below hb z10)
  have hB11 : Below w.heap.size w w11 := bnext hB10 hb
  have z11 : w.heap.size + 5 ≤ w11.heap.size := Nat.le_trans z10 hb.size
  clear hb hB10 z10 CE10
  obtain ⟨c0, c1, c2, c3, c4, c5, c6, c7, c8, c9, c10, c11, c12, c13, c14, c15, c16, c17, c18, c19, c20⟩ := CE11.out
  obtain ⟨gp, hgp⟩ : ∃ gp, gp = w10.heap.size := ⟨_, rfl⟩
  rw [← hgp] at p0 p1 p2 hpz ⊢
  clear hgp
  have PC := hid (And.intro p0 (And.intro p1 p2))

  have Hat := hid (pixs_at Hpix.out (by omega))
  clear Hpix
  go_wp2_with fail
  clear p0 p1 p2 c0 c1 c2 c3 c4 c5 c6 c7 c8 c9 c10 c11 c12 c13 c14 c15 c16 c17 c18 c19 c20
  go_loopw [16] (fun i wr => ∃ k : Nat, k ≤ N ∧ i = .int .i64 k ∧ Below w11.heap.size w11 wr) (fun i _ => N - (intOf i).toNat)
  case atStart => exact ⟨0, by omega, rfl, Below.refl _ _⟩
  case round =>
    obtain ⟨k, hk, rfl, hbel⟩ := hrel
    by_cases hlt : k < N
    · have q2 := kc_BlendSays hbel hpz PC.out.2.2
      have q0 := kc_BlendSays hbel (by omega) CE11.out.1
      have q1 := kc_BlendSays hbel (by omega) CE11.out.2.1
      obtain ⟨r0, r1⟩ := Hat.out.2 k (by rw [List.length_replicate]; exact hlt)
      rw [List.getElem_replicate] at r0 r1
      have r0 := kc_BlendSays hbel Hat.out.1 r0
      have r1 := kc_BlendSays hbel Hat.out.1 r1
      simp only at r0 r1
      have hneq := neq_px_same (av, aa)
      simp only at hneq
      have i1 : (0 : Int) ≤ (k : Int) := by omega
      have i2 : (k : Int) < (N : Int) := by omega
      go_wp2_with fail
      go_quiet (fail)
      go_wp2_with fail
      go_roundw
      case rel => exact ⟨k + 1, by omega, by go_num, below_drewN hbel _⟩
      case measure => simp [intOf]; omega
    · have hkN : k = N := by omega
      have Hn : Hid ((k : Int) = (N : Int)) := hid (by omega)
      have q2 := kc_BlendSays hbel hpz PC.out.2.2
      have hBr := bnext hB11 hbel
      go_wp2_with fail
      clear q2 hkN Hn
      obtain ⟨LX, hLX⟩ : ∃ X, layP ⟨pw, ph, pl⟩ ⟨oi, ox, oy, ⟨ow, oh, ol⟩, ⟨orx, ory, orw, orh⟩, os⟩ = X := ⟨_, rfl⟩
      obtain ⟨AX, hAX⟩ : ∃ X, changeP addP ⟨pw, ph, pl⟩ ⟨qw, qh, ql⟩ x y = X := ⟨_, rfl⟩
      obtain ⟨PX, hPX⟩ : ∃ X, changeP putP ⟨pw, ph, pl⟩ ⟨qw, qh, ql⟩ x y = X := ⟨_, rfl⟩
      obtain ⟨OV, hOV⟩ : ∃ X, overV av aa bv ba = X := ⟨_, rfl⟩
      obtain ⟨OA, hOA⟩ : ∃ X, overA aa ba = X := ⟨_, rfl⟩
      have lL : LX.p.length ≤ 1000000 := by have h := H_p.out.1; rw [← hLX]; unfold layP; simp only [updL_len]; omega
      have lA : AX.p.length ≤ 1000000 := by have h := H_p.out.1; rw [← hAX]; unfold changeP; simp only [updL_len]; omega
      have lP : PX.p.length ≤ 1000000 := by have h := H_p.out.1; rw [← hPX]; unfold changeP; simp only [updL_len]; omega
      have KS := hid (fun W (h : Below wr.heap.size wr W) => (CE11.out.below (bnext hbel h) z11))
      have hp := fun W (h : Below wr.heap.size wr W) => H_p.out.below (bnext hBr h)
      have hq := fun W (h : Below wr.heap.size wr W) => H_q.out.below (bnext hBr h)
      have ho := fun W (h : Below wr.heap.size wr W) => H_o.out.below (bnext hBr h)
      have c1 := fun W (h : Below wr.heap.size wr W) => over_any av aa bv ba fa.out.1 fa.out.2 fb.out.1 fb.out.2 W
      have c2 := fun W (h : Below wr.heap.size wr W) => rover_any av aa bv ba fa.out.1 fa.out.2 fb.out.1 fb.out.2 W
      have c3 := fun W (h : Below wr.heap.size wr W) => lay_any ⟨⟨pw, ph, pl⟩, pA, pn, pc⟩ ⟨⟨oi, ox, oy, ⟨ow, oh, ol⟩, ⟨orx, ory, orw, orh⟩, os⟩, oA, on, oc⟩ W (hp W h) (ho W h) fp.out fo.out
      have c4 := fun W (h : Below wr.heap.size wr W) => laid_any ⟨⟨pw, ph, pl⟩, pA, pn, pc⟩ ⟨⟨oi, ox, oy, ⟨ow, oh, ol⟩, ⟨orx, ory, orw, orh⟩, os⟩, oA, on, oc⟩ W (hp W h) (ho W h) fp.out fo.out
      have c5 := fun W (h : Below wr.heap.size wr W) => add_any ⟨⟨pw, ph, pl⟩, pA, pn, pc⟩ ⟨⟨qw, qh, ql⟩, qA, qn, qc⟩ x y W (hp W h) (hq W h) fp.out fq.out (by omega) (by omega)
      have c6 := fun W (h : Below wr.heap.size wr W) => changedAdd_any ⟨⟨pw, ph, pl⟩, pA, pn, pc⟩ ⟨⟨qw, qh, ql⟩, qA, qn, qc⟩ x y W (hp W h) (hq W h) fp.out fq.out (by omega) (by omega)
      have c7 := fun W (h : Below wr.heap.size wr W) => put_any ⟨⟨pw, ph, pl⟩, pA, pn, pc⟩ ⟨⟨qw, qh, ql⟩, qA, qn, qc⟩ x y W (hp W h) (hq W h) fp.out fq.out (by omega) (by omega)
      have c8 := fun W (h : Below wr.heap.size wr W) => changedPut_any ⟨⟨pw, ph, pl⟩, pA, pn, pc⟩ ⟨⟨qw, qh, ql⟩, qA, qn, qc⟩ x y W (hp W h) (hq W h) fp.out fq.out (by omega) (by omega)
      simp only [hLX, hAX, hPX, hOV, hOA] at c1 c2 c3 c4 c5 c6 c7 c8
      have C1 := hid c1
      have C2 := hid c2
      have C3 := hid c3
      have C4 := hid c4
      have C5 := hid c5
      have C6 := hid c6
      have C7 := hid c7
      have C8 := hid c8
      have heq : ∀ W, (binOp .eql 23 (.agg #[.int .i64 OV, .int .i64 OA]) (.agg #[.int .i64 OV, .int .i64 OA])).run Try.prog W = .ok (.bool true) W := by
        intro W; rw [eql_px]; simp [eqPx]
      have LL := hid lL
      have LA := hid lA
      have LP := hid lP
      have HBR := hid hBr
      clear c1 c2 c3 c4 c5 c6 c7 c8 hp hq ho hLX hAX hPX hOV hOA lL lA lP hBr hbel hpz H_p H_q H_o fa fb fp fq fo CE11 z11 hB11 PC Hat hk hlt nC nD nE xb yb x1 x2 y1 y2 w1 HN hN1 hN2 hg1 hg2
      have HBW : Below wr.heap.size wr wr.drew := (Below.refl _ _).drew
      go_region_held3 (fun W => W.cell? ⟨w.heap.size, 0, none⟩ = some (.int .i64 av) ∧ W.cell? ⟨w.heap.size, 1, none⟩ = some (.int .i64 aa) ∧ W.cell? ⟨w.heap.size + 1, 0, none⟩ = some (.int .i64 bv) ∧ W.cell? ⟨w.heap.size + 1, 1, none⟩ = some (.int .i64 ba) ∧ W.cell? ⟨w.heap.size + 1 + 1, 0, none⟩ = some (.int .i64 pw) ∧ W.cell? ⟨w.heap.size + 1 + 1, 1, none⟩ = some (.int .i64 ph) ∧ W.cell? ⟨w.heap.size + 1 + 1, 2, none⟩ = some (.slice pA pn pc) ∧ W.cell? ⟨w.heap.size + 1 + 1 + 1, 0, none⟩ = some (.int .i64 qw) ∧ W.cell? ⟨w.heap.size + 1 + 1 + 1, 1, none⟩ = some (.int .i64 qh) ∧ W.cell? ⟨w.heap.size + 1 + 1 + 1, 2, none⟩ = some (.slice qA qn qc) ∧ W.cell? ⟨w.heap.size + 1 + 1 + 1 + 1, 0, none⟩ = some (.int .i64 oi) ∧ W.cell? ⟨w.heap.size + 1 + 1 + 1 + 1, 1, none⟩ = some (.int .i64 ox) ∧ W.cell? ⟨w.heap.size + 1 + 1 + 1 + 1, 2, none⟩ = some (.int .i64 oy) ∧ W.cell? ⟨w.heap.size + 1 + 1 + 1 + 1, 3, none⟩ = some (.int .i64 ow) ∧ W.cell? ⟨w.heap.size + 1 + 1 + 1 + 1, 4, none⟩ = some (.int .i64 oh) ∧ W.cell? ⟨w.heap.size + 1 + 1 + 1 + 1, 5, none⟩ = some (.slice oA on oc) ∧ W.cell? ⟨w.heap.size + 1 + 1 + 1 + 1, 6, none⟩ = some (.int .i64 orx) ∧ W.cell? ⟨w.heap.size + 1 + 1 + 1 + 1, 7, none⟩ = some (.int .i64 ory) ∧ W.cell? ⟨w.heap.size + 1 + 1 + 1 + 1, 8, none⟩ = some (.int .i64 orw) ∧ W.cell? ⟨w.heap.size + 1 + 1 + 1 + 1, 9, none⟩ = some (.int .i64 orh) ∧ W.cell? ⟨w.heap.size + 1 + 1 + 1 + 1, 10, none⟩ = some (.bool os)) (first | exact KS.out _ HBW | go_keep)
        (first
          | (go_at_call 9; (with_reducible refine (C1.out _ HBW).mono ?_); rintro e w' ⟨rfl, hbw⟩; have HBW := bnext HBW hbw)
          | (go_at_call 15; (with_reducible refine (C2.out _ HBW).mono ?_); rintro e w' ⟨rfl, hbw⟩; have HBW := bnext HBW hbw)
          | (go_at_call 17; (with_reducible refine (C3.out _ HBW).mono ?_); rintro e w' ⟨AL, nL, rfl, hpL, -, hbL⟩; have HBW := bnext HBW hbL)
          | (go_at_call 18; (with_reducible refine (C4.out _ HBW).mono ?_); rintro e w' ⟨AR, nR, rfl, hpR, -, hbR⟩; have HBW := bnext HBW hbR)
          | (go_at_call 19; (with_reducible refine (C5.out _ HBW).mono ?_); rintro e w' ⟨AL, nL, rfl, hpL, -, hbL⟩; have HBW := bnext HBW hbL)
          | (go_at_call 21; (with_reducible refine (C7.out _ HBW).mono ?_); rintro e w' ⟨AL, nL, rfl, hpL, -, hbL⟩; have HBW := bnext HBW hbL)
          | (go_at_call 20; (first | (with_reducible refine (C6.out _ HBW).mono ?_) | (with_reducible refine (C8.out _ HBW).mono ?_)); rintro e w' ⟨AR, nR, rfl, hpR, -, hbR⟩; have HBW := bnext HBW hbR)
          | (go_at_call 16; (first | (with_reducible refine (same_self LX AL AR nL nR _ (by first | exact hpL | exact hpL.below hbR) (by first | exact hpR | exact hpR.below hbL) LL.out).mono ?_) | (with_reducible refine (same_self AX AL AR nL nR _ (by first | exact hpL | exact hpL.below hbR) (by first | exact hpR | exact hpR.below hbL) LA.out).mono ?_) | (with_reducible refine (same_self PX AL AR nL nR _ (by first | exact hpL | exact hpL.below hbR) (by first | exact hpR | exact hpR.below hbL) LP.out).mono ?_)); rintro e w' ⟨rfl, hbw⟩; have HBW := bnext HBW hbw; clear hpL hpR hbL hbR))
      all_goals (go_wp2_with fail)
      all_goals go_ret
      all_goals exact ⟨rfl, bnext HBR.out HBW⟩

theorem blendSays_row (w : World) (a : Px) (_ha : Wf a.1 ∧ Wf a.2) (b : Px) (_hb : Wf b.1 ∧ Wf b.2) (p : FAt FPic) (hp : PicOk w p) (q : FAt FPic) (hq : PicOk w q) (o : FAt FObj) (ho : ObOk w o) (x : Int) (hx : (Lit.int .i64 x).wf = true) (y : Int) (hy : (Lit.int .i64 y).wf = true) :
    Calls Try.prog 3 #[.agg #[.int .i64 a.1, .int .i64 a.2], .agg #[.int .i64 b.1, .int .i64 b.2], .agg #[.int .i64 p.x.w, .int .i64 p.x.h, .slice p.A p.n p.c], .agg #[.int .i64 q.x.w, .int .i64 q.x.h, .slice q.A q.n q.c], .agg #[.int .i64 o.x.id, .int .i64 o.x.x, .int .i64 o.x.y, .int .i64 o.x.pic.w, .int .i64 o.x.pic.h, .slice o.A o.n o.c, .int .i64 o.x.clip.x, .int .i64 o.x.clip.y, .int .i64 o.x.clip.w, .int .i64 o.x.clip.h, .bool o.x.shown], .int .i64 x, .int .i64 y] w (Ret (.bool true) w) :=
  blendSays_walk a.1 a.2 b.1 b.2 p.x.w p.x.h p.x.p p.A p.n p.c q.x.w q.x.h q.x.p q.A q.n q.c o.x.id o.x.x o.x.y o.x.pic.w o.x.pic.h o.x.pic.p o.A o.n o.c o.x.clip.x o.x.clip.y o.x.clip.w o.x.clip.h o.x.shown x y w hp.1 hq.1 ho.1 
end Fb
