/- The law PictureSays: it returns true. Conditions: none but the arguments' shape. -/
import Derived.Test.YtinlmikkggnljaaHeld
import Derived.Test.YtinlmikkggnljaaReelSame
import Derived.Test.YtinlmikkggnljaaOpen2
import Derived.Test.YtinlmikkggnljaaPicsClosed
import Derived.Test.YtinlmikkggnljaaPicParse
import Derived.Test.YtinlmikkggnljaaRPicParse
import Derived.Test.YtinlmikkggnljaaRPicBytes
import Derived.Deep.DrawnRows
namespace Fb
open Go Go.Proofs Go.RowKit Go.Sort
attribute [local go_sem ↓] Go.wp_at_zero Go.wp_at_succ
theorem chainB_PictureSays {w w' W : World} (h : Below w.heap.size w w') (hb : Below w'.heap.size w' W) : Below w.heap.size w W := bnext h hb
theorem same_selfA (pw ph : Int) (l : List Px) (A B : Option Addr) (c d : Nat) (w : World) (ha : Pixs w A l.length l) (hb : Pixs w B l.length l) (hl : l.length ≤ 1000000) :
    Calls Try.prog 19 #[.agg #[.int .i64 pw, .int .i64 ph, .slice A l.length c], .agg #[.int .i64 pw, .int .i64 ph, .slice B l.length d]] w (Ret (.bool true) w) := by
  have h := rsame_pic_any ⟨⟨pw, ph, l⟩, A, l.length, c⟩ ⟨⟨pw, ph, l⟩, B, l.length, d⟩ w ha hb hl hl
  have e : samePic ⟨pw, ph, l⟩ ⟨pw, ph, l⟩ = true := by unfold samePic; simp
  simp only [e] at h
  exact h
theorem parseGo_len : ∀ (W h : Nat) (t : List UInt8) (up : List Int) (acc l : List Px), parseGo W h t up acc = some l → l.length = acc.length + h * W
  | W, 0, t, up, acc, l, h => by unfold parseGo at h; injection h with h; subst h; simp
  | W, h + 1, t, up, acc, l, hh => by
    unfold parseGo at hh
    split at hh
    · cases hh
    · have ih := parseGo_len W h _ _ _ _ hh
      rw [List.length_append, (pairs_len _ W (rowOf_len _ _ _ _)).1] at ih
      rw [ih, Nat.add_mul]; omega
theorem unpackGo_err : ∀ (n : Nat) (L B : List UInt8) (most : Int), L.length ≤ n → (unpackGo L B most).2 ≤ 4
  | _, [], B, most, _ => by simp [unpackGo]
  | _, [_], B, most, _ => by simp [unpackGo]
  | 0, a :: b :: l, B, most, hn => by simp at hn
  | n + 1, a :: b :: l, B, most, hn => by
    unfold unpackGo
    split
    · exact Nat.le_refl _
    · split
      · show 2 ≤ 4; omega
      · exact unpackGo_err n l _ most (by simp at hn; omega)
theorem unpack_err (L : List UInt8) (most : Int) : (unpack L most).2 ≤ 4 := by
  unfold unpack
  split
  · exact Nat.le_refl _
  · exact unpackGo_err _ L [] most (Nat.le_refl _)
theorem picOf_bd {s : List UInt8} : (picOf s).1.p.length ≤ 1000000 ∧ (picOf s).2 ≤ 100 := by
  unfold picOf
  split
  · simp [noPic]
  · split
    · simp [noPic]
    · rename_i h1 h2
      have h2 := Decidable.not_not.1 h2
      have he := unpack_err (s.drop 2) (((s.getD 1 0).toNat * (1 + 2 * (s.getD 0 0).toNat) : Nat) : Int)
      simp only
      split
      · exact ⟨by simp [noPic], by show _ ≤ 100; omega⟩
      · split
        · simp [noPic]
        · split
          · simp [noPic]
          · rename_i l hl
            have h3 := parseGo_len _ _ _ _ _ _ hl
            refine ⟨?_, by simp⟩
            simp only [List.length_nil, Nat.zero_add] at h3
            show l.length ≤ 1000000
            rw [h3]
            have : (s.getD 1 0).toNat * (s.getD 0 0).toNat ≤ 8 * 8 := Nat.mul_le_mul (by omega) (by omega)
            omega
def BoxesPictureSays (w : World) (pw : Int) (ph : Int) (_pl : List Px) (pA : Option Addr) (pn pc : Nat) (_s : ByteArray) (W : World) : Prop := W.cell? ⟨w.heap.size, 0, none⟩ = some (.int .i64 pw) ∧ W.cell? ⟨w.heap.size, 1, none⟩ = some (.int .i64 ph) ∧ W.cell? ⟨w.heap.size, 2, none⟩ = some (.slice pA pn pc)
theorem kc_PictureSays {w w' : World} {B : Nat} (hb : Below B w w') {b o : Nat} {v : Value} (h : b < B) (hc : w.cell? ⟨b, o, none⟩ = some v) : w'.cell? ⟨b, o, none⟩ = some v := (hb.cell (p := ⟨b, o, none⟩) h).trans hc
theorem BoxesPictureSays.below {w W W' : World} {pw : Int} {ph : Int} {pl : List Px} {pA : Option Addr} {pn pc : Nat} {s : ByteArray} (h : BoxesPictureSays w pw ph pl pA pn pc s W) (hb : Below W.heap.size W W') (hs : w.heap.size + 1 ≤ W.heap.size) : BoxesPictureSays w pw ph pl pA pn pc s W' := by
  obtain ⟨c0, c1, c2⟩ := h
  exact ⟨kc_PictureSays hb (by omega) c0, kc_PictureSays hb (by omega) c1, kc_PictureSays hb (by omega) c2⟩
set_option maxRecDepth 100000 in
set_option maxHeartbeats 8000000 in
theorem pictureSays_walk (pw : Int) (ph : Int) (pl : List Px) (pA : Option Addr) (pn pc : Nat) (s : ByteArray) (w : World)  (h_p : Pixs w pA pn pl) :
    Calls Try.prog 3 #[.agg #[.int .i64 pw, .int .i64 ph, .slice pA pn pc], .string s] w (Ret (.bool true) w) := by
  have H_p := hid h_p
  clear h_p
  go_enter Try.func3, Try.ntmps3
  go_upto_region 1 with fail
  obtain ⟨W0, hW0⟩ : ∃ W0, W0 = (w.alloc (.cells #[.int .i64 pw, .int .i64 ph, .slice pA pn pc] 24)) := ⟨_, rfl⟩
  have hB0 : Below w.heap.size w W0 := by rw [hW0]; exact (Below.refl w.heap.size w).alloc (by simp; try omega) _
  have z0 : w.heap.size + 1 ≤ W0.heap.size := by rw [hW0]; simp
  have CE0 : BoxesPictureSays w pw ph pl pA pn pc s W0 := by rw [hW0]; refine ⟨?_, ?_, ?_⟩ <;> go_simp
  rw [← hW0]
  clear hW0
  have CEH := hid CE0
  clear CE0
  have CE0 := CEH
  clear CEH
  obtain ⟨c0, c1, c2⟩ := CE0.out
  go_wp2_with fail
  refine (pictures_any _).mono ?_
  rintro e w1 ⟨rfl, hb⟩
  clear c0 c1 c2
  have CE1 := hid (CE0.out.below hb z0)
  have hB1 : Below w.heap.size w w1 := bnext hB0 hb
  have z1 : w.heap.size + 1 ≤ w1.heap.size := Nat.le_trans z0 hb.size
  clear hb hB0 z0 CE0
  obtain ⟨c0, c1, c2⟩ := CE1.out
  go_wp2_with fail
  refine (lightpic_any ⟨⟨pw, ph, pl⟩, pA, pn, pc⟩ _).mono ?_
  rintro e w2 ⟨rfl, hb⟩
  clear c0 c1 c2
  have CE2 := hid (CE1.out.below hb z1)
  have hB2 : Below w.heap.size w w2 := bnext hB1 hb
  have z2 : w.heap.size + 1 ≤ w2.heap.size := Nat.le_trans z1 hb.size
  clear hb hB1 z1 CE1
  obtain ⟨c0, c1, c2⟩ := CE2.out
  cases hC : decide (pn ≤ 80)
  case false => (go_wp2_with fail; go_ret; exact ⟨rfl, hB2⟩)
  have nC := of_decide_eq_true hC
  clear hC
  have nC2 : pn ≤ 100 := by omega
  by_cases hs5 : 500 < s.size
  · (have hs6 : (500 : Int) < (s.size : Int) := by omega
     go_wp2_with fail; go_ret; exact ⟨rfl, hB2⟩)
  have hs6 : ¬ (500 : Int) < (s.size : Int) := by omega
  go_wp2_with fail
  refine (pbytes_any ⟨⟨pw, ph, pl⟩, pA, pn, pc⟩ _ (H_p.out.below hB2) nC2).mono ?_
  rintro e w3 ⟨rfl, hb⟩
  clear c0 c1 c2
  have CE3 := hid (CE2.out.below hb z2)
  have hB3 : Below w.heap.size w w3 := bnext hB2 hb
  have z3 : w.heap.size + 1 ≤ w3.heap.size := Nat.le_trans z2 hb.size
  unfold picBV
  clear hb hB2 z2 CE2
  obtain ⟨c0, c1, c2⟩ := CE3.out
  have HS5 := hid hs5
  clear hs5 hs6
  go_wp2_with fail
  refine (rpbytes_any ⟨⟨pw, ph, pl⟩, pA, pn, pc⟩ _ (H_p.out.below hB3) nC2).mono ?_
  rintro e w4 ⟨rfl, hb⟩
  clear c0 c1 c2
  have CE4 := hid (CE3.out.below hb z3)
  have hB4 : Below w.heap.size w w4 := bnext hB3 hb
  have z4 : w.heap.size + 1 ≤ w4.heap.size := Nat.le_trans z3 hb.size
  unfold picBN
  clear hb hB3 z3 CE3
  obtain ⟨c0, c1, c2⟩ := CE4.out
  obtain ⟨PB, hPB⟩ : ∃ X, picB ⟨pw, ph, pl⟩ = X := ⟨_, rfl⟩
  have hPF1 := picFault_le ⟨pw, ph, pl⟩
  obtain ⟨PF, hPF⟩ : ∃ X, picFault ⟨pw, ph, pl⟩ = X := ⟨_, rfl⟩
  simp only [hPB, hPF]
  rw [hPF] at hPF1
  have HPF := hid hPF
  clear hPB hPF
  obtain ⟨⟨⟨xw, xh, xl⟩, xf⟩, hX⟩ : ∃ X, picOf s.data.toList = X := ⟨_, rfl⟩
  have hxb := picOf_bd (s := s.data.toList)
  rw [hX] at hxb
  simp only at hxb
  have cp := fun W => parse_any s W (by have := HS5.out; omega)
  have cr := fun W => rparse_any s W (by have := HS5.out; omega)
  rw [hX] at cp cr
  have CP := hid cp
  have CR := hid cr
  clear cp cr hX
  go_wp2_with fail
  refine (CP.out _).mono ?_
  rintro e w5 ⟨A1, k1, rfl, hp1, hn1, hb⟩
  clear c0 c1 c2
  have CE5 := hid (CE4.out.below hb z4)
  have hB5 : Below w.heap.size w w5 := bnext hB4 hb
  have z5 : w.heap.size + 1 ≤ w5.heap.size := Nat.le_trans z4 hb.size
  clear hb hB4 z4 CE4
  obtain ⟨c0, c1, c2⟩ := CE5.out
  have HX1 := hid (hp1)
  clear hp1 hn1
  simp only
  go_upto_region 7 with fail
  obtain ⟨W', hW'⟩ : ∃ W', W' = w5.alloc (.cells #[.int .i64 (xw), .int .i64 (xh), .slice (A1) (xl.length) (k1)] 24) := ⟨_, rfl⟩
  rw [← hW']
  have hb : Below w5.heap.size w5 W' := by rw [hW']; exact (Below.refl _ _).alloc (Nat.le_refl _) _
  have hF : PicAt w5.heap.size (xw) (xh) (A1) (xl.length) (k1) W' := by rw [hW']; exact PicAt.new _ _ _ _ _ _ _
  clear hW'
  obtain ⟨w6, rfl⟩ : ∃ w : World, w = W' := ⟨_, rfl⟩
  clear c0 c1 c2
  have HX1 := hid (HX1.out.below hb)
  have CE6 := hid (CE5.out.below hb z5)
  have hB6 : Below w.heap.size w w6 := bnext hB5 hb
  have z6 : w.heap.size + 1 ≤ w6.heap.size := Nat.le_trans z5 hb.size
  clear hb hB5 z5 CE5
  obtain ⟨c0, c1, c2⟩ := CE6.out
  obtain ⟨gx, hg⟩ : ∃ g, g = w5.heap.size := ⟨_, rfl⟩
  rw [← hg] at hF ⊢
  clear hg
  have Hgx := hid (hF)
  obtain ⟨xz, x0, x1, x2⟩ := Hgx.out
  clear hF
  go_wp2_with fail
  refine (CR.out _).mono ?_
  rintro e w7 ⟨A2, k2, rfl, hp2, hn2, hb⟩
  clear c0 c1 c2 xz x0 x1 x2
  have HX1 := hid (HX1.out.below hb)
  have Hgx := hid (Hgx.out.below hb)
  have CE7 := hid (CE6.out.below hb z6)
  have hB7 : Below w.heap.size w w7 := bnext hB6 hb
  have z7 : w.heap.size + 1 ≤ w7.heap.size := Nat.le_trans z6 hb.size
  clear hb hB6 z6 CE6
  obtain ⟨c0, c1, c2⟩ := CE7.out
  obtain ⟨xz, x0, x1, x2⟩ := Hgx.out
  have HX2 := hid (hp2)
  clear hp2 hn2
  simp only
  go_upto_region 8 with fail
  obtain ⟨W', hW'⟩ : ∃ W', W' = w7.alloc (.cells #[.int .i64 (xw), .int .i64 (xh), .slice (A2) (xl.length) (k2)] 24) := ⟨_, rfl⟩
  rw [← hW']
  have hb : Below w7.heap.size w7 W' := by rw [hW']; exact (Below.refl _ _).alloc (Nat.le_refl _) _
  have hF : PicAt w7.heap.size (xw) (xh) (A2) (xl.length) (k2) W' := by rw [hW']; exact PicAt.new _ _ _ _ _ _ _
  clear hW'
  obtain ⟨w8, rfl⟩ : ∃ w : World, w = W' := ⟨_, rfl⟩
  clear c0 c1 c2 xz x0 x1 x2
  have HX1 := hid (HX1.out.below hb)
  have Hgx := hid (Hgx.out.below hb)
  have HX2 := hid (HX2.out.below hb)
  have CE8 := hid (CE7.out.below hb z7)
  have hB8 : Below w.heap.size w w8 := bnext hB7 hb
  have z8 : w.heap.size + 1 ≤ w8.heap.size := Nat.le_trans z7 hb.size
  clear hb hB7 z7 CE7
  obtain ⟨c0, c1, c2⟩ := CE8.out
  obtain ⟨xz, x0, x1, x2⟩ := Hgx.out
  obtain ⟨gy, hg⟩ : ∃ g, g = w7.heap.size := ⟨_, rfl⟩
  rw [← hg] at hF ⊢
  clear hg
  have Hgy := hid (hF)
  obtain ⟨yz, y0, y1, y2⟩ := Hgy.out
  clear hF
  have F0 := cell_all2 (b := w.heap.size) (o := 0) (by have := z8; omega) c0
  have F1 := cell_all2 (b := w.heap.size) (o := 1) (by have := z8; omega) c1
  have F2 := cell_all2 (b := w.heap.size) (o := 2) (by have := z8; omega) c2
  have Gx0 := cell_all2 (b := gx) (o := 0) xz x0
  have Gx1 := cell_all2 (b := gx) (o := 1) xz x1
  have Gx2 := cell_all2 (b := gx) (o := 2) xz x2
  have Gy0 := cell_all2 (b := gy) (o := 0) yz y0
  have Gy1 := cell_all2 (b := gy) (o := 1) yz y1
  have Gy2 := cell_all2 (b := gy) (o := 2) yz y2
  have hbr := fun dd os => below_regrown w8 dd os
  have r1 := fun dd os => Ret.regrown (piccheck_any ⟨⟨pw, ph, pl⟩, pA, pn, pc⟩ (grow (redrawn w8 dd) os) (H_p.out.below (bnext hB8 (hbr dd os))) nC2)
  have r2 := fun dd os => Ret.regrown (rpicfault_any ⟨⟨pw, ph, pl⟩, pA, pn, pc⟩ (grow (redrawn w8 dd) os) (H_p.out.below (bnext hB8 (hbr dd os))) nC2)
  have r3 := fun dd os => Ret.regrown (same_any PF (PF : Int) (grow (redrawn w8 dd) os) (by omega))
  have r4 := fun dd os => Ret.regrown (same_selfA xw xh xl A1 A2 k1 k2 (grow (redrawn w8 dd) os) (HX1.out.below (hbr dd os)) (HX2.out.below (hbr dd os)) hxb.1)
  have r5 := fun dd os => Ret.regrown (same_any xf (xf : Int) (grow (redrawn w8 dd) os) hxb.2)
  have e3 : sameB PF (PF : Int) = true := sameB_self PF
  have e5 : sameB xf (xf : Int) = true := sameB_self xf
  simp only [HPF.out] at r1 r2
  rw [e3] at r3
  rw [e5] at r5
  have HBK := hid hB8
  clear hbr e3 e5 c0 c1 c2 xz x0 x1 x2 yz y0 y1 y2
  refine wp_region_quiet_below (by kernel_rfl) (by kernel_rfl) ?_
  iterate 1 (quiet_step (fail))
  quiet_step (exact r1 _ _)
  iterate 1 (quiet_step (fail))
  quiet_step (exact r2 _ _)
  quiet_step (exact r3 _ _)
  iterate 8 (quiet_step (fail))
  quiet_step (exact r3 _ _)
  iterate 4 (quiet_step (fail))
  quiet_step (exact r4 _ _)
  iterate 4 (quiet_step (fail))
  quiet_step (exact r5 _ _)
  iterate 2 (quiet_step (fail))
  (refine wpQuiet_nil ?_; intro _ hw'; obtain ⟨⟨dq, osq⟩, hw''⟩ := hw'; subst hw'')
  have hbQ := bnext HBK.out (below_regrown w8 dq osq)
  go_wp2_with fail
  go_ret
  exact ⟨rfl, hbQ⟩
theorem pictureSays_row (w : World) (p : FAt FPic) (hp : PicOk w p) (s : ByteArray) (_hs : s.size ≤ maxLen) :
    Calls Try.prog 3 #[.agg #[.int .i64 p.x.w, .int .i64 p.x.h, .slice p.A p.n p.c], .string s] w (Ret (.bool true) w) :=
  pictureSays_walk p.x.w p.x.h p.x.p p.A p.n p.c s w hp.1 
end Fb
