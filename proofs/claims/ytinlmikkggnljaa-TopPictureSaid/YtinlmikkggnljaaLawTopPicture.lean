/- The law TopPicture: it returns true. Conditions: none but the arguments' shape. -/
import Derived.Test.YtinlmikkggnljaaHeld
import Derived.Test.YtinlmikkggnljaaReelSame
import Derived.Test.YtinlmikkggnljaaOpen2
import Derived.Test.YtinlmikkggnljaaPicsClosed
import Derived.Test.YtinlmikkggnljaaPicParse
import Derived.Deep.DrawnRows
namespace Fb
open Go Go.Proofs Go.RowKit Go.Sort
attribute [local go_sem ↓] Go.wp_at_zero Go.wp_at_succ
theorem chainB_TopPicture {w w' W : World} (h : Below w.heap.size w w') (hb : Below w'.heap.size w' W) : Below w.heap.size w W := bnext h hb
theorem same_selfA (pw ph : Int) (l : List Px) (A B : Option Addr) (c d : Nat) (w : World) (ha : Pixs w A l.length l) (hb : Pixs w B l.length l) (hl : l.length ≤ 1000000) :
    Calls Try.prog 19 #[.agg #[.int .i64 pw, .int .i64 ph, .slice A l.length c], .agg #[.int .i64 pw, .int .i64 ph, .slice B l.length d]] w (Ret (.bool true) w) := by
  have h := rsame_pic_any ⟨⟨pw, ph, l⟩, A, l.length, c⟩ ⟨⟨pw, ph, l⟩, B, l.length, d⟩ w ha hb hl hl
  have e : samePic ⟨pw, ph, l⟩ ⟨pw, ph, l⟩ = true := by unfold samePic; simp
  simp only [e] at h
  exact h
theorem picF_zero : picFault ⟨1, 1, [(0, 0)]⟩ = 0 := by decide
def BoxesTopPicture (w : World) (pw : Int) (ph : Int) (_pl : List Px) (pA : Option Addr) (pn pc : Nat) (W : World) : Prop := W.cell? ⟨w.heap.size, 0, none⟩ = some (.int .i64 pw) ∧ W.cell? ⟨w.heap.size, 1, none⟩ = some (.int .i64 ph) ∧ W.cell? ⟨w.heap.size, 2, none⟩ = some (.slice pA pn pc)
theorem kc_TopPicture {w w' : World} {B : Nat} (hb : Below B w w') {b o : Nat} {v : Value} (h : b < B) (hc : w.cell? ⟨b, o, none⟩ = some v) : w'.cell? ⟨b, o, none⟩ = some v := (hb.cell (p := ⟨b, o, none⟩) h).trans hc
theorem BoxesTopPicture.below {w W W' : World} {pw : Int} {ph : Int} {pl : List Px} {pA : Option Addr} {pn pc : Nat} (h : BoxesTopPicture w pw ph pl pA pn pc W) (hb : Below W.heap.size W W') (hs : w.heap.size + 1 ≤ W.heap.size) : BoxesTopPicture w pw ph pl pA pn pc W' := by
  obtain ⟨c0, c1, c2⟩ := h
  exact ⟨kc_TopPicture hb (by omega) c0, kc_TopPicture hb (by omega) c1, kc_TopPicture hb (by omega) c2⟩
set_option maxRecDepth 100000 in
set_option maxHeartbeats 8000000 in
theorem topPicture_walk (pw : Int) (ph : Int) (pl : List Px) (pA : Option Addr) (pn pc : Nat) (w : World)  (h_p : Pixs w pA pn pl) :
    Calls Try.prog 4 #[.agg #[.int .i64 pw, .int .i64 ph, .slice pA pn pc]] w (Ret (.bool true) w) := by
  have H_p := hid h_p
  clear h_p
  go_enter Try.func4, Try.ntmps4
  go_upto_region 1 with fail
  obtain ⟨W0, hW0⟩ : ∃ W0, W0 = (w.alloc (.cells #[.int .i64 pw, .int .i64 ph, .slice pA pn pc] 24)) := ⟨_, rfl⟩
  have hB0 : Below w.heap.size w W0 := by rw [hW0]; exact (Below.refl w.heap.size w).alloc (by simp; try omega) _
  have z0 : w.heap.size + 1 ≤ W0.heap.size := by rw [hW0]; simp
  have CE0 : BoxesTopPicture w pw ph pl pA pn pc W0 := by rw [hW0]; refine ⟨?_, ?_, ?_⟩ <;> go_simp
  rw [← hW0]
  clear hW0
  have CEH := hid CE0
  clear CE0
  have CE0 := CEH
  clear CEH
  obtain ⟨c0, c1, c2⟩ := CE0.out
  go_wp2_with fail
  have hal : Below W0.heap.size W0 (W0.alloc (.cells #[.int .i64 0, .int .i64 0] 43)) := (Below.refl _ _).alloc (Nat.le_refl _) _
  have hpx := pixs_blk2 (l := [((0 : Int), (0 : Int))]) (n := 1) (fz := (0, 0)) (heap_alloc_new W0 (.cells #[.int .i64 0, .int .i64 0] 43)) rfl
  refine (piccheck_any ⟨⟨1, 1, [(0, 0)]⟩, some ⟨W0.heap.size, 0, none⟩, 1, 1⟩ _ hpx (by show 1 ≤ 100; omega)).mono ?_
  rintro e w1 ⟨rfl, hbx⟩
  have hb := bnext hal hbx
  clear hal hbx hpx
  clear c0 c1 c2
  have CE1 := hid (CE0.out.below hb z0)
  have hB1 : Below w.heap.size w w1 := bnext hB0 hb
  have z1 : w.heap.size + 1 ≤ w1.heap.size := Nat.le_trans z0 hb.size
  simp only [picF_zero, errV_zero]
  clear hb hB0 z0 CE0
  obtain ⟨c0, c1, c2⟩ := CE1.out
  go_wp2_with fail
  refine (lightpic_any ⟨⟨pw, ph, pl⟩, pA, pn, pc⟩ _).mono ?_
  rintro e w2 ⟨rfl, hb⟩
  clear c0 c1 c2
  have CE2 := hid (CE1.out.below hb z1)
  have hB2 : Below w.heap.size w w2 := bnext hB1 hb
  have z2 : w.heap.size + 1 ≤ w2.heap.size := Nat.le_trans z1 hb.size
  clear hb hB1 z1 CE1
  obtain ⟨c0, c1, c2⟩ := CE2.out
  cases hC : decide (pn ≤ 80)
  case false => (go_wp2_with fail; go_ret; exact ⟨rfl, hB2⟩)
  have nC := of_decide_eq_true hC
  clear hC
  have nC2 : pn ≤ 100 := by omega
  go_wp2_with fail
  refine (pbytes_any ⟨⟨pw, ph, pl⟩, pA, pn, pc⟩ _ (H_p.out.below hB2) nC2).mono ?_
  rintro e w3 ⟨rfl, hb⟩
  clear c0 c1 c2
  have CE3 := hid (CE2.out.below hb z2)
  have hB3 : Below w.heap.size w w3 := bnext hB2 hb
  have z3 : w.heap.size + 1 ≤ w3.heap.size := Nat.le_trans z2 hb.size
  unfold picBV picB
  clear hb hB2 z2 CE2
  obtain ⟨c0, c1, c2⟩ := CE3.out
  have hPF1 := picFault_le ⟨pw, ph, pl⟩
  obtain ⟨F, hPF⟩ : ∃ F, picFault ⟨pw, ph, pl⟩ = F := ⟨_, rfl⟩
  simp only [hPF]
  rw [hPF] at hPF1
  have HPF := hid hPF
  clear hPF
  cases F
  case succ F =>
    rw [if_neg (Nat.succ_ne_zero F), errV_pos (Nat.succ_ne_zero F)]
    have hse : strOf [] = ⟨#[]⟩ := rfl
    rw [hse]
    clear hse
    go_wp2_with fail
    refine (piccheck_any ⟨⟨pw, ph, pl⟩, pA, pn, pc⟩ _ (H_p.out.below hB3) nC2).mono ?_
    rintro e w4 ⟨rfl, hb⟩
    clear c0 c1 c2
    have CE4 := hid (CE3.out.below hb z3)
    have hB4 : Below w.heap.size w w4 := bnext hB3 hb
    have z4 : w.heap.size + 1 ≤ w4.heap.size := Nat.le_trans z3 hb.size
    simp only [HPF.out]
    clear hb hB3 z3 CE3
    obtain ⟨c0, c1, c2⟩ := CE4.out
    go_wp2_with fail
    refine (number_any (F + 1) _ (by omega)).mono ?_
    rintro e w5 ⟨rfl, hb⟩
    clear c0 c1 c2
    have CE5 := hid (CE4.out.below hb z4)
    have hB5 : Below w.heap.size w w5 := bnext hB4 hb
    have z5 : w.heap.size + 1 ≤ w5.heap.size := Nat.le_trans z4 hb.size
    clear hb hB4 z4 CE4
    obtain ⟨c0, c1, c2⟩ := CE5.out
    go_wp2_with fail
    have hev := errV_pos (Nat.succ_ne_zero F)
    rw [Int.natCast_succ] at hev
    rw [← hev]
    clear hev
    refine (number_any (F + 1) _ (by omega)).mono ?_
    rintro e w6 ⟨rfl, hb⟩
    clear c0 c1 c2
    have CE6 := hid (CE5.out.below hb z5)
    have hB6 : Below w.heap.size w w6 := bnext hB5 hb
    have z6 : w.heap.size + 1 ≤ w6.heap.size := Nat.le_trans z5 hb.size
    clear hb hB5 z5 CE5
    obtain ⟨c0, c1, c2⟩ := CE6.out
    go_wp2_with fail
    go_ret
    exact ⟨rfl, hB6⟩
  rw [if_pos rfl, errV_zero]
  have fp := hid (picFault_fine.1 HPF.out)
  have hlb := picBytes_len fp.out
  have hls := picBytes_lt fp.out
  obtain ⟨PB, hPB⟩ : ∃ X, picBytes ⟨pw, ph, pl⟩ = X := ⟨_, rfl⟩
  have hbk := pic_back fp.out
  rw [hPB] at hlb hls hbk ⊢
  clear hPB
  have cp := fun W => parse_any (strOf PB) W (by rw [strOf_size]; omega)
  rw [strOf_data', hbk] at cp
  have CP := hid cp
  simp only at hlb
  have HLB := hid hlb
  clear cp hbk hlb
  go_wp2_with fail
  refine (CP.out _).mono ?_
  rintro e w4 ⟨A1, k1, rfl, hp1, hn1, hb⟩
  clear c0 c1 c2
  have CE4 := hid (CE3.out.below hb z3)
  have hB4 : Below w.heap.size w w4 := bnext hB3 hb
  have z4 : w.heap.size + 1 ≤ w4.heap.size := Nat.le_trans z3 hb.size
  clear hb hB3 z3 CE3
  obtain ⟨c0, c1, c2⟩ := CE4.out
  have HX1 := hid (hp1)
  clear hp1 hn1
  simp only [errV_zero]
  go_upto_region 9 with fail
  obtain ⟨W', hW'⟩ : ∃ W', W' = w4.alloc (.cells #[.int .i64 (pw), .int .i64 (ph), .slice (A1) (pl.length) (k1)] 24) := ⟨_, rfl⟩
  rw [← hW']
  have hb : Below w4.heap.size w4 W' := by rw [hW']; exact (Below.refl _ _).alloc (Nat.le_refl _) _
  have hF : PicAt w4.heap.size (pw) (ph) (A1) (pl.length) (k1) W' := by rw [hW']; exact PicAt.new _ _ _ _ _ _ _
  clear hW'
  obtain ⟨w5, rfl⟩ : ∃ w : World, w = W' := ⟨_, rfl⟩
  clear c0 c1 c2
  have HX1 := hid (HX1.out.below hb)
  have CE5 := hid (CE4.out.below hb z4)
  have hB5 : Below w.heap.size w w5 := bnext hB4 hb
  have z5 : w.heap.size + 1 ≤ w5.heap.size := Nat.le_trans z4 hb.size
  clear hb hB4 z4 CE4
  obtain ⟨c0, c1, c2⟩ := CE5.out
  obtain ⟨gx, hg⟩ : ∃ g, g = w4.heap.size := ⟨_, rfl⟩
  rw [← hg] at hF ⊢
  clear hg
  have Hgx := hid (hF)
  obtain ⟨xz, x0, x1, x2⟩ := Hgx.out
  clear hF
  have hpl := H_p.out.1
  have HPL := hid hpl
  clear hpl
  go_wp2_with fail
  refine (rsame_pic_any ⟨⟨pw, ph, pl⟩, A1, pl.length, k1⟩ ⟨⟨pw, ph, pl⟩, pA, pn, pc⟩ _ HX1.out (H_p.out.below hB5) (by show pl.length ≤ 1000000; rw [HPL.out]; omega) (by show pn ≤ 1000000; omega)).mono ?_
  rintro e w6 ⟨rfl, hb⟩
  clear c0 c1 c2 xz x0 x1 x2
  have HX1 := hid (HX1.out.below hb)
  have Hgx := hid (Hgx.out.below hb)
  have CE6 := hid (CE5.out.below hb z5)
  have hB6 : Below w.heap.size w w6 := bnext hB5 hb
  have z6 : w.heap.size + 1 ≤ w6.heap.size := Nat.le_trans z5 hb.size
  rw [samePic_self]
  clear hb hB5 z5 CE5
  obtain ⟨c0, c1, c2⟩ := CE6.out
  obtain ⟨xz, x0, x1, x2⟩ := Hgx.out
  obtain ⟨f1, f2, f3, f4, -, -⟩ := fp.out
  simp only at f1 f2 f3 f4
  have hmb : 2 * ph * (1 + 2 * pw) ≤ 16 * 17 := Int.mul_le_mul (by omega) (by omega) (by omega) (by omega)
  have hmc : 0 ≤ 2 * ph * (1 + 2 * pw) := Int.mul_nonneg (by omega) (by omega)
  obtain ⟨M, hM⟩ : ∃ M, 2 * ph * (1 + 2 * pw) = M := ⟨_, rfl⟩
  have hlb := HLB.out
  have e2 : IntKind.i64.wrap (2 * ph * (1 + 2 * pw)) = M := by rw [hM]; rw [hM] at hmb hmc; exact IntWalk.i64_in _ (by omega)
  rw [hM] at hmb hmc hlb
  have hsz := strOf_size PB
  have hle : (PB.length : Int) ≤ 2 + M := by omega
  have hle2 : ((strOf PB).size : Int) ≤ 2 + M := by rw [hsz]; omega
  have HM := hid hM
  clear hM hlb hsz
  go_wp2_with fail
  go_ret
  exact ⟨rfl, hB6⟩
theorem topPicture_row (w : World) (p : FAt FPic) (hp : PicOk w p) :
    Calls Try.prog 4 #[.agg #[.int .i64 p.x.w, .int .i64 p.x.h, .slice p.A p.n p.c]] w (Ret (.bool true) w) :=
  topPicture_walk p.x.w p.x.h p.x.p p.A p.n p.c w hp.1 
end Fb
