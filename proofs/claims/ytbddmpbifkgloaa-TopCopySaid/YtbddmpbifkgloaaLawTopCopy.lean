/- The law TopCopy: it returns true. Conditions: none but the arguments' shape. -/
import Derived.Test.YtbddmpbifkgloaaObjsKit
import Derived.Test.YtbddmpbifkgloaaOpen2
namespace Fb
open Go Go.Proofs Go.RowKit Go.Sort
/-- the op's box, and that it may be written -/
def OpBoxF (w : World) (g : Nat) (ok oi ona onb onc ond ow oh : Int) (oA : Option Addr) (on oc : Nat) : Prop := OpBox w g ok oi ona onb onc ond ow oh oA on oc ∧ w.frozen? ⟨g, 1, none⟩ = false
theorem OpBoxF.below {w w' : World} {B g : Nat} {ok oi ona onb onc ond ow oh : Int} {oA : Option Addr} {on oc : Nat} (h : OpBoxF w g ok oi ona onb onc ond ow oh oA on oc) (hb : Below B w w') (hB : g < B) : OpBoxF w' g ok oi ona onb onc ond ow oh oA on oc :=
  ⟨h.1.below hb hB, (hb.frozen (p := ⟨g, 1, none⟩) hB).trans h.2⟩
set_option maxRecDepth 100000 in
set_option maxHeartbeats 8000000 in
theorem topCopy_walk (lA : Option Addr) (ln lc : Nat) (rs : List (FAt FObj)) (from_ to_ : Int) (ok oi ona onb onc ond ow oh : Int) (ol : List Px) (oA : Option Addr) (on oc : Nat) (w : World) (h : Objs w lA ln rs) (hp : Pixs w oA on ol) :
    Calls Try.prog 5 #[.slice lA ln lc, .int .i64 from_, .int .i64 to_, .agg #[.int .i64 ok, .int .i64 oi, .int .i64 ona, .int .i64 onb, .int .i64 onc, .int .i64 ond, .int .i64 ow, .int .i64 oh, .slice oA on oc]] w (Ret (.bool true) w) := by
  have Hl := hid h.1
  have HO := hid h
  have HP := hid hp
  clear h hp
  go_enter Try.func5, Try.ntmps5
  go_upto_region 1 with fail
  obtain ⟨W0, hW0⟩ : ∃ W0, W0 = w.alloc (.cells #[.int .i64 ok, .int .i64 oi, .int .i64 ona, .int .i64 onb, .int .i64 onc, .int .i64 ond, .int .i64 ow, .int .i64 oh, .slice oA on oc] 31) := ⟨_, rfl⟩
  have hB0 : Below w.heap.size w W0 := by rw [hW0]; exact (Below.refl w.heap.size w).alloc (Nat.le_refl _) _
  have z0 : w.heap.size < W0.heap.size := by rw [hW0]; simp
  have CE0 : Hid (OpBoxF W0 w.heap.size ok oi ona onb onc ond ow oh oA on oc) := by show OpBoxF _ _ _ _ _ _ _ _ _ _ _ _ _; rw [hW0]; refine ⟨⟨?_, ?_, ?_, ?_, ?_, ?_, ?_, ?_, ?_⟩, ?_⟩ <;> go_simp
  rw [← hW0]
  clear hW0
  go_wp2_with fail
  refine (fresh_any 3 ⟨⟨1, 1, [(0, 0)]⟩, some ⟨W0.heap.size, 0, none⟩, 1, 1⟩ _).mono ?_
  rintro e w1 ⟨rfl, hb1⟩
  have hb1' : Below W0.heap.size W0 w1 := Below.trans (by (repeat (first | with_reducible exact Below.refl _ _ | with_reducible refine Below.alloc ?_ (by simp; try omega) _ | with_reducible refine Below.setCell ?_ (by simp; try omega) _ | with_reducible refine below_drewN ?_ _ | with_reducible refine Below.drew ?_))) (hb1.mono (by simp))
  have hB1 : Below w.heap.size w w1 := bnext hB0 hb1'
  have CE1 := hid (CE0.out.below hb1' z0)
  have z1 : w.heap.size < w1.heap.size := by have := hb1'.size; omega
  clear hb1 hb1' hB0 CE0 z0
  unfold freshP
  simp only
  go_wp2_with fail
  have hB := hB1
  refine (lightobs_any lA ln lc rs _ (HO.out.below (by (repeat (first | with_reducible exact hB | with_reducible refine Below.alloc ?_ (by have := hB.size; simp; try omega) _ | with_reducible refine Below.setCell ?_ (by have := hB.size; simp; try omega) _ | with_reducible refine below_drewN ?_ _ | with_reducible refine Below.drew ?_))))).mono ?_
  rintro e w2 ⟨bt, rfl, ht, hb2⟩
  have hb2' : Below w1.heap.size w1 w2 := Below.trans (by (repeat (first | with_reducible exact Below.refl _ _ | with_reducible refine Below.alloc ?_ (by simp; try omega) _ | with_reducible refine Below.setCell ?_ (by simp; try omega) _ | with_reducible refine below_drewN ?_ _ | with_reducible refine Below.drew ?_))) (hb2.mono (by simp))
  have hB2 : Below w.heap.size w w2 := bnext hB1 hb2'
  have CE2 := hid (CE1.out.below hb2' z1)
  have z2 : w.heap.size < w2.heap.size := by have := hb2'.size; omega
  have Ht := hid ht
  clear ht hb2 hb2' hB hB1 CE1 z1
  cases bt
  case false => (go_wp2_with fail; go_ret; exact ⟨rfl, hB2⟩)
  obtain ⟨hl6, hof, -⟩ := Ht.out rfl
  have Hof := hid hof
  rw [Hl.out] at hl6
  clear Ht hof
  obtain ⟨⟨b0, b1, b2, b3, b4, b5, b6, b7, b8⟩, b9⟩ := CE2.out
  go_wp2_with fail
  refine (lightpic_any ⟨⟨ow, oh, ol⟩, oA, on, oc⟩ _).mono ?_
  rintro e w3 ⟨rfl, hb3⟩
  have hB3 : Below w.heap.size w w3 := bnext hB2 hb3
  have CE3 := hid (CE2.out.below hb3 z2)
  have z3 : w.heap.size < w3.heap.size := by have := hb3.size; omega
  clear b0 b1 b2 b3 b4 b5 b6 b7 b8 b9 hb3 hB2 CE2 z2
  simp only
  by_cases h80 : on ≤ 80
  case neg =>
    rw [show decide (on ≤ 80) = false by simp; omega]
    go_wp2_with fail; go_ret; exact ⟨rfl, hB3⟩
  rw [show decide (on ≤ 80) = true by simp; omega]
  by_cases g0 : from_ < 1
  · (go_wp2_with fail; go_ret; exact ⟨rfl, hB3⟩)
  have g0' : 1 ≤ from_ := by omega
  clear g0
  by_cases g1 : 6 < from_
  · (go_wp2_with fail; go_ret; exact ⟨rfl, hB3⟩)
  have g1' : from_ ≤ 6 := by omega
  clear g1
  by_cases g2 : to_ < 1
  · (go_wp2_with fail; go_ret; exact ⟨rfl, hB3⟩)
  have g2' : 1 ≤ to_ := by omega
  clear g2
  by_cases g3 : 6 < to_
  · (go_wp2_with fail; go_ret; exact ⟨rfl, hB3⟩)
  have g3' : to_ ≤ 6 := by omega
  clear g3
  by_cases g4 : from_ = to_
  · have g4' : (from_ == to_) = true := by simp [g4]
    clear g4
    (go_wp2_with fail; go_ret; exact ⟨rfl, hB3⟩)
  have g4' : (from_ == to_) = false := by simp [g4]
  go_wp2_with fail
  refine (get_any lA ln lc rs from_ _ (HO.out.below hB3) Hof.out.1 (by omega)).mono ?_
  rintro e w4 ⟨rfl, hb4⟩
  rw [getV_eq2]
  have hB4 : Below w.heap.size w w4 := bnext hB3 hb4
  have CE4 := hid (CE3.out.below hb4 z3)
  have z4 : w.heap.size < w4.heap.size := by have := hb4.size; omega
  have Hgt := hid (fun h => getD_some (o := getR from_ rs) h)
  have Hgf := hid (fun h => getD_none (o := getR from_ rs) h)
  clear hb4 hB3 CE3 z3
  generalize (getR from_ rs).getD zeroO = r0 at *
  generalize (getR from_ rs).isSome = is0 at *
  go_wp2_with fail
  have hB := hB4
  have hop := copy_ok (i := from_) (j := to_) ⟨g0', g1'⟩ ⟨g2', g3'⟩
  refine (do_any2 ⟨copyOp from_ to_, none, 0, 0⟩ lA ln lc rs _ (HO.out.below (by (repeat (first | with_reducible exact hB | with_reducible refine Below.alloc ?_ (by have := hB.size; simp; try omega) _ | with_reducible refine Below.setCell ?_ (by have := hB.size; simp; try omega) _ | with_reducible refine below_drewN ?_ _ | with_reducible refine Below.drew ?_)))) (pixs_none _ _) Hof.out (by omega) hop).mono ?_
  rintro e w5 ⟨A5, n5, c5, rs5, rfl, ho5, hd5, hb5, hav5⟩
  simp only at hd5 ⊢
  have hb5' : Below w4.heap.size w4 w5 := Below.trans (by (repeat (first | with_reducible exact Below.refl _ _ | with_reducible refine Below.alloc ?_ (by simp; try omega) _ | with_reducible refine Below.setCell ?_ (by simp; try omega) _ | with_reducible refine below_drewN ?_ _ | with_reducible refine Below.drew ?_))) (hb5.mono (by simp))
  have hB5 : Below w.heap.size w w5 := bnext hB4 hb5'
  have CE5 := hid (CE4.out.below hb5' z4)
  have hav6 : Avoid w.heap.size rs := avoid_old HO.out (dat_fine2 Hof.out.2) (Nat.le_refl _)
  have Hav := hid (hav5 w.heap.size (by simp; omega) hav6 (fun a e => by cases e))
  have hbx : ObBox w5 w4.heap.size r0 := ObBox.below (B := w4.heap.size + 1) (w := w4.alloc (.cells #[.int .i64 r0.x.id, .int .i64 r0.x.x, .int .i64 r0.x.y, .int .i64 r0.x.pic.w, .int .i64 r0.x.pic.h, .slice r0.A r0.n r0.c, .int .i64 r0.x.clip.x, .int .i64 r0.x.clip.y, .int .i64 r0.x.clip.w, .int .i64 r0.x.clip.h, .bool r0.x.shown] 29)) (by refine ⟨?_, ?_, ?_, ?_, ?_, ?_, ?_, ?_, ?_, ?_, ?_⟩ <;> go_simp) (hb5.mono (by simp)) (by omega)
  have HBX := hid hbx
  have z5 : w4.heap.size < w5.heap.size := by have := hb5.size; simp at this; omega
  clear hb5 hb5' hav5 hav6 hB hB4 CE4 hop hbx
  obtain ⟨g10, hg10⟩ : ∃ g, g = w4.heap.size := ⟨_, rfl⟩
  rw [← hg10] at HBX z5 z4 ⊢
  clear hg10
  cases is0
  case false =>
    have hn := Hgf.out rfl
    have hpn : getP from_ (dat rs) = none := by rw [getR_dat, hn]; rfl
    have hnum := number_any 5 w5 (by omega)
    rw [copy_none hpn, errV_pos (by decide)]
    rw [errV_pos (by decide)] at hnum
    simp only at hnum ⊢
    have Hnum := hid hnum
    clear hn hpn hnum hd5 ho5 Hgt Hgf HBX
    go_wp2_with fail
    refine Hnum.out.mono ?_
    rintro e w6 ⟨rfl, hb6⟩
    go_wp2_with fail
    go_ret
    exact ⟨rfl, bnext hB5 hb6⟩
  have hg := Hgt.out rfl
  obtain ⟨hm, he⟩ := getR_mem hg
  have hfo : ObjFine r0.x := Hof.out.2 r0.x (List.mem_map_of_mem hm)
  have hp0 := HO.out.2.2 r0 hm
  have hgp : getP from_ (dat rs) = some r0.x := by rw [getR_dat, hg]; rfl
  rw [copy_do hgp] at hd5 ⊢
  rw [errV_zero]
  simp only at hd5 ⊢
  have Hf5 := hid (show ObjsFine (dat rs5) from by rw [hd5]; exact set_fine Hof.out ⟨⟨g2', g3', hfo.1.2.2⟩, hfo.2⟩)
  have hn5 : n5 ≤ 1000 := by
    have h1 := objs_few Hf5.out
    rw [dat_len, ho5.1] at h1
    omega
  have HO5 := hid ho5
  obtain ⟨rc5, hgc, hxc, hmc⟩ := getR_of (rs := rs5) (id := to_) (x := { r0.x with id := to_ }) (by rw [hd5, get_set, if_pos rfl])
  have hpc := ho5.2.2 rc5 hmc
  have Hgfrom := hid (show getP from_ (dat rs5) = some r0.x from by rw [hd5, get_set, if_neg (show ¬ to_ = from_ from fun h => g4 h.symm)]; exact hgp)
  have Hgto := hid (show getP to_ (dat rs5) = some { r0.x with id := to_ } from by rw [hd5, get_set, if_pos rfl])
  have Hp0 := hid hp0
  have Hfo := hid hfo
  have hget5 := get_any A5 n5 c5 rs5 to_ w5 ho5 Hf5.out.1 hn5
  rw [hgc] at hget5
  unfold getV at hget5
  have Hget5 := hid hget5
  have Hpc := hid hpc
  clear hg hm hgp hd5 ho5 hgc hmc hpc hget5 hp0 hfo Hgt Hgf
  obtain ⟨xc, cA, cn, cc⟩ := rc5
  simp only at hxc
  subst hxc
  obtain ⟨⟨ri, rx, ry, ⟨rw', rh, rl⟩, ⟨cx, cy, cw, ch⟩, sh⟩, rA, rn, rc⟩ := r0
  simp only at he
  subst he
  simp only at Hget5 Hgfrom Hgto Hp0 Hfo Hpc
  obtain ⟨x0, x1, x2, x3, x4, x5, x6, x7, x8, x9, x10⟩ := HBX.out
  simp only at x0 x1 x2 x3 x4 x5 x6 x7 x8 x9 x10
  go_wp2_with fail
  refine Hget5.out.mono ?_
  rintro e w6 ⟨rfl, hb6⟩
  have hB6 : Below w.heap.size w w6 := bnext hB5 hb6
  have CE6 := hid (CE5.out.below hb6 (by omega))
  have HBX6 := hid (HBX.out.below hb6 z5)
  have HO6 := hid (HO5.out.below hb6)
  have z6 : g10 < w6.heap.size := by have := hb6.size; omega
  clear x0 x1 x2 x3 x4 x5 x6 x7 x8 x9 x10 HBX HO5 CE5 Hget5
  obtain ⟨x0, x1, x2, x3, x4, x5, x6, x7, x8, x9, x10⟩ := HBX6.out
  simp only at x0 x1 x2 x3 x4 x5 x6 x7 x8 x9 x10
  have hsame := fun W (hb : Below w.heap.size w W) (hb5 : Below w5.heap.size w5 W) => sameobj_self ⟨ri, rx, ry, ⟨rw', rh, rl⟩, ⟨cx, cy, cw, ch⟩, sh⟩ cA rA cn rn cc rc W (Hpc.out.below hb5) (Hp0.out.below hb) (fine_len Hfo.out.2.2 Hpc.out) (fine_len Hfo.out.2.2 Hp0.out)
  have Hsame := hid hsame
  clear hsame
  go_wp2_with fail
  refine (Hsame.out _ (by have hB := hB6; (repeat (first | with_reducible exact hB | with_reducible refine Below.alloc ?_ (by have := hB.size; simp; try omega) _ | with_reducible refine Below.setCell ?_ (by have := hB.size; simp; try omega) _ | with_reducible refine below_drewN ?_ _ | with_reducible refine Below.drew ?_))) (bnext hb6 (by (repeat (first | with_reducible exact Below.refl _ _ | with_reducible refine Below.alloc ?_ (by simp; try omega) _ | with_reducible refine Below.setCell ?_ (by simp; try omega) _ | with_reducible refine below_drewN ?_ _ | with_reducible refine Below.drew ?_))))).mono ?_
  rintro e w7 ⟨rfl, hb7⟩
  have hb7' : Below w6.heap.size w6 w7 := Below.trans (by (repeat (first | with_reducible exact Below.refl _ _ | with_reducible refine Below.alloc ?_ (by simp; try omega) _ | with_reducible refine Below.setCell ?_ (by simp; try omega) _ | with_reducible refine below_drewN ?_ _ | with_reducible refine Below.drew ?_))) (hb7.mono (by simp))
  have hB7 : Below w.heap.size w w7 := bnext hB6 hb7'
  have CE7 := hid (CE6.out.below hb7' (by omega))
  have HBX7 := hid (HBX6.out.below hb7' z6)
  have HO7 := hid (HO6.out.below hb7')
  have z7 : g10 < w7.heap.size := by have := hb7'.size; omega
  clear x0 x1 x2 x3 x4 x5 x6 x7 x8 x9 x10 hb6 hb7 hb7' HBX6 HO6 CE6 Hsame hB6 hB5 z6 z5
  obtain ⟨⟨b0, b1, b2, b3, b4, b5, b6, b7, b8⟩, b9⟩ := CE7.out
  go_upto_region 17 with fail
  obtain ⟨W8, hW8⟩ : ∃ W8, W8 = w7.setCell ⟨w.heap.size, 1, none⟩ (.int .i64 to_) := ⟨_, rfl⟩
  have hgne : g10 ≠ w.heap.size := by omega
  have CE8 := hid (show OpBox W8 w.heap.size ok to_ ona onb onc ond ow oh oA on oc from by rw [hW8]; refine ⟨?_, ?_, ?_, ?_, ?_, ?_, ?_, ?_, ?_⟩ <;> go_simp)
  have HBX8 := hid (show ObBox W8 g10 _ from by rw [hW8]; exact HBX7.out.setOther hgne)
  have HO8 := hid (show Objs W8 A5 n5 rs5 from by rw [hW8]; exact HO7.out.setOther Hav.out.1 Hav.out.2)
  have hB8 : Below w.heap.size w W8 := by rw [hW8]; exact hB7.setCell (Nat.le_refl _) _
  have z8 : g10 < W8.heap.size := by rw [hW8]; simpa using z7
  rw [← hW8]
  clear b0 b1 b2 b3 b4 b5 b6 b7 b8 b9 hW8 CE7 HBX7 HO7 hB7 z7 Hav hgne
  obtain ⟨b0, b1, b2, b3, b4, b5, b6, b7, b8⟩ := CE8.out
  have HP8 := hid (HP.out.below hB8)
  go_wp2_with fail
  refine (opcheck_any ⟨⟨ok, to_, ona, onb, onc, ond, ⟨ow, oh, ol⟩⟩, oA, on, oc⟩ W8 HP8.out (show on ≤ 100 by omega)).mono ?_
  rintro e w9 ⟨rfl, hb9⟩
  have hB9 : Below w.heap.size w w9 := bnext hB8 hb9
  have CE9 := hid (CE8.out.below hb9 (by omega))
  have HBX9 := hid (HBX8.out.below hb9 z8)
  have HO9 := hid (HO8.out.below hb9)
  have z9 : g10 < w9.heap.size := by have := hb9.size; omega
  have HP9 := hid (HP8.out.below hb9)
  clear b0 b1 b2 b3 b4 b5 b6 b7 b8 CE8 HBX8 HO8 hB8 HP8 hb9 z8
  obtain ⟨b0, b1, b2, b3, b4, b5, b6, b7, b8⟩ := CE9.out
  simp only
  have Hx := hid (fun (h : opFault ⟨ok, to_, ona, onb, onc, ond, ⟨ow, oh, ol⟩⟩ = 0) => h)
  obtain ⟨F, hF⟩ : ∃ F, opFault ⟨ok, to_, ona, onb, onc, ond, ⟨ow, oh, ol⟩⟩ = F := ⟨_, rfl⟩
  rw [hF]
  have HF := hid hF
  clear hF Hx
  by_cases hF0 : F = 0
  case neg =>
    rw [errV_pos hF0]
    clear hF0
    go_wp2_with fail
    go_ret
    exact ⟨rfl, hB9⟩
  rw [hF0, errV_zero]
  rw [hF0] at HF
  clear hF0
  by_cases hk6 : ok = 6
  · have hk6' : (ok == 6) = true := by simp [hk6]
    clear hk6
    go_wp2_with fail
    go_ret
    exact ⟨rfl, hB9⟩
  have hk6' : (ok == 6) = false := by simp [hk6]
  have Hk6 := hid hk6
  clear hk6
  have hwell := do_well (l := dat rs5) (x := ⟨ok, to_, ona, onb, onc, ond, ⟨ow, oh, ol⟩⟩) Hgto.out
  have hdo := do_any ⟨⟨ok, to_, ona, onb, onc, ond, ⟨ow, oh, ol⟩⟩, oA, on, oc⟩ A5 n5 c5 rs5 w9 HO9.out HP9.out Hf5.out hn5 HF.out
  simp only at hdo
  rw [hwell, errV_zero] at hdo
  have hfn := do_fine Hf5.out HF.out
  have hot := do_other (id := ri) Hf5.out HF.out hwell (fun h => g4 h) (fun h => absurd h Hk6.out)
  rw [Hgfrom.out] at hot
  generalize (doP (dat rs5) ⟨ok, to_, ona, onb, onc, ond, ⟨ow, oh, ol⟩⟩).1 = LD at *
  have Hdo := hid hdo
  have Hfn := hid hfn
  have Hot := hid hot
  clear hdo hfn hot hwell Hgto Hgfrom HF Hk6 HO9
  go_wp2_with fail
  refine Hdo.out.mono ?_
  rintro e wa ⟨Aa, na, ca, rsa, rfl, hoa, hda, hba⟩
  have hBa : Below w.heap.size w wa := bnext hB9 hba
  have HBXa := hid (HBX9.out.below hba z9)
  have za : g10 < wa.heap.size := by have := hba.size; omega
  have hna : na ≤ 1000 := by
    have h1 := objs_few (l := dat rsa) (by rw [hda]; exact Hfn.out)
    rw [dat_len, hoa.1] at h1
    omega
  obtain ⟨rp, hgp, hxp, hmp⟩ := getR_of (rs := rsa) (id := ri) (by rw [hda]; exact Hot.out)
  have hpp := hoa.2.2 rp hmp
  have hgeta := get_any Aa na ca rsa ri wa hoa (by rw [hda]; exact Hfn.out.1) hna
  rw [hgp] at hgeta
  unfold getV at hgeta
  obtain ⟨xp, pA, pn, pc⟩ := rp
  simp only at hxp hpp
  subst hxp
  simp only at hgeta hpp
  have Hgeta := hid hgeta
  have Hpp := hid hpp
  clear hgeta hgp hmp hpp hoa hda b0 b1 b2 b3 b4 b5 b6 b7 b8 CE9 HBX9 HP9 hba hB9 z9 Hdo Hfn Hot
  go_wp2_with fail
  refine Hgeta.out.mono ?_
  rintro e wb ⟨rfl, hbb⟩
  have hBb : Below w.heap.size w wb := bnext hBa hbb
  have HBXb := hid (HBXa.out.below hbb za)
  have zb : g10 < wb.heap.size := by have := hbb.size; omega
  obtain ⟨x0, x1, x2, x3, x4, x5, x6, x7, x8, x9, x10⟩ := HBXb.out
  simp only at x0 x1 x2 x3 x4 x5 x6 x7 x8 x9 x10
  have Hs := hid (fun W (hb : Below w.heap.size w W) (hb5 : Below wa.heap.size wa W) => sameobj_self ⟨ri, rx, ry, ⟨rw', rh, rl⟩, ⟨cx, cy, cw, ch⟩, sh⟩ pA rA pn rn pc rc W (Hpp.out.below hb5) (Hp0.out.below hb) (fine_len Hfo.out.2.2 Hpp.out) (fine_len Hfo.out.2.2 Hp0.out))
  clear Hgeta HBXa hBa za
  go_wp2_with fail
  refine (Hs.out _ (by have hB := hBb; (repeat (first | with_reducible exact hB | with_reducible refine Below.alloc ?_ (by have := hB.size; simp; try omega) _ | with_reducible refine Below.setCell ?_ (by have := hB.size; simp; try omega) _ | with_reducible refine below_drewN ?_ _ | with_reducible refine Below.drew ?_))) (bnext hbb (by (repeat (first | with_reducible exact Below.refl _ _ | with_reducible refine Below.alloc ?_ (by simp; try omega) _ | with_reducible refine Below.setCell ?_ (by simp; try omega) _ | with_reducible refine below_drewN ?_ _ | with_reducible refine Below.drew ?_))))).mono ?_
  rintro e wc ⟨rfl, hbc⟩
  have hBc : Below w.heap.size w wc := bnext (by have hB := hBb; (repeat (first | with_reducible exact hB | with_reducible refine Below.alloc ?_ (by have := hB.size; simp; try omega) _ | with_reducible refine Below.setCell ?_ (by have := hB.size; simp; try omega) _ | with_reducible refine below_drewN ?_ _ | with_reducible refine Below.drew ?_))) hbc
  go_wp2_with fail
  go_ret
  exact ⟨rfl, hBc⟩
theorem topCopy_row (w : World) (r : FAt (List (FAt FObj))) (h : Objs w r.A r.n r.x ∧ r.n ≤ r.c ∧ r.c ≤ maxLen ∧ ∀ q ∈ r.x, ObOk w q) (i : Int) (_h1 : (Lit.int .i64 i).wf = true) (j : Int) (_h2 : (Lit.int .i64 j).wf = true) (x : FAt FOp) (hx : OpOk w x) :
    Calls Try.prog 5 #[.slice r.A r.n r.c, .int .i64 i, .int .i64 j, .agg #[.int .i64 x.x.kind, .int .i64 x.x.id, .int .i64 x.x.a, .int .i64 x.x.b, .int .i64 x.x.c, .int .i64 x.x.d, .int .i64 x.x.pic.w, .int .i64 x.x.pic.h, .slice x.A x.n x.c]] w (Ret (.bool true) w) :=
  topCopy_walk r.A r.n r.c r.x i j x.x.kind x.x.id x.x.a x.x.b x.x.c x.x.d x.x.pic.w x.x.pic.h x.x.pic.p x.A x.n x.c w h.1 hx.1
end Fb
