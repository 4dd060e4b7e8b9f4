/- The law TopSeen: it returns true. Conditions: none but the arguments' shape. -/
import Derived.Test.YtbddmpbifkgloaaObjsSet
import Derived.Test.YtbddmpbifkgloaaObjsSeen
import Derived.Test.YtbddmpbifkgloaaObjsLaw2
import Derived.Test.YtbddmpbifkgloaaLightObs
import Derived.Test.YtbddmpbifkgloaaObjsDo
import Derived.Test.YtbddmpbifkgloaaReelSame
import Derived.Test.YtbddmpbifkgloaaOpen2
namespace Fb
open Go Go.Proofs Go.RowKit Go.Sort
theorem objs_none (w : World) : Objs w none 0 [] := ⟨rfl, Row.none_ _ _ _, by simp⟩
/-- what is seen of the list t is what is seen without the object -/
def HidR (rs : List (FAt FObj)) (id : Int) (X Y : Nat) (back : Px) (W : World) (t : Value) (wi : World) : Prop := ∃ (A9 : Option Addr) (n9 c9 : Nat) (rs9 : List (FAt FObj)), t = .slice A9 n9 c9 ∧ Objs wi A9 n9 rs9 ∧ (∀ r ∈ rs9, ObjFine r.x) ∧ n9 ≤ 1000 ∧ seenP (dat rs9) X Y back = seenP (dropP id (dat rs)) X Y back ∧ Below W.heap.size W wi
theorem getP_no0 {rs : List (FAt FObj)} {id : Int} (h : getR id rs = none) : getP id (dat rs) = none := by rw [getR_dat, h]; rfl
theorem getV_eq (o : Option (FAt FObj)) : getV o = .tuple #[objV (o.getD zeroO), .bool o.isSome] := by cases o <;> rfl
theorem seenP_shape (l : List FObj) (X Y : Nat) (b : Px) : seenP l X Y b = ⟨(X : Int), (Y : Int), (seenP l X Y b).p⟩ ∧ (seenP l X Y b).p.length = X * Y := by
  have h := seenK_shape l X Y b l.length
  rw [seenK_all (Nat.le_refl _)] at h
  exact h
theorem seen_shaped {A : Option Addr} {n c : Nat} {rs : List (FAt FObj)} {X Y N : Nat} {back : Px} {l : List Px} {w : World} (h : Objs w A n rs) (hf : ∀ r ∈ rs, ObjFine r.x) (hn : n ≤ 1000) (hX : 1 ≤ X) (hX8 : X ≤ 8) (hY : 1 ≤ Y) (hY8 : Y ≤ 8) (hb : PxFine back)
    (he : seenP (dat rs) X Y back = ⟨(X : Int), (Y : Int), l⟩) (hl : l.length = N) : Calls Try.prog 25 #[.slice A n c, .int .i64 X, .int .i64 Y, .agg #[.int .i64 back.1, .int .i64 back.2]] w (RetPicN X Y N l w) := by
  have h2 := seen_any A n c rs X Y back w h hf hn hX hX8 hY hY8 hb
  rw [he] at h2
  exact h2.mono fun e w' h => ret_n hl h
theorem same_selfN (pw ph : Int) (l : List Px) (N : Nat) (A B : Option Addr) (c d : Nat) (w : World) (ha : Pixs w A N l) (hb : Pixs w B N l) (hn : N ≤ 1000000) :
    Calls Try.prog 24 #[.agg #[.int .i64 pw, .int .i64 ph, .slice A N c], .agg #[.int .i64 pw, .int .i64 ph, .slice B N d]] w (Ret (.bool true) w) := by
  have h := rsame_pic_any ⟨⟨pw, ph, l⟩, A, N, c⟩ ⟨⟨pw, ph, l⟩, B, N, d⟩ w ha hb hn hn
  have e : samePic ⟨pw, ph, l⟩ ⟨pw, ph, l⟩ = true := by unfold samePic; simp
  simp only [e] at h
  exact h
theorem own_snocT {os : List (FAt FObj)} {B : Nat} {w : World} {v : Value} {r : FAt FObj} (h : w.ownsRow B 29 11 v (os.length + 1) (os.flatMap obCells ++ obCells r)) : OwnObjs (os ++ [r]) B w v := by
  unfold OwnObjs
  rw [List.length_append, List.flatMap_append]
  simpa using h
theorem dat_fine {rs : List (FAt FObj)} (h : ∀ o ∈ dat rs, ObjFine o) : ∀ r ∈ rs, ObjFine r.x := fun r hr => h r.x (List.mem_map_of_mem hr)
theorem pixB_fine {v a : Int} (h : pixB v a = true) : PxFine (v, a) := by unfold pixB at h; unfold PxFine; simp at h ⊢; omega
/-- a picture of two pixels alike, in new memory -/
theorem seen_two (back : Px) (hb : PxFine back) (w : World) : Calls Try.prog 25 #[.slice none 0 0, .int .i64 2, .int .i64 1, .agg #[.int .i64 back.1, .int .i64 back.2]] w (RetPicN 2 1 2 [back, back] w) := by
  have h := seen_any none 0 0 [] 2 1 back w (objs_none w) (by simp) (by omega) (by omega) (by omega) (by omega) (by omega) hb
  exact h.mono fun e w' h => ret_n (N := 2) rfl h
set_option maxRecDepth 100000 in
set_option maxHeartbeats 8000000 in
theorem topSeen_walk (lA : Option Addr) (ln lc : Nat) (rs : List (FAt FObj)) (id X Y bv ba v : Int) (w : World) (h : Objs w lA ln rs) :
    Calls Try.prog 4 #[.slice lA ln lc, .int .i64 id, .int .i64 X, .int .i64 Y, .agg #[.int .i64 bv, .int .i64 ba], .int .i64 v] w (Ret (.bool true) w) := by
  have Hl := hid h.1
  have HO := hid h
  clear h
  go_enter Try.func4, Try.ntmps4
  go_upto_region 1 with fail
  obtain ⟨W0, hW0⟩ : ∃ W0, W0 = w.alloc (.cells #[.int .i64 bv, .int .i64 ba] 33) := ⟨_, rfl⟩
  have hB0 : Below w.heap.size w W0 := by rw [hW0]; exact (Below.refl w.heap.size w).alloc (Nat.le_refl _) _
  have z0 : w.heap.size < W0.heap.size := by rw [hW0]; simp
  have BK0 : Hid (W0.cell? ⟨w.heap.size, 0, none⟩ = some (.int .i64 bv) ∧ W0.cell? ⟨w.heap.size, 1, none⟩ = some (.int .i64 ba)) := by show _ ∧ _; rw [hW0]; constructor <;> go_simp
  rw [← hW0]
  clear hW0
  go_wp2_with fail
  refine (seen_two (5, 9) (by unfold PxFine; simp) _).mono ?_
  rintro e w1 ⟨A1, c1, rfl, hp1, hn1, hb1⟩
  obtain ⟨b1, o1, rfl, hs1, hc1⟩ := hp1.open_ (by omega)
  obtain ⟨-, k1⟩ := hc1 1 (by simp)
  simp only [List.getElem_cons_succ, List.getElem_cons_zero, Nat.one_mul] at k1
  have hB1 := bnext hB0 hb1
  have BK1 := hid (show w1.cell? ⟨w.heap.size, 0, none⟩ = some (.int .i64 bv) ∧ w1.cell? ⟨w.heap.size, 1, none⟩ = some (.int .i64 ba) from ⟨(hb1.cell (p := ⟨w.heap.size, 0, none⟩) z0).trans BK0.out.1, (hb1.cell (p := ⟨w.heap.size, 1, none⟩) z0).trans BK0.out.2⟩)
  have z1 : w.heap.size < w1.heap.size := by have := hb1.size; omega
  clear hp1 hn1 hc1 BK0 hB0 hb1 z0
  go_wp2_with fail
  have hB := hB1
  refine (lightobs_any lA ln lc rs _ (HO.out.below (by (repeat (first | with_reducible exact hB | with_reducible refine Below.alloc ?_ (by have := hB.size; simp; try omega) _ | with_reducible refine Below.setCell ?_ (by have := hB.size; simp; try omega) _ | with_reducible refine below_drewN ?_ _ | with_reducible refine Below.drew ?_))))).mono ?_
  rintro e w2 ⟨bt, rfl, ht, hb2⟩
  have hB2 : Below w.heap.size w w2 := bnext (by (repeat (first | with_reducible exact hB | with_reducible refine Below.alloc ?_ (by have := hB.size; simp; try omega) _ | with_reducible refine Below.setCell ?_ (by have := hB.size; simp; try omega) _ | with_reducible refine below_drewN ?_ _ | with_reducible refine Below.drew ?_))) hb2
  have hb12 : Below w1.heap.size w1 w2 := ((Below.refl _ _).alloc (Nat.le_refl _) _).trans (hb2.mono (by simp))
  have BK2 := hid (show w2.cell? ⟨w.heap.size, 0, none⟩ = some (.int .i64 bv) ∧ w2.cell? ⟨w.heap.size, 1, none⟩ = some (.int .i64 ba) from ⟨(hb12.cell (p := ⟨w.heap.size, 0, none⟩) z1).trans BK1.out.1, (hb12.cell (p := ⟨w.heap.size, 1, none⟩) z1).trans BK1.out.2⟩)
  have z2 : w.heap.size < w2.heap.size := by have := hb12.size; omega
  clear k1 hb2 hb12 BK1 hB1 hB hs1 z1
  have Ht := hid ht
  clear ht
  cases bt
  case false => (go_wp2_with fail; go_ret; exact ⟨rfl, hB2⟩)
  obtain ⟨hl6, hof, hn80⟩ := Ht.out rfl
  have Hof := hid hof
  rw [Hl.out] at hl6
  clear Ht hn80 hof
  by_cases g1 : X < 1
  · (go_wp2_with fail; go_ret; exact ⟨rfl, hB2⟩)
  by_cases g2 : 8 < X
  · have g1' : 1 ≤ X := by omega
    clear g1
    (go_wp2_with fail; go_ret; exact ⟨rfl, hB2⟩)
  by_cases g3 : Y < 1
  · have g1' : 1 ≤ X := by omega
    have g2' : X ≤ 8 := by omega
    clear g1 g2
    (go_wp2_with fail; go_ret; exact ⟨rfl, hB2⟩)
  by_cases g4 : 8 < Y
  · have g1' : 1 ≤ X := by omega
    have g2' : X ≤ 8 := by omega
    have g3' : 1 ≤ Y := by omega
    clear g1 g2 g3
    (go_wp2_with fail; go_ret; exact ⟨rfl, hB2⟩)
  have g1' : 1 ≤ X := by omega
  have g2' : X ≤ 8 := by omega
  have g3' : 1 ≤ Y := by omega
  have g4' : Y ≤ 8 := by omega
  clear g1 g2 g3 g4
  obtain ⟨k0, k1⟩ := BK2.out
  go_wp2_with fail
  refine (tpixel_any bv ba _).mono ?_
  rintro e w3 ⟨rfl, hb3⟩
  have hB3 := bnext hB2 hb3
  have BK3 := hid (show w3.cell? ⟨w.heap.size, 0, none⟩ = some (.int .i64 bv) ∧ w3.cell? ⟨w.heap.size, 1, none⟩ = some (.int .i64 ba) from ⟨(hb3.cell (p := ⟨w.heap.size, 0, none⟩) z2).trans k0, (hb3.cell (p := ⟨w.heap.size, 1, none⟩) z2).trans k1⟩)
  have z3 : w.heap.size < w3.heap.size := by have := hb3.size; omega
  clear k0 k1 BK2 hb3 hB2 z2
  obtain ⟨pb, hpb⟩ : ∃ p, pixB bv ba = p := ⟨_, rfl⟩
  rw [hpb]
  have Hpb := hid hpb
  clear hpb
  cases pb
  case false => (go_wp2_with fail; go_ret; exact ⟨rfl, hB3⟩)
  have hbf := hid (pixB_fine Hpb.out)
  clear Hpb
  by_cases g5 : v < 0
  · (go_wp2_with fail; go_ret; exact ⟨rfl, hB3⟩)
  by_cases g6 : 255 < v
  · have g5' : 0 ≤ v := by omega
    clear g5
    (go_wp2_with fail; go_ret; exact ⟨rfl, hB3⟩)
  have g5' : 0 ≤ v := by omega
  have g6' : v ≤ 255 := by omega
  clear g5 g6
  obtain ⟨X, rfl⟩ : ∃ N : Nat, X = (N : Int) := ⟨X.toNat, by omega⟩
  obtain ⟨Y, rfl⟩ : ∃ N : Nat, Y = (N : Int) := ⟨Y.toNat, by omega⟩
  have hX : 1 ≤ X := by omega
  have hX8 : X ≤ 8 := by omega
  have hY : 1 ≤ Y := by omega
  have hY8 : Y ≤ 8 := by omega
  have Hset := hid (fun (r : FAt FObj) W (hb : Below w.heap.size w W) (hp : Pixs W r.A r.n r.x.pic.p) => set_any lA ln lc rs r W (HO.out.below hb) hp Hof.out.1 (by omega))
  go_wp2_with fail
  refine (get_any lA ln lc rs id _ (HO.out.below (by have hB := hB3; (repeat (first | with_reducible exact hB | with_reducible refine Below.alloc ?_ (by have := hB.size; simp; try omega) _ | with_reducible refine Below.setCell ?_ (by have := hB.size; simp; try omega) _ | with_reducible refine below_drewN ?_ _ | with_reducible refine Below.drew ?_)))) Hof.out.1 (by omega)).mono ?_
  rintro e w4 ⟨rfl, hb4⟩
  have hB4 := bnext hB3 hb4
  have BK4 := hid (show w4.cell? ⟨w.heap.size, 0, none⟩ = some (.int .i64 bv) ∧ w4.cell? ⟨w.heap.size, 1, none⟩ = some (.int .i64 ba) from ⟨(hb4.cell (p := ⟨w.heap.size, 0, none⟩) z3).trans BK3.out.1, (hb4.cell (p := ⟨w.heap.size, 1, none⟩) z3).trans BK3.out.2⟩)
  have z4 : w.heap.size < w4.heap.size := by have := hb4.size; omega
  clear hb4 hB3 BK3 z3
  rw [getV_eq]
  have Hgt := hid (fun (h : (getR id rs).isSome = true) => (show getR id rs = some ((getR id rs).getD zeroO) from by
    cases hg : getR id rs with
    | none => rw [hg] at h; cases h
    | some r => rfl))
  have Hgf := hid (fun (h : (getR id rs).isSome = false) => (show getR id rs = none from by
    cases hg : getR id rs with
    | none => rfl
    | some r => rw [hg] at h; cases h))
  generalize (getR id rs).getD zeroO = r0 at *
  generalize (getR id rs).isSome = is0 at *
  go_upto_if 79 with fail
  go_cut [14] (fun t wi => HidR rs id X Y (bv, ba) w4 t wi)
  case first =>
    cases is0 with
    | false =>
      have hg := Hgf.out rfl
      have hr := hid (show seenP (dat rs) X Y (bv, ba) = seenP (dropP id (dat rs)) X Y (bv, ba) by rw [drop_none (getP_no0 hg)])
      have ho := hid (HO.out.below hB4)
      have hof := hid (dat_fine Hof.out.2)
      clear hg Hgt Hgf
      go_wp2_with fail
      go_meet
      exact ⟨lA, ln, lc, rs, rfl, ho.out.alloc _, hof.out, by omega, hr.out, (Below.refl _ _).alloc (Nat.le_refl _) _⟩
    | true =>
      have hg := Hgt.out rfl
      obtain ⟨hm, he⟩ := getR_mem hg
      have hpx := hid ((HO.out.2.2 r0 hm).below hB4)
      have hfo : ObjFine r0.x := Hof.out.2 r0.x (List.mem_map_of_mem hm)
      obtain ⟨⟨oi, ox, oy, ⟨ow, oh, ol⟩, ⟨cx, cy, cw, ch⟩, sh⟩, oA, on, oc⟩ := r0
      simp only at he hfo
      have hsn := hid (seen_hidden (o := ⟨oi, ox, oy, ⟨ow, oh, ol⟩, ⟨cx, cy, cw, ch⟩, false⟩) rfl Hof.out.1 X Y (bv, ba))
      rw [show (⟨oi, ox, oy, ⟨ow, oh, ol⟩, ⟨cx, cy, cw, ch⟩, false⟩ : FObj).id = id from he] at hsn
      have hff := hid (set_fine Hof.out (show ObjFine ⟨oi, ox, oy, ⟨ow, oh, ol⟩, ⟨cx, cy, cw, ch⟩, false⟩ from hfo))
      clear hg hm hfo Hgt Hgf he
      have hB := hB4
      go_wp2_with fail
      refine (Hset.out ⟨⟨oi, ox, oy, ⟨ow, oh, ol⟩, ⟨cx, cy, cw, ch⟩, false⟩, oA, on, oc⟩ _ (by (repeat (first | with_reducible exact hB | with_reducible refine Below.alloc ?_ (by have := hB.size; simp; try omega) _ | with_reducible refine Below.setCell ?_ (by have := hB.size; simp; try omega) _ | with_reducible refine below_drewN ?_ _ | with_reducible refine Below.drew ?_))) (hpx.out.below (by (repeat (first | with_reducible exact Below.refl _ _ | with_reducible refine Below.alloc ?_ (by simp; try omega) _ | with_reducible refine Below.setCell ?_ (by simp; try omega) _ | with_reducible refine below_drewN ?_ _ | with_reducible refine Below.drew ?_))))).mono ?_
      rintro e w5 ⟨A9, n9, c9, rs9, rfl, ho, hd, hb9⟩
      have Ho := hid ho
      have Hd := hid hd
      have HB9 : Below w4.heap.size w4 w5 := (Below.trans (by (repeat (first | with_reducible exact Below.refl _ _ | with_reducible refine Below.alloc ?_ (by simp; try omega) _ | with_reducible refine Below.setCell ?_ (by simp; try omega) _ | with_reducible refine below_drewN ?_ _ | with_reducible refine Below.drew ?_))) (hb9.mono (by simp)))
      have hn9 : n9 ≤ 1000 := by
        have h1 := objs_few (l := dat rs9) (by rw [hd]; exact hff.out)
        rw [dat_len, ho.1] at h1
        omega
      clear ho hd hb9
      go_wp2_with fail
      go_meet
      exact ⟨A9, n9, c9, rs9, rfl, Ho.out, dat_fine (by rw [Hd.out]; exact hff.out.2), hn9, by rw [Hd.out]; exact hsn.out, HB9⟩
  case rest =>
    obtain ⟨A9, n9, c9, rs9, rfl, hO9, hF9, hn9, hs9, hb9⟩ := hcut
    obtain ⟨w5, rfl⟩ : ∃ x : World, x = wc := ⟨_, rfl⟩
    have HO9 := hid hO9
    have HF9 := hid hF9
    have HS9 := hid hs9
    have hB5 := bnext hB4 hb9
    have BK5 := hid (show w5.cell? ⟨w.heap.size, 0, none⟩ = some (.int .i64 bv) ∧ w5.cell? ⟨w.heap.size, 1, none⟩ = some (.int .i64 ba) from ⟨(hb9.cell (p := ⟨w.heap.size, 0, none⟩) z4).trans BK4.out.1, (hb9.cell (p := ⟨w.heap.size, 1, none⟩) z4).trans BK4.out.2⟩)
    have z5 : w.heap.size < w5.heap.size := by have := hb9.size; omega
    clear hO9 hF9 hs9 hb9 hB4 BK4 z4 Hgt Hgf
    obtain ⟨i0, hi, hz0, hz1, hz2⟩ := info_parts info_ob
    go_wp2_with fail
    go_loopw [17, 18] (fun u i wr => ∃ (k : Nat) (os : List (FAt FObj)), k ≤ ln ∧ i = .int .i64 k ∧ Hid (OwnObjs os w5.heap.size wr u) ∧ Hid (os = dropR id (rs.take k)) ∧ os.length ≤ k ∧ Below w5.heap.size w5 wr) (fun _ i _ => ln - (intOf i).toNat)
    case atStart => exact ⟨0, [], by omega, rfl, hid (OwnObjs.nil _ _), hid rfl, by simp, Below.refl _ _⟩
    case round =>
      obtain ⟨k, os, hk, rfl, HOw, HI, hol, hbel⟩ := hrel
      have hzr : w5.heap.size ≤ wr.heap.size := hbel.size
      have hbel0 : Below w.heap.size w wr := bnext hB5 hbel
      by_cases hlt : k < ln
      · have k1 : k < rs.length := by rw [Hl.out]; exact hlt
        obtain ⟨b, off, rfl, hbs, hc⟩ := HO.out.open_ (by omega)
        obtain ⟨d0, d1, d2, d3, d4, d5, d6, d7, d8, d9, d10⟩ := hc.cells hbel0 hbs k1
        have q2 : (k : Int) < (ln : Int) := by omega
        have Hkeep := hid (fun h : rs[k].x.id ≠ id => (show os ++ [rs[k]] = dropR id (rs.take (k + 1)) from by
          rw [HI.out, List.take_succ_eq_append_getElem k1]; unfold dropR; rw [List.filter_append]; simp [h]))
        have Hskip := hid (fun h : rs[k].x.id = id => (show os = dropR id (rs.take (k + 1)) from by
          rw [HI.out, List.take_succ_eq_append_getElem k1]; unfold dropR; rw [List.filter_append]; simp [h]))
        generalize rs[k] = q at *
        by_cases hx : q.x.id = id
        · have hx' : (q.x.id != id) = false := by simp [hx]
          have hs := hid (Hskip.out hx)
          clear hx Hkeep Hskip hc
          go_wp2_with fail
          go_roundw
          case rel => exact ⟨k + 1, os, by omega, by go_num, HOw, hs, by omega, hbel⟩
          case measure => simp [intOf]; omega
        · have hx' : (q.x.id != id) = true := by simp [hx]
          have hs := hid (Hkeep.out hx)
          clear hx Hkeep Hskip hc
          go_wp2_with (at_builtin; refine wpList_append_own _ rfl _ _ 22 rfl w5.heap.size 29 i0 _ 11 104 Try.underlying22 hi hz0 hz1 hz2 rfl (by decide) _ _ _ rfl (World.ownsRow.alloc HOw.out _) ⟨wr.heap.size, 0, none⟩ 1 1 (obCells q) rfl rfl (fun j u hu => new_cells _ #[.int .i64 q.x.id, .int .i64 q.x.x, .int .i64 q.x.y, .int .i64 q.x.pic.w, .int .i64 q.x.pic.h, .slice q.A q.n q.c, .int .i64 q.x.clip.x, .int .i64 q.x.clip.y, .int .i64 q.x.clip.w, .int .i64 q.x.clip.h, .bool q.x.shown] 29 j u hu) (fun u hu => obCells_one (rs := [q]) (by simpa using hu)) (by unfold maxLen; omega) (by omega) (by simp; omega) ?_)
          intro v1 w7 hown1 hgrow1 _
          have HOw1 : Hid (OwnObjs (os ++ [q]) w5.heap.size w7 v1) := own_snocT hown1
          have hbel1 : Below w5.heap.size w5 w7 := (Below.alloc hbel (by first | omega | (simp; omega)) _).grown hgrow1 (by simp; omega) (fun g hg => (World.ownsRow.lt HOw.out g hg).1)
          clear hown1 hgrow1
          go_wp2_with fail
          go_roundw
          case rel => exact ⟨k + 1, os ++ [q], by omega, by go_num, HOw1, hs, by simp; omega, hbel1⟩
          case measure => simp [intOf]; omega
      · obtain rfl : k = ln := by omega
        have hdr : os = dropR id rs := by rw [HI.out, List.take_of_length_le (by rw [Hl.out]; omega)]
        have hdd : dat os = dropP id (dat rs) := by rw [hdr, dropR_dat]
        have hfo : ∀ r ∈ os, ObjFine r.x := dat_fine (by rw [hdd]; exact (drop_fine Hof.out).2)
        obtain ⟨A8, c8, rfl, -, -, ho8⟩ := own_objs HOw.out (fun q hq => by rw [hdr] at hq; unfold dropR at hq; exact (HO.out.2.2 q (List.mem_filter.1 hq).1).below hbel0)
        obtain ⟨e1, e2⟩ := seenP_shape (dropP id (dat rs)) X Y (bv, ba)
        obtain ⟨L8, hL8⟩ : ∃ L, (seenP (dropP id (dat rs)) X Y (bv, ba)).p = L := ⟨_, rfl⟩
        rw [hL8] at e1 e2
        obtain ⟨N, hN⟩ : ∃ N, N = X * Y := ⟨_, rfl⟩
        have hN64 : N ≤ 1000000 := by have : X * Y ≤ 8 * 8 := Nat.mul_le_mul hX8 hY8; omega
        rw [← hN] at e2
        have C1 := hid (fun W (hb : Below wr.heap.size wr W) => seen_shaped (c := c9) ((HO9.out.below hbel).below hb) HF9.out hn9 hX hX8 hY hY8 hbf.out (by rw [HS9.out]; exact e1) e2)
        have C2 := hid (fun W (hb : Below wr.heap.size wr W) => seen_shaped (c := c8) (ho8.below hb) hfo (by omega) hX hX8 hY hY8 hbf.out (by rw [hdd]; exact e1) e2)
        have BK6 := hid (show wr.cell? ⟨w.heap.size, 0, none⟩ = some (.int .i64 bv) ∧ wr.cell? ⟨w.heap.size, 1, none⟩ = some (.int .i64 ba) from ⟨(hbel.cell (p := ⟨w.heap.size, 0, none⟩) z5).trans BK5.out.1, (hbel.cell (p := ⟨w.heap.size, 1, none⟩) z5).trans BK5.out.2⟩)
        have z6 : w.heap.size < wr.heap.size := by omega
        have KS := hid (fun W (hb : Below wr.heap.size wr W) => (show W.cell? ⟨w.heap.size, 0, none⟩ = some (.int .i64 bv) ∧ W.cell? ⟨w.heap.size, 1, none⟩ = some (.int .i64 ba) from ⟨(hb.cell (p := ⟨w.heap.size, 0, none⟩) z6).trans BK6.out.1, (hb.cell (p := ⟨w.heap.size, 1, none⟩) z6).trans BK6.out.2⟩))
        have hHO := hid (HO.out.below hbel0)
        have HNN := hid hN
        clear hN hdr hdd hfo ho8 e1 e2 hL8 HI HOw HO9 HF9 HS9 BK5 hbel hlt hk hzr z5
        generalize os.length = m8 at *
        go_upto_region 17 with fail
        go_cut [115] (fun t wi => t = .bool false ∧ Below wr.heap.size wr wi)
        case first =>
          obtain ⟨x0, x1⟩ := BK6.out
          have HBW : Below wr.heap.size wr wr := Below.refl _ _
          go_region_held3 (fun W => W.cell? ⟨w.heap.size, 0, none⟩ = some (.int .i64 bv) ∧ W.cell? ⟨w.heap.size, 1, none⟩ = some (.int .i64 ba)) (first | exact KS.out _ HBW | exact KS.out _ (by have hB := HBW; (repeat (first | with_reducible exact hB | with_reducible refine Below.alloc ?_ (by have := hB.size; simp; try omega) _ | with_reducible refine Below.setCell ?_ (by have := hB.size; simp; try omega) _ | with_reducible refine below_drewN ?_ _ | with_reducible refine Below.drew ?_))) | go_keep)
            (first
              | (go_at_call 25; (with_reducible refine (C1.out _ (by first | exact HBW | (have hB := HBW; (repeat (first | with_reducible exact hB | with_reducible refine Below.alloc ?_ (by have := hB.size; simp; try omega) _ | with_reducible refine Below.setCell ?_ (by have := hB.size; simp; try omega) _ | with_reducible refine below_drewN ?_ _ | with_reducible refine Below.drew ?_))))).mono ?_); rintro e wa ⟨a1, k1, rfl, p1, n1, h1⟩; have HBW : Below wr.heap.size wr wa := bnext (by have hB := HBW; (repeat (first | with_reducible exact hB | with_reducible refine Below.alloc ?_ (by have := hB.size; simp; try omega) _ | with_reducible refine Below.setCell ?_ (by have := hB.size; simp; try omega) _ | with_reducible refine below_drewN ?_ _ | with_reducible refine Below.drew ?_))) h1; (try have p2 := p2.below h1))
              | (go_at_call 25; (with_reducible refine (C2.out _ (by first | exact HBW | (have hB := HBW; (repeat (first | with_reducible exact hB | with_reducible refine Below.alloc ?_ (by have := hB.size; simp; try omega) _ | with_reducible refine Below.setCell ?_ (by have := hB.size; simp; try omega) _ | with_reducible refine below_drewN ?_ _ | with_reducible refine Below.drew ?_))))).mono ?_); rintro e wa ⟨a2, k2, rfl, p2, n2, h2⟩; have HBW : Below wr.heap.size wr wa := bnext (by have hB := HBW; (repeat (first | with_reducible exact hB | with_reducible refine Below.alloc ?_ (by have := hB.size; simp; try omega) _ | with_reducible refine Below.setCell ?_ (by have := hB.size; simp; try omega) _ | with_reducible refine below_drewN ?_ _ | with_reducible refine Below.drew ?_))) h2; (try have p1 := p1.below h2))
              | (go_at_call 24; (with_reducible refine (same_selfN _ _ L8 N _ _ _ _ _ p1 p2 hN64).mono ?_); rintro e wa ⟨rfl, h3⟩; have HBW : Below wr.heap.size wr wa := bnext HBW h3))
          all_goals (go_wp2_with fail)
          all_goals go_meet
          all_goals exact ⟨rfl, HBW⟩
        case rest =>
          obtain ⟨rfl, hb6⟩ := hcut
          obtain ⟨w6, rfl⟩ : ∃ x : World, x = wc := ⟨_, rfl⟩
          have hB6 : Below w.heap.size w w6 := bnext hbel0 hb6
          have BK7 := hid (KS.out w6 hb6)
          have z7 : w.heap.size < w6.heap.size := by have := hb6.size; omega
          have hpl := plain_any X Y (v, 255) w6 hX (by omega) hY (by omega)
          rw [show plainP X Y (v, 255) = ⟨(X : Int), (Y : Int), List.replicate N (v, 255)⟩ from by rw [HNN.out]; rfl] at hpl
          have Hpl := hid (hpl.mono fun e w' h => ret_n (N := N) (by rw [List.length_replicate]) h)
          have Hfront := hid (show seenP (setP (freshP 6 ⟨(X : Int), (Y : Int), List.replicate N (v, 255)⟩) (dat rs)) X Y (bv, ba) = ⟨(X : Int), (Y : Int), List.replicate N (v, 255)⟩ from by
            rw [HNN.out]; exact seen_front Hof.out hX hX8 hY hY8 g5' g6' hbf.out)
          have Hff := hid (show ObjsFine (setP (freshP 6 ⟨(X : Int), (Y : Int), List.replicate N (v, 255)⟩) (dat rs)) from by
            rw [HNN.out]; exact set_fine Hof.out (fresh_fine (by omega) (by omega) (plain_fine hX hX8 hY hY8 (by unfold PxFine; simp only; omega))))
          have hLr : (List.replicate N ((v, 255) : Px)).length = N := List.length_replicate
          clear hpl hb6 KS C1 C2 BK6 z6 hHO hbel0 hol HNN
          generalize List.replicate N ((v, 255) : Px) = LR at *
          have HLr := hid hLr
          clear hLr
          go_wp2_with fail
          refine Hpl.out.mono ?_
          rintro e w7 ⟨pA, pc, rfl, hp7, hn7, hb7⟩
          have hB7 := bnext hB6 hb7
          have Hp7 := hid hp7
          have BK8 := hid (show w7.cell? ⟨w.heap.size, 0, none⟩ = some (.int .i64 bv) ∧ w7.cell? ⟨w.heap.size, 1, none⟩ = some (.int .i64 ba) from ⟨(hb7.cell (p := ⟨w.heap.size, 0, none⟩) z7).trans BK7.out.1, (hb7.cell (p := ⟨w.heap.size, 1, none⟩) z7).trans BK7.out.2⟩)
          have z8 : w.heap.size < w7.heap.size := by have := hb7.size; omega
          clear hp7 hn7 hb7 hB6 BK7 z7 Hpl
          go_wp2_with fail
          obtain ⟨W8, hW8⟩ : ∃ W8, W8 = w7.alloc (.cells #[.int .i64 X, .int .i64 Y, .slice pA N pc] 25) := ⟨_, rfl⟩
          obtain ⟨g19, hg19⟩ : ∃ g, g = w7.heap.size := ⟨_, rfl⟩
          have hb8 : Below w7.heap.size w7 W8 := by rw [hW8]; exact (Below.refl _ _).alloc (Nat.le_refl _) _
          have PB8 := hid (show W8.cell? ⟨g19, 0, none⟩ = some (.int .i64 X) ∧ W8.cell? ⟨g19, 1, none⟩ = some (.int .i64 Y) ∧ W8.cell? ⟨g19, 2, none⟩ = some (.slice pA N pc) from by rw [hW8, hg19]; refine ⟨?_, ?_, ?_⟩ <;> go_simp)
          have zg : g19 < W8.heap.size := by rw [hW8, hg19]; simp
          have zg' : w.heap.size < g19 := by omega
          rw [← hW8, ← hg19]
          have hB8 := bnext hB7 hb8
          have Hp8 := hid (Hp7.out.below hb8)
          have BK9 := hid (show W8.cell? ⟨w.heap.size, 0, none⟩ = some (.int .i64 bv) ∧ W8.cell? ⟨w.heap.size, 1, none⟩ = some (.int .i64 ba) from ⟨(hb8.cell (p := ⟨w.heap.size, 0, none⟩) z8).trans BK8.out.1, (hb8.cell (p := ⟨w.heap.size, 1, none⟩) z8).trans BK8.out.2⟩)
          clear hW8 hg19 hb8 hB7 Hp7 BK8 z8
          refine (fresh_any 6 ⟨⟨X, Y, LR⟩, pA, N, pc⟩ W8).mono ?_
          rintro e w9 ⟨rfl, hb9⟩
          have hB9 := bnext hB8 hb9
          have KS9 := hid (fun W (hb : Below w9.heap.size w9 W) => (show W.cell? ⟨w.heap.size, 0, none⟩ = some (.int .i64 bv) ∧ W.cell? ⟨w.heap.size, 1, none⟩ = some (.int .i64 ba) ∧ W.cell? ⟨g19, 0, none⟩ = some (.int .i64 X) ∧ W.cell? ⟨g19, 1, none⟩ = some (.int .i64 Y) ∧ W.cell? ⟨g19, 2, none⟩ = some (.slice pA N pc) from by
            have hk := (hb9.trans (hb.mono hb9.size))
            exact ⟨(hk.cell (p := ⟨w.heap.size, 0, none⟩) (show w.heap.size < W8.heap.size by omega)).trans BK9.out.1, (hk.cell (p := ⟨w.heap.size, 1, none⟩) (show w.heap.size < W8.heap.size by omega)).trans BK9.out.2, (hk.cell (p := ⟨g19, 0, none⟩) zg).trans PB8.out.1, (hk.cell (p := ⟨g19, 1, none⟩) zg).trans PB8.out.2.1, (hk.cell (p := ⟨g19, 2, none⟩) zg).trans PB8.out.2.2⟩))
          have Hp9 := hid (Hp8.out.below hb9)
          clear hb9 hB8 Hp8 BK9 PB8 zg zg'
          go_wp2_with fail
          refine (Hset.out ⟨freshP 6 ⟨X, Y, LR⟩, pA, N, pc⟩ w9 hB9 Hp9.out).mono ?_
          rintro e wb ⟨Af, nf, cf, rsf, rfl, ho, hd, hbb⟩
          have hBb := bnext hB9 hbb
          have hnf : nf ≤ 1000 := by
            have h1 := objs_few (l := dat rsf) (by rw [hd]; exact Hff.out)
            rw [dat_len, ho.1] at h1
            omega
          have hff : ∀ r ∈ rsf, ObjFine r.x := dat_fine (by rw [hd]; exact Hff.out.2)
          have C3 := hid (fun W (hb : Below wb.heap.size wb W) => seen_shaped (c := cf) (ho.below hb) hff hnf hX hX8 hY hY8 hbf.out (by rw [hd]; exact Hfront.out) HLr.out)
          have KSb := hid (fun W (hb : Below wb.heap.size wb W) => KS9.out W (hbb.trans (hb.mono hbb.size)))
          have Hpb := hid (fun W (hb : Below wb.heap.size wb W) => (Hp9.out.below hbb).below hb)
          have BKb := hid (KSb.out wb (Below.refl _ _))
          clear ho hd hbb hff hB9 KS9 Hp9
          go_wp2_with fail
          obtain ⟨x0, x1, x2, x3, x4⟩ := BKb.out
          have HBW : Below wb.heap.size wb wb := Below.refl _ _
          go_region_held3 (fun W => W.cell? ⟨w.heap.size, 0, none⟩ = some (.int .i64 bv) ∧ W.cell? ⟨w.heap.size, 1, none⟩ = some (.int .i64 ba) ∧ W.cell? ⟨g19, 0, none⟩ = some (.int .i64 X) ∧ W.cell? ⟨g19, 1, none⟩ = some (.int .i64 Y) ∧ W.cell? ⟨g19, 2, none⟩ = some (.slice pA N pc)) (first | exact KSb.out _ HBW | exact KSb.out _ (by have hB := HBW; (repeat (first | with_reducible exact hB | with_reducible refine Below.alloc ?_ (by have := hB.size; simp; try omega) _ | with_reducible refine Below.setCell ?_ (by have := hB.size; simp; try omega) _ | with_reducible refine below_drewN ?_ _ | with_reducible refine Below.drew ?_))) | go_keep)
            (first
              | (go_at_call 25; (with_reducible refine (C3.out _ (by first | exact HBW | (have hB := HBW; (repeat (first | with_reducible exact hB | with_reducible refine Below.alloc ?_ (by have := hB.size; simp; try omega) _ | with_reducible refine Below.setCell ?_ (by have := hB.size; simp; try omega) _ | with_reducible refine below_drewN ?_ _ | with_reducible refine Below.drew ?_))))).mono ?_); rintro e wa ⟨a1, k1, rfl, p1, n1, h1⟩; have HBW : Below wb.heap.size wb wa := bnext (by have hB := HBW; (repeat (first | with_reducible exact hB | with_reducible refine Below.alloc ?_ (by have := hB.size; simp; try omega) _ | with_reducible refine Below.setCell ?_ (by have := hB.size; simp; try omega) _ | with_reducible refine below_drewN ?_ _ | with_reducible refine Below.drew ?_))) h1)
              | (go_at_call 24; (with_reducible refine (same_selfN _ _ LR N _ _ _ _ _ p1 (Hpb.out _ HBW) hN64).mono ?_); rintro e wa ⟨rfl, h3⟩; have HBW : Below wb.heap.size wb wa := bnext HBW h3))
          all_goals (go_wp2_with fail)
          all_goals go_ret
          all_goals exact ⟨rfl, bnext hBb HBW⟩
theorem topSeen_row (w : World) (r : FAt (List (FAt FObj))) (h : Objs w r.A r.n r.x ∧ r.n ≤ r.c ∧ r.c ≤ maxLen ∧ ∀ q ∈ r.x, ObOk w q) (id : Int) (_h1 : (Lit.int .i64 id).wf = true) (X : Int) (_h2 : (Lit.int .i64 X).wf = true) (Y : Int) (_h3 : (Lit.int .i64 Y).wf = true) (b : Px) (_h4 : Wf b.1 ∧ Wf b.2) (v : Int) (_h5 : (Lit.int .i64 v).wf = true) :
    Calls Try.prog 4 #[.slice r.A r.n r.c, .int .i64 id, .int .i64 X, .int .i64 Y, .agg #[.int .i64 b.1, .int .i64 b.2], .int .i64 v] w (Ret (.bool true) w) :=
  topSeen_walk r.A r.n r.c r.x id X Y b.1 b.2 v w h.1
end Fb
