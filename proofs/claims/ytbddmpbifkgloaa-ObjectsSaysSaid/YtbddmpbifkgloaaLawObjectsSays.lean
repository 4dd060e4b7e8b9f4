/- The law ObjectsSays: it returns true. Conditions: none but the arguments' shape. -/
import Derived.Test.YtbddmpbifkgloaaObjsKit3
import Derived.Test.YtbddmpbifkgloaaOpen2
namespace Fb
open Go Go.Proofs Go.RowKit Go.Sort
def BoxObs (w : World) (q : FAt FObj) (ok oi ona onb onc ond ow oh : Int) (oA : Option Addr) (on oc : Nat) (bv ba : Int) (W : World) : Prop :=
  ObBox W w.heap.size q ∧ OpBox W (w.heap.size + 1) ok oi ona onb onc ond ow oh oA on oc ∧ W.cell? ⟨w.heap.size + 1 + 1, 0, none⟩ = some (.int .i64 bv) ∧ W.cell? ⟨w.heap.size + 1 + 1, 1, none⟩ = some (.int .i64 ba)
theorem BoxObs.below {w W W' : World} {B : Nat} {q : FAt FObj} {ok oi ona onb onc ond ow oh : Int} {oA : Option Addr} {on oc : Nat} {bv ba : Int} (h : BoxObs w q ok oi ona onb onc ond ow oh oA on oc bv ba W) (hb : Below B W W') (hB : w.heap.size + 3 ≤ B) : BoxObs w q ok oi ona onb onc ond ow oh oA on oc bv ba W' :=
  ⟨h.1.below hb (by omega), h.2.1.below hb (by omega), (hb.cell (p := ⟨w.heap.size + 1 + 1, 0, none⟩) (show w.heap.size + 1 + 1 < B by omega)).trans h.2.2.1, (hb.cell (p := ⟨w.heap.size + 1 + 1, 1, none⟩) (show w.heap.size + 1 + 1 < B by omega)).trans h.2.2.2⟩
set_option maxRecDepth 100000 in
set_option maxHeartbeats 16000000 in
theorem objectsSays_walk (lA : Option Addr) (ln lc : Nat) (rs : List (FAt FObj)) (q : FAt FObj) (ok oi ona onb onc ond ow oh : Int) (ol : List Px) (oA : Option Addr) (on oc : Nat) (X Y bv ba : Int) (w : World) (h : Objs w lA ln rs) (hq : Pixs w q.A q.n q.x.pic.p) (hp : Pixs w oA on ol) :
    Calls Try.prog 3 #[.slice lA ln lc, .agg #[.int .i64 q.x.id, .int .i64 q.x.x, .int .i64 q.x.y, .int .i64 q.x.pic.w, .int .i64 q.x.pic.h, .slice q.A q.n q.c, .int .i64 q.x.clip.x, .int .i64 q.x.clip.y, .int .i64 q.x.clip.w, .int .i64 q.x.clip.h, .bool q.x.shown], .agg #[.int .i64 ok, .int .i64 oi, .int .i64 ona, .int .i64 onb, .int .i64 onc, .int .i64 ond, .int .i64 ow, .int .i64 oh, .slice oA on oc], .int .i64 X, .int .i64 Y, .agg #[.int .i64 bv, .int .i64 ba]] w (Ret (.bool true) w) := by
  have Hl := hid h.1
  have HO := hid h
  have HP := hid hp
  have HQ := hid hq
  clear h hp hq
  go_enter Try.func3, Try.ntmps3
  go_upto_region 1 with fail
  obtain ⟨W0, hW0⟩ : ∃ W0, W0 = (((w.alloc (.cells #[.int .i64 q.x.id, .int .i64 q.x.x, .int .i64 q.x.y, .int .i64 q.x.pic.w, .int .i64 q.x.pic.h, .slice q.A q.n q.c, .int .i64 q.x.clip.x, .int .i64 q.x.clip.y, .int .i64 q.x.clip.w, .int .i64 q.x.clip.h, .bool q.x.shown] 29)).alloc (.cells #[.int .i64 ok, .int .i64 oi, .int .i64 ona, .int .i64 onb, .int .i64 onc, .int .i64 ond, .int .i64 ow, .int .i64 oh, .slice oA on oc] 31)).alloc (.cells #[.int .i64 bv, .int .i64 ba] 33)) := ⟨_, rfl⟩
  have hB0 : Below w.heap.size w W0 := by rw [hW0]; exact (((Below.refl w.heap.size w).alloc (Nat.le_refl _) _).alloc (by simp) _).alloc (by simp; omega) _
  have z0 : w.heap.size + 3 ≤ W0.heap.size := by rw [hW0]; simp
  have CE0 : Hid (BoxObs w q ok oi ona onb onc ond ow oh oA on oc bv ba W0) := by show BoxObs _ _ _ _ _ _ _ _ _ _ _ _ _ _ _ _; rw [hW0]; refine ⟨⟨?_, ?_, ?_, ?_, ?_, ?_, ?_, ?_, ?_, ?_, ?_⟩, ⟨?_, ?_, ?_, ?_, ?_, ?_, ?_, ?_, ?_⟩, ?_, ?_⟩ <;> go_simp
  rw [← hW0]
  clear hW0
  go_wp2_with fail
  refine (things_any W0).mono ?_
  rintro e w1 ⟨rfl, hb1⟩
  have hB1 : Below w.heap.size w w1 := bnext hB0 hb1
  have CE1 := hid (CE0.out.below hb1 z0)
  have z1 : w.heap.size + 3 ≤ w1.heap.size := by have := hb1.size; omega
  clear hb1 hB0 CE0 z0
  go_wp2_with fail
  refine (lightobs_any lA ln lc rs _ (HO.out.below hB1)).mono ?_
  rintro e w2 ⟨bt, rfl, ht, hb2⟩
  have hB2 : Below w.heap.size w w2 := bnext hB1 hb2
  have CE2 := hid (CE1.out.below hb2 z1)
  have z2 : w.heap.size + 3 ≤ w2.heap.size := by have := hb2.size; omega
  have Ht := hid ht
  clear ht hb2 hB1 CE1 z1
  cases bt
  case false => (go_wp2_with fail; go_ret; exact ⟨rfl, hB2⟩)
  obtain ⟨hl6, hof, -⟩ := Ht.out rfl
  have Hof := hid hof
  rw [Hl.out] at hl6
  clear Ht hof
  obtain ⟨⟨a0, a1, a2, a3, a4, a5, a6, a7, a8, a9, a10⟩, ⟨b0, b1, b2, b3, b4, b5, b6, b7, b8⟩, k0, k1⟩ := CE2.out
  go_wp2_with fail
  refine (lightpic_any ⟨q.x.pic, q.A, q.n, q.c⟩ _).mono ?_
  rintro e w3 ⟨rfl, hb3⟩
  have hB3 : Below w.heap.size w w3 := bnext hB2 hb3
  have CE3 := hid (CE2.out.below hb3 z2)
  have z3 : w.heap.size + 3 ≤ w3.heap.size := by have := hb3.size; omega
  clear a0 a1 a2 a3 a4 a5 a6 a7 a8 a9 a10 b0 b1 b2 b3 b4 b5 b6 b7 b8 k0 k1 hb3 hB2 CE2 z2
  simp only
  by_cases hq80 : q.n ≤ 80
  case neg =>
    rw [show decide (q.n ≤ 80) = false by simp; omega]
    go_wp2_with fail; go_ret; exact ⟨rfl, hB3⟩
  rw [show decide (q.n ≤ 80) = true by simp; omega]
  obtain ⟨⟨a0, a1, a2, a3, a4, a5, a6, a7, a8, a9, a10⟩, ⟨b0, b1, b2, b3, b4, b5, b6, b7, b8⟩, k0, k1⟩ := CE3.out
  go_wp2_with fail
  refine (lightpic_any ⟨⟨ow, oh, ol⟩, oA, on, oc⟩ _).mono ?_
  rintro e w4 ⟨rfl, hb4⟩
  have hB4 : Below w.heap.size w w4 := bnext hB3 hb4
  have CE4 := hid (CE3.out.below hb4 z3)
  have z4 : w.heap.size + 3 ≤ w4.heap.size := by have := hb4.size; omega
  clear a0 a1 a2 a3 a4 a5 a6 a7 a8 a9 a10 b0 b1 b2 b3 b4 b5 b6 b7 b8 k0 k1 hb4 hB3 CE3 z3
  simp only
  by_cases h80 : on ≤ 80
  case neg =>
    rw [show decide (on ≤ 80) = false by simp; omega]
    go_wp2_with fail; go_ret; exact ⟨rfl, hB4⟩
  rw [show decide (on ≤ 80) = true by simp; omega]
  obtain ⟨⟨a0, a1, a2, a3, a4, a5, a6, a7, a8, a9, a10⟩, ⟨b0, b1, b2, b3, b4, b5, b6, b7, b8⟩, k0, k1⟩ := CE4.out
  have zz4 : w.heap.size < w4.heap.size := by omega
  have D0 := cell_all2 zz4 a0
  have D1 := cell_all2 zz4 a1
  have D2 := cell_all2 zz4 a2
  have D3 := cell_all2 zz4 a3
  have D4 := cell_all2 zz4 a4
  have D5 := cell_all2 zz4 a5
  have D6 := cell_all2 zz4 a6
  have D7 := cell_all2 zz4 a7
  have D8 := cell_all2 zz4 a8
  have D9 := cell_all2 zz4 a9
  have D10 := cell_all2 zz4 a10
  have hqp := HQ.out.below hB4
  have r1 := fun dd os => Ret.regrown (objcheck_any q (grow (redrawn w4 dd) os) (hqp.below (below_regrown w4 dd os)) (by omega))
  have r2 := fun dd os => Ret.regrown (robjfault_any q (grow (redrawn w4 dd) os) (hqp.below (below_regrown w4 dd os)) (by omega))
  have hle := objFault_le q.x
  have r3 := fun dd os => Ret.regrown (same_true (objFault q.x) (grow (redrawn w4 dd) os) (by omega))
  generalize objFault q.x = FQ at *
  clear a0 a1 a2 a3 a4 a5 a6 a7 a8 a9 a10 b0 b1 b2 b3 b4 b5 b6 b7 b8 k0 k1 hqp
  go_wp2_with fail
  refine wp_region_quiet_below (by kernel_rfl) (by kernel_rfl) ?_
  repeat (go_big_quiet_step (first | (go_at_call 11; exact r1 _ _) | (go_at_call 12; exact r2 _ _) | (go_at_call 10; exact r3 _ _)))
  (refine wpQuiet_nil ?_; intro _ hw'; obtain ⟨⟨dq, osq⟩, hw''⟩ := hw'; subst hw'')
  have hb5 := below_regrown w4 dq osq
  have hB5 : Below w.heap.size w _ := bnext hB4 hb5
  have CE5 := hid (CE4.out.below hb5 z4)
  have z5 := Nat.le_trans z4 hb5.size
  clear r1 r2 r3 hb5 hB4 CE4 z4 zz4 hle D0 D1 D2 D3 D4 D5 D6 D7 D8 D9 D10
  generalize grow (redrawn w4 dq) osq = w5 at *
  obtain ⟨⟨a0, a1, a2, a3, a4, a5, a6, a7, a8, a9, a10⟩, -, -, -⟩ := CE5.out
  have hg1 := fun W (hb : Below w.heap.size w W) => get_any lA ln lc rs q.x.id W (HO.out.below hb) Hof.out.1 (by omega)
  have hg2 := fun W (hb : Below w.heap.size w W) => rget_any lA ln lc rs q.x.id W (HO.out.below hb) Hof.out.1 (by omega)
  rw [getV_eq2] at hg1 hg2
  obtain ⟨p3, p4⟩ := getD_pixs (id := q.x.id) HO.out (dat_fine2 Hof.out.2)
  generalize (getR q.x.id rs).isSome = is0 at *
  generalize (getR q.x.id rs).getD zeroO = r0 at *
  have Hg1 := hid hg1
  have Hg2 := hid hg2
  have P3 := hid p3
  clear hg1 hg2 p3
  go_wp2_with fail
  refine (Hg1.out _ hB5).mono ?_
  rintro e w6 ⟨rfl, hb6⟩
  have hB6 : Below w.heap.size w w6 := bnext hB5 hb6
  have CE6 := hid (CE5.out.below hb6 z5)
  have z6 := Nat.le_trans z5 hb6.size
  clear a0 a1 a2 a3 a4 a5 a6 a7 a8 a9 a10 hb6 hB5 CE5 z5 Hg1
  obtain ⟨⟨a0, a1, a2, a3, a4, a5, a6, a7, a8, a9, a10⟩, -, -, -⟩ := CE6.out
  have zw6 : w.heap.size < w6.heap.size := by omega
  go_wp2_with fail
  refine (Hg2.out _ (by have hB := hB6; (repeat (first | with_reducible exact hB | with_reducible refine Below.alloc ?_ (by have := hB.size; simp; try omega) _ | with_reducible refine Below.setCell ?_ (by have := hB.size; simp; try omega) _ | with_reducible refine below_drewN ?_ _ | with_reducible refine Below.drew ?_)))).mono ?_
  rintro e w7 ⟨rfl, hb7⟩
  have hb67 : Below w6.heap.size w6 w7 := Below.trans (by (repeat (first | with_reducible exact Below.refl _ _ | with_reducible refine Below.alloc ?_ (by simp; try omega) _ | with_reducible refine Below.setCell ?_ (by simp; try omega) _ | with_reducible refine below_drewN ?_ _ | with_reducible refine Below.drew ?_))) (hb7.mono (by simp))
  have hB7 : Below w.heap.size w w7 := bnext hB6 hb67
  have CE7 := hid (CE6.out.below hb67 z6)
  have z7 := Nat.le_trans z6 hb67.size
  have zz7 : w6.heap.size < w7.heap.size := by have := hb7.size; simp at this; omega
  have B14 := hid (show ObBox w7 w6.heap.size r0 from ObBox.below (B := w6.heap.size + 1) (w := w6.alloc (.cells #[.int .i64 r0.x.id, .int .i64 r0.x.x, .int .i64 r0.x.y, .int .i64 r0.x.pic.w, .int .i64 r0.x.pic.h, .slice r0.A r0.n r0.c, .int .i64 r0.x.clip.x, .int .i64 r0.x.clip.y, .int .i64 r0.x.clip.w, .int .i64 r0.x.clip.h, .bool r0.x.shown] 29)) (by refine ⟨?_, ?_, ?_, ?_, ?_, ?_, ?_, ?_, ?_, ?_, ?_⟩ <;> go_simp) (hb7.mono (by simp)) (by omega))
  clear a0 a1 a2 a3 a4 a5 a6 a7 a8 a9 a10 hb7 hb67 hB6 CE6 z6 Hg2 zw6
  obtain ⟨g14, hg14⟩ : ∃ g, g = w6.heap.size := ⟨_, rfl⟩
  rw [← hg14] at B14 zz7 ⊢
  clear hg14
  go_upto_region 8 with fail
  obtain ⟨W8, hW8⟩ : ∃ W8, W8 = w7.alloc (.cells #[.int .i64 r0.x.id, .int .i64 r0.x.x, .int .i64 r0.x.y, .int .i64 r0.x.pic.w, .int .i64 r0.x.pic.h, .slice r0.A r0.n r0.c, .int .i64 r0.x.clip.x, .int .i64 r0.x.clip.y, .int .i64 r0.x.clip.w, .int .i64 r0.x.clip.h, .bool r0.x.shown] 29) := ⟨_, rfl⟩
  obtain ⟨g16, hg16⟩ : ∃ g, g = w7.heap.size := ⟨_, rfl⟩
  have hb78 : Below w7.heap.size w7 W8 := by rw [hW8]; exact (Below.refl _ _).alloc (Nat.le_refl _) _
  have B16 := hid (show ObBox W8 g16 r0 from by rw [hW8, hg16]; refine ⟨?_, ?_, ?_, ?_, ?_, ?_, ?_, ?_, ?_, ?_, ?_⟩ <;> go_simp)
  have B148 := hid (B14.out.below hb78 zz7)
  have CE8 := hid (CE7.out.below hb78 z7)
  have hB8 : Below w.heap.size w W8 := bnext hB7 hb78
  have z8 := Nat.le_trans z7 hb78.size
  have zg16 : g16 < W8.heap.size := by rw [hW8, hg16]; simp
  have zg14 : g14 < W8.heap.size := Nat.lt_of_lt_of_le zz7 hb78.size
  rw [← hW8, ← hg16]
  clear hW8 hg16 hb78 B14 CE7 hB7 z7 zz7
  have KS := hid (fun W (hb : Below W8.heap.size W8 W) => (show W.cell? ⟨w.heap.size, 0, none⟩ = some (.int .i64 q.x.id) ∧ W.cell? ⟨w.heap.size, 1, none⟩ = some (.int .i64 q.x.x) ∧ W.cell? ⟨w.heap.size, 2, none⟩ = some (.int .i64 q.x.y) ∧ W.cell? ⟨w.heap.size, 3, none⟩ = some (.int .i64 q.x.pic.w) ∧ W.cell? ⟨w.heap.size, 4, none⟩ = some (.int .i64 q.x.pic.h) ∧ W.cell? ⟨w.heap.size, 5, none⟩ = some (.slice q.A q.n q.c) ∧ W.cell? ⟨w.heap.size, 6, none⟩ = some (.int .i64 q.x.clip.x) ∧ W.cell? ⟨w.heap.size, 7, none⟩ = some (.int .i64 q.x.clip.y) ∧ W.cell? ⟨w.heap.size, 8, none⟩ = some (.int .i64 q.x.clip.w) ∧ W.cell? ⟨w.heap.size, 9, none⟩ = some (.int .i64 q.x.clip.h) ∧ W.cell? ⟨w.heap.size, 10, none⟩ = some (.bool q.x.shown) ∧ W.cell? ⟨g14, 0, none⟩ = some (.int .i64 r0.x.id) ∧ W.cell? ⟨g14, 1, none⟩ = some (.int .i64 r0.x.x) ∧ W.cell? ⟨g14, 2, none⟩ = some (.int .i64 r0.x.y) ∧ W.cell? ⟨g14, 3, none⟩ = some (.int .i64 r0.x.pic.w) ∧ W.cell? ⟨g14, 4, none⟩ = some (.int .i64 r0.x.pic.h) ∧ W.cell? ⟨g14, 5, none⟩ = some (.slice r0.A r0.n r0.c) ∧ W.cell? ⟨g14, 6, none⟩ = some (.int .i64 r0.x.clip.x) ∧ W.cell? ⟨g14, 7, none⟩ = some (.int .i64 r0.x.clip.y) ∧ W.cell? ⟨g14, 8, none⟩ = some (.int .i64 r0.x.clip.w) ∧ W.cell? ⟨g14, 9, none⟩ = some (.int .i64 r0.x.clip.h) ∧ W.cell? ⟨g14, 10, none⟩ = some (.bool r0.x.shown) ∧ W.cell? ⟨g16, 0, none⟩ = some (.int .i64 r0.x.id) ∧ W.cell? ⟨g16, 1, none⟩ = some (.int .i64 r0.x.x) ∧ W.cell? ⟨g16, 2, none⟩ = some (.int .i64 r0.x.y) ∧ W.cell? ⟨g16, 3, none⟩ = some (.int .i64 r0.x.pic.w) ∧ W.cell? ⟨g16, 4, none⟩ = some (.int .i64 r0.x.pic.h) ∧ W.cell? ⟨g16, 5, none⟩ = some (.slice r0.A r0.n r0.c) ∧ W.cell? ⟨g16, 6, none⟩ = some (.int .i64 r0.x.clip.x) ∧ W.cell? ⟨g16, 7, none⟩ = some (.int .i64 r0.x.clip.y) ∧ W.cell? ⟨g16, 8, none⟩ = some (.int .i64 r0.x.clip.w) ∧ W.cell? ⟨g16, 9, none⟩ = some (.int .i64 r0.x.clip.h) ∧ W.cell? ⟨g16, 10, none⟩ = some (.bool r0.x.shown) from by
    obtain ⟨⟨a0, a1, a2, a3, a4, a5, a6, a7, a8, a9, a10⟩, -, -, -⟩ := CE8.out.below hb z8
    obtain ⟨v0, v1, v2, v3, v4, v5, v6, v7, v8, v9, v10⟩ := B148.out.below hb zg14
    obtain ⟨u0, u1, u2, u3, u4, u5, u6, u7, u8, u9, u10⟩ := B16.out.below hb zg16
    exact ⟨a0, a1, a2, a3, a4, a5, a6, a7, a8, a9, a10, v0, v1, v2, v3, v4, v5, v6, v7, v8, v9, v10, u0, u1, u2, u3, u4, u5, u6, u7, u8, u9, u10⟩))
  have CSame := hid (fun W (hb : Below W8.heap.size W8 W) => sameobj_self r0.x r0.A r0.A r0.n r0.n r0.c r0.c W ((P3.out.below hB8).below hb) ((P3.out.below hB8).below hb) p4 p4)
  have CSet := hid (fun W (hb : Below W8.heap.size W8 W) => set_any lA ln lc rs q W ((HO.out.below hB8).below hb) ((HQ.out.below hB8).below hb) Hof.out.1 (by omega))
  have CRSet := hid (fun W (hb : Below W8.heap.size W8 W) => rset_any lA ln lc rs q W ((HO.out.below hB8).below hb) ((HQ.out.below hB8).below hb) Hof.out.1 (by omega))
  have HLen := hid (show (setP q.x (dat rs)).length ≤ 1000 from by have := set_len q.x (dat rs); rw [dat_len, Hl.out] at this; omega)
  have HLens := hid (set_lens (o := q.x) Hof.out.2 (by rw [HQ.out.1]; omega))
  go_cut [81] (fun t wi => t = .bool false ∧ Below W8.heap.size W8 wi)
  case first =>
   as_aux_lemma =>
    obtain ⟨a0, a1, a2, a3, a4, a5, a6, a7, a8, a9, a10, v0, v1, v2, v3, v4, v5, v6, v7, v8, v9, v10, u0, u1, u2, u3, u4, u5, u6, u7, u8, u9, u10⟩ := KS.out W8 (Below.refl _ _)
    have HBW : Below W8.heap.size W8 W8 := Below.refl _ _
    go_region_held3 (fun W => W.cell? ⟨w.heap.size, 0, none⟩ = some (.int .i64 q.x.id) ∧ W.cell? ⟨w.heap.size, 1, none⟩ = some (.int .i64 q.x.x) ∧ W.cell? ⟨w.heap.size, 2, none⟩ = some (.int .i64 q.x.y) ∧ W.cell? ⟨w.heap.size, 3, none⟩ = some (.int .i64 q.x.pic.w) ∧ W.cell? ⟨w.heap.size, 4, none⟩ = some (.int .i64 q.x.pic.h) ∧ W.cell? ⟨w.heap.size, 5, none⟩ = some (.slice q.A q.n q.c) ∧ W.cell? ⟨w.heap.size, 6, none⟩ = some (.int .i64 q.x.clip.x) ∧ W.cell? ⟨w.heap.size, 7, none⟩ = some (.int .i64 q.x.clip.y) ∧ W.cell? ⟨w.heap.size, 8, none⟩ = some (.int .i64 q.x.clip.w) ∧ W.cell? ⟨w.heap.size, 9, none⟩ = some (.int .i64 q.x.clip.h) ∧ W.cell? ⟨w.heap.size, 10, none⟩ = some (.bool q.x.shown) ∧ W.cell? ⟨g14, 0, none⟩ = some (.int .i64 r0.x.id) ∧ W.cell? ⟨g14, 1, none⟩ = some (.int .i64 r0.x.x) ∧ W.cell? ⟨g14, 2, none⟩ = some (.int .i64 r0.x.y) ∧ W.cell? ⟨g14, 3, none⟩ = some (.int .i64 r0.x.pic.w) ∧ W.cell? ⟨g14, 4, none⟩ = some (.int .i64 r0.x.pic.h) ∧ W.cell? ⟨g14, 5, none⟩ = some (.slice r0.A r0.n r0.c) ∧ W.cell? ⟨g14, 6, none⟩ = some (.int .i64 r0.x.clip.x) ∧ W.cell? ⟨g14, 7, none⟩ = some (.int .i64 r0.x.clip.y) ∧ W.cell? ⟨g14, 8, none⟩ = some (.int .i64 r0.x.clip.w) ∧ W.cell? ⟨g14, 9, none⟩ = some (.int .i64 r0.x.clip.h) ∧ W.cell? ⟨g14, 10, none⟩ = some (.bool r0.x.shown) ∧ W.cell? ⟨g16, 0, none⟩ = some (.int .i64 r0.x.id) ∧ W.cell? ⟨g16, 1, none⟩ = some (.int .i64 r0.x.x) ∧ W.cell? ⟨g16, 2, none⟩ = some (.int .i64 r0.x.y) ∧ W.cell? ⟨g16, 3, none⟩ = some (.int .i64 r0.x.pic.w) ∧ W.cell? ⟨g16, 4, none⟩ = some (.int .i64 r0.x.pic.h) ∧ W.cell? ⟨g16, 5, none⟩ = some (.slice r0.A r0.n r0.c) ∧ W.cell? ⟨g16, 6, none⟩ = some (.int .i64 r0.x.clip.x) ∧ W.cell? ⟨g16, 7, none⟩ = some (.int .i64 r0.x.clip.y) ∧ W.cell? ⟨g16, 8, none⟩ = some (.int .i64 r0.x.clip.w) ∧ W.cell? ⟨g16, 9, none⟩ = some (.int .i64 r0.x.clip.h) ∧ W.cell? ⟨g16, 10, none⟩ = some (.bool r0.x.shown)) (first | exact KS.out _ HBW | exact KS.out _ (by have hB := HBW; (repeat (first | with_reducible exact hB | with_reducible refine Below.alloc ?_ (by have := hB.size; simp; try omega) _ | with_reducible refine Below.setCell ?_ (by have := hB.size; simp; try omega) _ | with_reducible refine below_drewN ?_ _ | with_reducible refine Below.drew ?_))) | go_keep)
      (first
        | (go_at_call 15; (with_reducible refine (CSame.out _ (by first | exact HBW | (have hB := HBW; (repeat (first | with_reducible exact hB | with_reducible refine Below.alloc ?_ (by have := hB.size; simp; try omega) _ | with_reducible refine Below.setCell ?_ (by have := hB.size; simp; try omega) _ | with_reducible refine below_drewN ?_ _ | with_reducible refine Below.drew ?_))))).mono ?_); rintro e wa ⟨rfl, h0⟩; have HBW : Below W8.heap.size W8 wa := bnext (by have hB := HBW; (repeat (first | with_reducible exact hB | with_reducible refine Below.alloc ?_ (by have := hB.size; simp; try omega) _ | with_reducible refine Below.setCell ?_ (by have := hB.size; simp; try omega) _ | with_reducible refine below_drewN ?_ _ | with_reducible refine Below.drew ?_))) h0)
        | (go_at_call 17; (with_reducible refine (CSet.out _ (by first | exact HBW | (have hB := HBW; (repeat (first | with_reducible exact hB | with_reducible refine Below.alloc ?_ (by have := hB.size; simp; try omega) _ | with_reducible refine Below.setCell ?_ (by have := hB.size; simp; try omega) _ | with_reducible refine below_drewN ?_ _ | with_reducible refine Below.drew ?_))))).mono ?_); rintro e wa ⟨A1, n1, c1, s1, rfl, o1, d1, h1⟩; have HBW : Below W8.heap.size W8 wa := bnext (by have hB := HBW; (repeat (first | with_reducible exact hB | with_reducible refine Below.alloc ?_ (by have := hB.size; simp; try omega) _ | with_reducible refine Below.setCell ?_ (by have := hB.size; simp; try omega) _ | with_reducible refine below_drewN ?_ _ | with_reducible refine Below.drew ?_))) h1; (try have o2 := o2.below h1))
        | (go_at_call 18; (with_reducible refine (CRSet.out _ (by first | exact HBW | (have hB := HBW; (repeat (first | with_reducible exact hB | with_reducible refine Below.alloc ?_ (by have := hB.size; simp; try omega) _ | with_reducible refine Below.setCell ?_ (by have := hB.size; simp; try omega) _ | with_reducible refine below_drewN ?_ _ | with_reducible refine Below.drew ?_))))).mono ?_); rintro e wa ⟨A2, n2, c2, s2, rfl, o2, d2, h2⟩; have HBW : Below W8.heap.size W8 wa := bnext (by have hB := HBW; (repeat (first | with_reducible exact hB | with_reducible refine Below.alloc ?_ (by have := hB.size; simp; try omega) _ | with_reducible refine Below.setCell ?_ (by have := hB.size; simp; try omega) _ | with_reducible refine below_drewN ?_ _ | with_reducible refine Below.drew ?_))) h2; (try have o1 := o1.below h2))
        | (go_at_call 16; (with_reducible refine (sameobjs_true A1 A2 n1 n2 c1 c2 s1 s2 _ o1 o2 (d1.trans d2.symm) (len_of o1 d1 HLen.out) (lens_of o1 d1 HLens.out) (lens_of o2 d2 HLens.out)).mono ?_); rintro e wa ⟨rfl, h3⟩; have HBW : Below W8.heap.size W8 wa := bnext HBW h3))
    all_goals (go_wp2_with fail)
    all_goals go_meet
    all_goals exact ⟨rfl, HBW⟩
  case rest =>
    obtain ⟨rfl, hb9⟩ := hcut
    obtain ⟨w9, rfl⟩ : ∃ x : World, x = wc := ⟨_, rfl⟩
    have hB9 : Below w.heap.size w w9 := bnext hB8 hb9
    have CE9 := hid (CE8.out.below hb9 z8)
    have z9 := Nat.le_trans z8 hb9.size
    clear KS CSame CSet CRSet HLen HLens B148 B16 CE8 hB8 z8 zg14 zg16 hb9 P3 p4
    obtain ⟨-, ⟨b0, b1, b2, b3, b4, b5, b6, b7, b8⟩, -, -⟩ := CE9.out
    go_wp2_with fail
    refine (ropfault_any ⟨⟨ok, oi, ona, onb, onc, ond, ⟨ow, oh, ol⟩⟩, oA, on, oc⟩ w9 (HP.out.below hB9) (show on ≤ 100 by omega)).mono ?_
    rintro e wa ⟨rfl, hba⟩
    have hBa : Below w.heap.size w wa := bnext hB9 hba
    have CEa := hid (CE9.out.below hba z9)
    have za := Nat.le_trans z9 hba.size
    clear b0 b1 b2 b3 b4 b5 b6 b7 b8 hba hB9 CE9 z9
    simp only
    obtain ⟨F, hF⟩ : ∃ F, opFault ⟨ok, oi, ona, onb, onc, ond, ⟨ow, oh, ol⟩⟩ = F := ⟨_, rfl⟩
    rw [hF]
    have HF := hid hF
    clear hF
    go_upto_if 84 with fail
    go_cut [12] (fun t wi => t = .bool false ∧ Below wa.heap.size wa wi)
    case first =>
     as_aux_lemma =>
      by_cases hF0 : F = 0
      case neg =>
        have hF' : ((F : Int) == 0) = false := by simpa using hF0
        clear hF0
        go_wp2_with fail
        go_meet
        exact ⟨rfl, Below.refl _ _⟩
      rw [hF0] at HF
      have hF' : ((F : Int) == 0) = true := by simp [hF0]
      clear hF0
      have hdo := do_any ⟨⟨ok, oi, ona, onb, onc, ond, ⟨ow, oh, ol⟩⟩, oA, on, oc⟩ lA ln lc rs wa (HO.out.below hBa) (HP.out.below hBa) Hof.out (by omega) HF.out
      have hrdo := fun W (hb : Below wa.heap.size wa W) => rdo_any ⟨⟨ok, oi, ona, onb, onc, ond, ⟨ow, oh, ol⟩⟩, oA, on, oc⟩ lA ln lc rs W ((HO.out.below hBa).below hb) ((HP.out.below hBa).below hb) Hof.out (by omega) HF.out
      have hfine := do_fine Hof.out HF.out
      have hsm := do_small (dat rs) ⟨ok, oi, ona, onb, onc, ond, ⟨ow, oh, ol⟩⟩
      have htwo := fun h : ok = 2 => do_two_eq (l := dat rs) (x := ⟨ok, oi, ona, onb, onc, ond, ⟨ow, oh, ol⟩⟩) h
      simp only at hdo hrdo
      generalize doP (dat rs) ⟨ok, oi, ona, onb, onc, ond, ⟨ow, oh, ol⟩⟩ = LD at *
      obtain ⟨LD1, LD2⟩ := LD
      simp only at hdo hrdo hfine hsm htwo
      have Hdo := hid hdo
      have Hrdo := hid hrdo
      have Hfine := hid hfine
      have Htwo := hid htwo
      clear hdo hrdo hfine htwo
      obtain ⟨-, ⟨b0, b1, b2, b3, b4, b5, b6, b7, b8⟩, -, -⟩ := CEa.out
      go_wp2_with fail
      refine Hdo.out.mono ?_
      rintro e wb ⟨A1, n1, c1, s1, rfl, o1, d1, h1⟩
      have CEb := hid (CEa.out.below h1 za)
      have zb := Nat.le_trans za h1.size
      clear b0 b1 b2 b3 b4 b5 b6 b7 b8
      obtain ⟨-, ⟨b0, b1, b2, b3, b4, b5, b6, b7, b8⟩, -, -⟩ := CEb.out
      have O1 := hid o1
      have D1 := hid d1
      clear o1 d1
      go_wp2_with fail
      refine (Hrdo.out wb h1).mono ?_
      rintro e wc ⟨A2, n2, c2, s2, rfl, o2, d2, h2⟩
      have CEc := hid (CEb.out.below h2 zb)
      have zc := Nat.le_trans zb h2.size
      have O2 := hid o2
      have D2 := hid d2
      have hac := bnext h1 h2
      clear b0 b1 b2 b3 b4 b5 b6 b7 b8 o2 d2 CEb zb
      go_wp2_with fail
      refine (same_true LD2 wc hsm).mono ?_
      rintro e wd ⟨rfl, h3⟩
      have hlen : LD1.length ≤ 1000 := by have := objs_few Hfine.out; omega
      have hlens := fine_lens Hfine.out.2
      have hso := sameobjs_true A1 A2 n1 n2 c1 c2 s1 s2 wd (O1.out.below (bnext h2 h3)) (O2.out.below h3) (D1.out.trans D2.out.symm) (len_of O1.out D1.out hlen) (lens_of O1.out D1.out hlens) (lens_of O2.out D2.out hlens)
      have Hso := hid hso
      clear hso hlens hlen
      go_wp2_with fail
      refine Hso.out.mono ?_
      rintro e we ⟨rfl, h4⟩
      have hae := bnext (bnext hac h3) h4
      have CEe := hid (CEc.out.below (bnext h3 h4) zc)
      have ze := Nat.le_trans zc (bnext h3 h4).size
      have O2e := hid (O2.out.below (bnext h3 h4))
      have HPe := hid ((HP.out.below hBa).below hae)
      clear hac h1 h2 h3 h4 CEc zc O1 O2 D1 Hso Hdo Hrdo
      obtain ⟨-, ⟨b0, b1, b2, b3, b4, b5, b6, b7, b8⟩, -, -⟩ := CEe.out
      have zz := (show w.heap.size + 1 < we.heap.size by omega)
      have E0 := cell_all2 zz b0
      have E1 := cell_all2 zz b1
      have E6 := cell_all2 zz b6
      have E7 := cell_all2 zz b7
      have E8 := cell_all2 zz b8
      clear b0 b1 b2 b3 b4 b5 b6 b7 b8 zz
      by_cases hk : ok = 2
      case neg =>
          have hk' : (ok == 2) = false := by simp [hk]
          clear hk Htwo
          go_wp2_with fail
          refine wp_region_quiet_below (by kernel_rfl) (by kernel_rfl) ?_
          repeat (go_big_quiet_step (fail))
          (refine wpQuiet_nil ?_; intro _ hw'; obtain ⟨⟨dq, osq⟩, hw''⟩ := hw'; subst hw'')
          have hfin9 := bnext hae (below_regrown we dq osq)
          clear E0 E1 E6 E7 E8
          generalize grow (redrawn we dq) osq = w12 at *
          go_wp2_with fail
          go_meet
          exact ⟨rfl, hfin9⟩

      case pos =>
          subst hk
          have hld := Htwo.out rfl
          injection hld with hl1 hl2
          have hd2 : dat s2 = setP (freshP oi ⟨ow, oh, ol⟩) (dat rs) := D2.out.trans hl1
          have hn1 : 1 ≤ n2 := by rw [← O2e.out.1, ← dat_len, hd2]; exact set_some _ _
          have h0 : 0 < s2.length := by rw [O2e.out.1]; omega
          have hone : n2 = 1 → s2[0].x = freshP oi ⟨ow, oh, ol⟩ := fun e => by
            have hll : (setP (freshP oi ⟨ow, oh, ol⟩) (dat rs)).length = 1 := by rw [← hd2, dat_len, O2e.out.1, e]
            rw [set_first hll] at hd2
            obtain ⟨r, hr, hx⟩ := dat_one hd2
            subst hr
            exact hx
          obtain ⟨b, off, rfl, hbs, hc⟩ := O2e.out.open_ (by omega)
          have hcs := hc.cells (Below.refl _ _) hbs h0
          rw [Nat.zero_mul, Nat.add_zero] at hcs
          have hp2 := O2e.out.2.2 s2[0] (List.getElem_mem h0)
          have hbn : s2[0].n ≤ 1000000 := lens_of O2e.out D2.out (fine_lens Hfine.out.2) _ (List.getElem_mem h0)
          have rf := fun dd os => Ret.regrown (fresh_any oi ⟨⟨ow, oh, ol⟩, oA, on, oc⟩ (grow (redrawn we dd) os))
          have rso := fun dd os => Ret.regrown (sameobj_any ⟨freshP oi ⟨ow, oh, ol⟩, oA, on, oc⟩ s2[0] (grow (redrawn we dd) os) (HPe.out.below (below_regrown we dd os)) (hp2.below (below_regrown we dd os)) (show on ≤ 1000000 by omega) hbn)
          simp only at rso rf
          have hsb : n2 = 1 → sameOb (freshP oi ⟨ow, oh, ol⟩) s2[0].x = true := fun e => sameOb_iff.2 (hone e).symm
          have HSB := hid hsb
          clear hl1 hl2 hd2 hone hp2 hbn hc hsb Htwo D2
          generalize sameOb (freshP oi ⟨ow, oh, ol⟩) s2[0].x = sb at *
          generalize s2[0] = r at *
          obtain ⟨v0, v1, v2, v3, v4, v5, v6, v7, v8, v9, v10⟩ := hcs
          have q2 : (1 : Int) ≤ (n2 : Int) := by omega
          have q3 : (0 : Int) < (n2 : Int) := by omega
          have q4 : 0 < n2 := by omega
          have V0 := cell_all2 hbs v0
          have V1 := cell_all2 hbs v1
          have V2 := cell_all2 hbs v2
          have V3 := cell_all2 hbs v3
          have V4 := cell_all2 hbs v4
          have V5 := cell_all2 hbs v5
          have V6 := cell_all2 hbs v6
          have V7 := cell_all2 hbs v7
          have V8 := cell_all2 hbs v8
          have V9 := cell_all2 hbs v9
          have V10 := cell_all2 hbs v10
          clear v0 v1 v2 v3 v4 v5 v6 v7 v8 v9 v10 h0
          have hw : sb = true ∨ (sb = false ∧ ((n2 : Int) == 1) = false ∧ (n2 == 1) = false) := by
            cases sb
            · refine Or.inr ⟨rfl, ?_, ?_⟩
              · have : n2 ≠ 1 := fun e => by have := HSB.out e; cases this
                rw [beq_eq_false_iff_ne]; omega
              · have : n2 ≠ 1 := fun e => by have := HSB.out e; cases this
                rw [beq_eq_false_iff_ne]; exact this
            · exact Or.inl rfl
          clear HSB
          rcases hw with rfl | ⟨rfl, hw1, hw2⟩
          all_goals
            go_wp2_with fail
            refine wp_region_quiet_below (by kernel_rfl) (by kernel_rfl) ?_
            repeat (go_big_quiet_step (first | (go_at_call 22; exact rf _ _) | (go_at_call 15; exact rso _ _)))
            (refine wpQuiet_nil ?_; intro _ hw'; obtain ⟨⟨dq, osq⟩, hw''⟩ := hw'; subst hw'')
            have hfin9 := bnext hae (below_regrown we dq osq)
            clear rf rso E0 E1 E6 E7 E8 V0 V1 V2 V3 V4 V5 V6 V7 V8 V9 V10
            generalize grow (redrawn we dq) osq = w12 at *
            go_wp2_with fail
            go_meet
            exact ⟨rfl, hfin9⟩

    case rest =>
      obtain ⟨rfl, hbb⟩ := hcut
      obtain ⟨wb, rfl⟩ : ∃ x : World, x = wc := ⟨_, rfl⟩
      have hBb : Below w.heap.size w wb := bnext hBa hbb
      have CEb := hid (CEa.out.below hbb za)
      have zb := Nat.le_trans za hbb.size
      clear hbb hBa CEa za HF
      by_cases g1 : X < 1
      · (go_wp2_with fail; go_ret; exact ⟨rfl, hBb⟩)
      have g1' : 1 ≤ X := by omega
      clear g1
      by_cases g2 : 8 < X
      · (go_wp2_with fail; go_ret; exact ⟨rfl, hBb⟩)
      have g2' : X ≤ 8 := by omega
      clear g2
      by_cases g3 : Y < 1
      · (go_wp2_with fail; go_ret; exact ⟨rfl, hBb⟩)
      have g3' : 1 ≤ Y := by omega
      clear g3
      by_cases g4 : 8 < Y
      · (go_wp2_with fail; go_ret; exact ⟨rfl, hBb⟩)
      have g4' : Y ≤ 8 := by omega
      clear g4
      obtain ⟨-, -, k0, k1⟩ := CEb.out
      go_wp2_with fail
      refine (lpixel_any bv ba _).mono ?_
      rintro e wd ⟨rfl, hbd⟩
      have hBd := bnext hBb hbd
      have CEd := hid (CEb.out.below hbd zb)
      have zd := Nat.le_trans zb hbd.size
      clear k0 k1 CEb hbd hBb zb
      obtain ⟨pb, hpb⟩ : ∃ p, pixB bv ba = p := ⟨_, rfl⟩
      rw [hpb]
      have Hpb := hid hpb
      clear hpb
      cases pb
      case false => (go_wp2_with fail; go_ret; exact ⟨rfl, hBd⟩)
      have hbf := hid (pixB_fine2 Hpb.out)
      clear Hpb
      obtain ⟨X, rfl⟩ : ∃ N : Nat, X = (N : Int) := ⟨X.toNat, by omega⟩
      obtain ⟨Y, rfl⟩ : ∃ N : Nat, Y = (N : Int) := ⟨Y.toNat, by omega⟩
      have hX : 1 ≤ X := by omega
      have hX8 : X ≤ 8 := by omega
      have hY : 1 ≤ Y := by omega
      have hY8 : Y ≤ 8 := by omega
      obtain ⟨e1, e2⟩ := seenP_shape2 (dat rs) X Y (bv, ba)
      obtain ⟨L8, hL8⟩ : ∃ L, (seenP (dat rs) X Y (bv, ba)).p = L := ⟨_, rfl⟩
      rw [hL8] at e1 e2
      obtain ⟨N, hN⟩ : ∃ N, N = X * Y := ⟨_, rfl⟩
      have hN64 : N ≤ 1000000 := by have : X * Y ≤ 8 * 8 := Nat.mul_le_mul hX8 hY8; omega
      rw [← hN] at e2
      have C1 := hid (fun W (hb : Below wd.heap.size wd W) => seen_shaped2 (c := lc) ((HO.out.below hBd).below hb) (dat_fine2 Hof.out.2) (by omega) hX hX8 hY hY8 hbf.out e1 e2)
      have C2 := hid (fun W (hb : Below wd.heap.size wd W) => rseen_shaped2 (c := lc) ((HO.out.below hBd).below hb) (dat_fine2 Hof.out.2) (by omega) hX hX8 hY hY8 hbf.out e1 e2)
      have KS := hid (fun W (hb : Below wd.heap.size wd W) => (show W.cell? ⟨w.heap.size + 1 + 1, 0, none⟩ = some (.int .i64 bv) ∧ W.cell? ⟨w.heap.size + 1 + 1, 1, none⟩ = some (.int .i64 ba) from (CEd.out.below hb zd).2.2))
      clear e1 e2 hL8 hN
      go_wp2_with fail
      obtain ⟨x0, x1⟩ := KS.out wd (Below.refl _ _)
      have HBW : Below wd.heap.size wd wd := Below.refl _ _
      go_region_held3 (fun W => W.cell? ⟨w.heap.size + 1 + 1, 0, none⟩ = some (.int .i64 bv) ∧ W.cell? ⟨w.heap.size + 1 + 1, 1, none⟩ = some (.int .i64 ba)) (first | exact KS.out _ HBW | exact KS.out _ (by have hB := HBW; (repeat (first | with_reducible exact hB | with_reducible refine Below.alloc ?_ (by have := hB.size; simp; try omega) _ | with_reducible refine Below.setCell ?_ (by have := hB.size; simp; try omega) _ | with_reducible refine below_drewN ?_ _ | with_reducible refine Below.drew ?_))) | go_keep)
        (first
          | (go_at_call 25; (with_reducible refine (C1.out _ (by first | exact HBW | (have hB := HBW; (repeat (first | with_reducible exact hB | with_reducible refine Below.alloc ?_ (by have := hB.size; simp; try omega) _ | with_reducible refine Below.setCell ?_ (by have := hB.size; simp; try omega) _ | with_reducible refine below_drewN ?_ _ | with_reducible refine Below.drew ?_))))).mono ?_); rintro e wg ⟨a1, l1, rfl, p1, n1, h1⟩; have HBW : Below wd.heap.size wd wg := bnext (by have hB := HBW; (repeat (first | with_reducible exact hB | with_reducible refine Below.alloc ?_ (by have := hB.size; simp; try omega) _ | with_reducible refine Below.setCell ?_ (by have := hB.size; simp; try omega) _ | with_reducible refine below_drewN ?_ _ | with_reducible refine Below.drew ?_))) h1; (try have p2 := p2.below h1))
          | (go_at_call 26; (with_reducible refine (C2.out _ (by first | exact HBW | (have hB := HBW; (repeat (first | with_reducible exact hB | with_reducible refine Below.alloc ?_ (by have := hB.size; simp; try omega) _ | with_reducible refine Below.setCell ?_ (by have := hB.size; simp; try omega) _ | with_reducible refine below_drewN ?_ _ | with_reducible refine Below.drew ?_))))).mono ?_); rintro e wg ⟨a2, l2, rfl, p2, n2, h2⟩; have HBW : Below wd.heap.size wd wg := bnext (by have hB := HBW; (repeat (first | with_reducible exact hB | with_reducible refine Below.alloc ?_ (by have := hB.size; simp; try omega) _ | with_reducible refine Below.setCell ?_ (by have := hB.size; simp; try omega) _ | with_reducible refine below_drewN ?_ _ | with_reducible refine Below.drew ?_))) h2; (try have p1 := p1.below h2))
          | (go_at_call 24; (with_reducible refine (same_selfN2 _ _ L8 N _ _ _ _ _ p1 p2 hN64).mono ?_); rintro e wg ⟨rfl, h3⟩; have HBW : Below wd.heap.size wd wg := bnext HBW h3))
      all_goals (go_wp2_with fail)
      all_goals go_ret
      all_goals exact ⟨rfl, bnext hBd HBW⟩
theorem objectsSays_row (w : World) (r : FAt (List (FAt FObj))) (h : Objs w r.A r.n r.x ∧ r.n ≤ r.c ∧ r.c ≤ maxLen ∧ ∀ q ∈ r.x, ObOk w q) (q : FAt FObj) (hq : ObOk w q) (x : FAt FOp) (hx : OpOk w x) (X : Int) (_h1 : (Lit.int .i64 X).wf = true) (Y : Int) (_h2 : (Lit.int .i64 Y).wf = true) (b : Px) (_h3 : Wf b.1 ∧ Wf b.2) :
    Calls Try.prog 3 #[.slice r.A r.n r.c, .agg #[.int .i64 q.x.id, .int .i64 q.x.x, .int .i64 q.x.y, .int .i64 q.x.pic.w, .int .i64 q.x.pic.h, .slice q.A q.n q.c, .int .i64 q.x.clip.x, .int .i64 q.x.clip.y, .int .i64 q.x.clip.w, .int .i64 q.x.clip.h, .bool q.x.shown],
      .agg #[.int .i64 x.x.kind, .int .i64 x.x.id, .int .i64 x.x.a, .int .i64 x.x.b, .int .i64 x.x.c, .int .i64 x.x.d, .int .i64 x.x.pic.w, .int .i64 x.x.pic.h, .slice x.A x.n x.c], .int .i64 X, .int .i64 Y, .agg #[.int .i64 b.1, .int .i64 b.2]] w (Ret (.bool true) w) :=
  objectsSays_walk r.A r.n r.c r.x q x.x.kind x.x.id x.x.a x.x.b x.x.c x.x.d x.x.pic.w x.x.pic.h x.x.pic.p x.A x.n x.c X Y b.1 b.2 w h.1 hq.1 hx.1
end Fb
