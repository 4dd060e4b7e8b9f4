/- The law TopOthers: it returns true. Conditions: none but the arguments' shape. -/
import Derived.Test.YtbddmpbifkgloaaObjsKit
import Derived.Test.YtbddmpbifkgloaaOpen2
namespace Fb
open Go Go.Proofs Go.RowKit Go.Sort
def oneOp : FOp := ⟨2, 2, 0, 0, 0, 0, ⟨1, 1, [(0, 0)]⟩⟩
theorem one_do (w : World) : Calls Try.prog 20 #[.slice none 0 0, .agg #[.int .i64 2, .int .i64 2, .int .i64 0, .int .i64 0, .int .i64 0, .int .i64 0, .int .i64 1, .int .i64 1, .slice (some ⟨w.heap.size, 0, none⟩) 1 1]] (w.alloc (.cells #[.int .i64 0, .int .i64 0] 33)) (fun e w' => ∃ A c, e = .returned (.tuple #[.slice A 1 c, .nilIface]) ∧ Below w.heap.size w w') := by
  have hp : Pixs (w.alloc (.cells #[.int .i64 0, .int .i64 0] 33)) (some ⟨w.heap.size, 0, none⟩) 1 [(0, 0)] := ⟨rfl, row_new w #[.int .i64 0, .int .i64 0] 33 1 2 rfl⟩
  refine (do_any ⟨oneOp, some ⟨w.heap.size, 0, none⟩, 1, 1⟩ none 0 0 [] _ ⟨rfl, Row.none_ _ _ _, by simp⟩ hp nil_fine (by omega) (show opFault oneOp = 0 by decide)).mono ?_
  rintro e w' ⟨A, n, c, rs, rfl, ho, hd, hb⟩
  have hn : n = 1 := by
    have e1 := congrArg List.length hd
    rw [dat_len, ho.1] at e1
    exact e1
  subst hn
  exact ⟨A, c, rfl, Below.trans (by (repeat (first | with_reducible exact Below.refl _ _ | with_reducible refine Below.alloc ?_ (by simp; try omega) _ | with_reducible refine Below.setCell ?_ (by simp; try omega) _ | with_reducible refine below_drewN ?_ _ | with_reducible refine Below.drew ?_))) (hb.mono (by simp))⟩
set_option maxRecDepth 100000 in
set_option maxHeartbeats 8000000 in
theorem topOthers_walk (lA : Option Addr) (ln lc : Nat) (rs : List (FAt FObj)) (ok oi ona onb onc ond ow oh : Int) (ol : List Px) (oA : Option Addr) (on oc : Nat) (id : Int) (w : World) (h : Objs w lA ln rs) (hp : Pixs w oA on ol) :
    Calls Try.prog 6 #[.slice lA ln lc, .agg #[.int .i64 ok, .int .i64 oi, .int .i64 ona, .int .i64 onb, .int .i64 onc, .int .i64 ond, .int .i64 ow, .int .i64 oh, .slice oA on oc], .int .i64 id] w (Ret (.bool true) w) := by
  have Hl := hid h.1
  have HO := hid h
  have HP := hid hp
  clear h hp
  go_enter Try.func6, Try.ntmps6
  go_upto_region 1 with fail
  obtain ⟨W0, hW0⟩ : ∃ W0, W0 = w.alloc (.cells #[.int .i64 ok, .int .i64 oi, .int .i64 ona, .int .i64 onb, .int .i64 onc, .int .i64 ond, .int .i64 ow, .int .i64 oh, .slice oA on oc] 31) := ⟨_, rfl⟩
  have hB0 : Below w.heap.size w W0 := by rw [hW0]; exact (Below.refl w.heap.size w).alloc (Nat.le_refl _) _
  have z0 : w.heap.size < W0.heap.size := by rw [hW0]; simp
  have CE0 : Hid (OpBox W0 w.heap.size ok oi ona onb onc ond ow oh oA on oc) := by show OpBox _ _ _ _ _ _ _ _ _ _ _ _ _; rw [hW0]; refine ⟨?_, ?_, ?_, ?_, ?_, ?_, ?_, ?_, ?_⟩ <;> go_simp
  rw [← hW0]
  clear hW0
  go_wp2_with fail
  refine (one_do W0).mono ?_
  rintro e w1 ⟨A1, c1, rfl, hb1⟩
  have hB1 : Below w.heap.size w w1 := bnext hB0 hb1
  have CE1 := hid (CE0.out.below hb1 z0)
  have z1 : w.heap.size < w1.heap.size := by have := hb1.size; omega
  clear hb1 hB0 CE0 z0
  go_wp2_with fail
  refine (lightobs_any lA ln lc rs _ (HO.out.below hB1)).mono ?_
  rintro e w2 ⟨bt, rfl, ht, hb2⟩
  have hB2 : Below w.heap.size w w2 := bnext hB1 hb2
  have CE2 := hid (CE1.out.below hb2 z1)
  have z2 : w.heap.size < w2.heap.size := by have := hb2.size; omega
  have Ht := hid ht
  clear ht hb2 hB1 CE1 z1
  cases bt
  case false => (go_wp2_with fail; go_ret; exact ⟨rfl, hB2⟩)
  obtain ⟨hl6, hof, -⟩ := Ht.out rfl
  have Hof := hid hof
  rw [Hl.out] at hl6
  clear Ht hof
  obtain ⟨b0, b1, b2, b3, b4, b5, b6, b7, b8⟩ := CE2.out
  go_wp2_with fail
  refine (lightpic_any ⟨⟨ow, oh, ol⟩, oA, on, oc⟩ _).mono ?_
  rintro e w3 ⟨rfl, hb3⟩
  have hB3 : Below w.heap.size w w3 := bnext hB2 hb3
  have CE3 := hid (CE2.out.below hb3 z2)
  have z3 : w.heap.size < w3.heap.size := by have := hb3.size; omega
  clear b0 b1 b2 b3 b4 b5 b6 b7 b8 hb3 hB2 CE2 z2
  simp only
  by_cases h80 : on ≤ 80
  case neg =>
    rw [show decide (on ≤ 80) = false by simp; omega]
    go_wp2_with fail; go_ret; exact ⟨rfl, hB3⟩
  rw [show decide (on ≤ 80) = true by simp; omega]
  obtain ⟨b0, b1, b2, b3, b4, b5, b6, b7, b8⟩ := CE3.out
  go_wp2_with fail
  refine (opcheck_any ⟨⟨ok, oi, ona, onb, onc, ond, ⟨ow, oh, ol⟩⟩, oA, on, oc⟩ w3 (HP.out.below hB3) (show on ≤ 100 by omega)).mono ?_
  rintro e w4 ⟨rfl, hb4⟩
  have hB4 : Below w.heap.size w w4 := bnext hB3 hb4
  have CE4 := hid (CE3.out.below hb4 z3)
  have z4 : w.heap.size < w4.heap.size := by have := hb4.size; omega
  clear b0 b1 b2 b3 b4 b5 b6 b7 b8 hb4 hB3 CE3 z3
  obtain ⟨b0, b1, b2, b3, b4, b5, b6, b7, b8⟩ := CE4.out
  simp only
  obtain ⟨F, hF⟩ : ∃ F, opFault ⟨ok, oi, ona, onb, onc, ond, ⟨ow, oh, ol⟩⟩ = F := ⟨_, rfl⟩
  rw [hF]
  have HF := hid hF
  clear hF
  by_cases hF0 : F = 0
  case neg =>
    rw [errV_pos hF0]
    clear hF0
    go_wp2_with fail
    go_ret
    exact ⟨rfl, hB4⟩
  rw [hF0, errV_zero]
  rw [hF0] at HF
  clear hF0
  have hdo := do_any ⟨⟨ok, oi, ona, onb, onc, ond, ⟨ow, oh, ol⟩⟩, oA, on, oc⟩ lA ln lc rs w4 (HO.out.below hB4) (HP.out.below hB4) Hof.out (by omega) HF.out
  have hfn := do_fine Hof.out HF.out
  have hot := fun h0 h1 h2 => do_other (id := id) Hof.out HF.out h0 h1 h2
  have her := fun h0 => do_err (l := dat rs) (x := ⟨ok, oi, ona, onb, onc, ond, ⟨ow, oh, ol⟩⟩) h0
  simp only at hdo hot
  generalize hLD : doP (dat rs) ⟨ok, oi, ona, onb, onc, ond, ⟨ow, oh, ol⟩⟩ = LD at *
  obtain ⟨LD1, LD2⟩ := LD
  simp only at hdo hfn hot her
  have Hdo := hid hdo
  have Hfn := hid hfn
  have Hot := hid hot
  clear hdo hfn hot hLD HF
  by_cases hd0 : LD2 = 0
  case neg =>
    have h5 := (her hd0).1
    injection h5 with h5 h6
    subst h5 h6
    rw [errV_pos (by decide)] at Hdo
    clear her hd0 Hfn Hot
    go_wp2_with fail
    refine Hdo.out.mono ?_
    rintro e w5 ⟨A5, n5, c5, rs5, rfl, ho5, hd5, hb5⟩
    have hn : n5 = 0 := by
      have e1 := congrArg List.length hd5
      rw [dat_len, ho5.1] at e1
      exact e1
    subst hn
    have hB5 := bnext hB4 hb5
    clear ho5 hd5 hb5
    go_wp2_with fail
    go_ret
    exact ⟨rfl, hB5⟩
  subst hd0
  clear her
  rw [errV_zero] at Hdo
  go_wp2_with fail
  refine Hdo.out.mono ?_
  rintro e w5 ⟨A5, n5, c5, rs5, rfl, ho5, hd5, hb5⟩
  have hB5 : Below w.heap.size w w5 := bnext hB4 hb5
  have CE5 := hid (CE4.out.below hb5 z4)
  have z5 : w.heap.size < w5.heap.size := by have := hb5.size; omega
  have hfine5 : ObjsFine (dat rs5) := by rw [hd5]; exact Hfn.out
  have hn5 : n5 ≤ 1000 := by
    have h1 := objs_few hfine5
    rw [dat_len, ho5.1] at h1
    omega
  have HO5 := hid ho5
  have HL5 := hid ho5.1
  have Hf5 := hid hfine5
  have Hot5 := hid (fun h1 h2 => (Hot.out (by first | trivial | rfl) h1 h2))
  rw [← hd5] at Hot5
  clear b0 b1 b2 b3 b4 b5 b6 b7 b8 ho5 hd5 hb5 hB4 CE4 z4 hfine5 Hdo Hfn Hot
  go_wp2_with fail
  go_loopw [9] (fun i wr => ∃ k : Nat, k ≤ n5 ∧ i = .int .i64 k ∧ Below w5.heap.size w5 wr) (fun i _ => n5 - (intOf i).toNat)
  case atStart => exact ⟨0, by omega, rfl, Below.refl _ _⟩
  case round =>
    obtain ⟨k, hk, rfl, hbel⟩ := hrel
    by_cases hlt : k < n5
    · have k1 : k < rs5.length := by rw [HL5.out]; exact hlt
      obtain ⟨b, off, rfl, hbs, hc⟩ := HO5.out.open_ (by omega)
      have hcs := hc.cells hbel hbs k1
      have hbsr : b < wr.heap.size := Nat.lt_of_lt_of_le hbs hbel.size
      have q1 : (0 : Int) ≤ (k : Int) := by omega
      have q2 : (k : Int) < (n5 : Int) := by omega
      have hpo := (HO5.out.2.2 rs5[k] (List.getElem_mem k1)).below hbel
      have hfo := Hf5.out.2 rs5[k].x (List.mem_map_of_mem (List.getElem_mem k1))
      have hfa := objFault_fine.2 hfo
      have hlen : rs5[k].n ≤ 100 := by
        have := pic_len hfo.2.2
        rw [hpo.1] at this
        omega
      obtain ⟨pid, hpid, hlt2⟩ : ∃ pid : Int, (0 < k → wr.cell? ⟨b, off + (k - 1) * 11, none⟩ = some (.int .i64 pid)) ∧ (0 < k → pid < rs5[k].x.id) := by
        by_cases h0 : 0 < k
        · have h1 : k - 1 < rs5.length := by omega
          refine ⟨rs5[k - 1].x.id, fun _ => (hc.cells hbel hbs h1).1, fun _ => ?_⟩
          have := rise_at Hf5.out.1 (i := k - 1) (j := k) (by omega) (by rw [dat_len]; exact k1)
          rw [dat_at h1, dat_at k1] at this
          exact this
        · exact ⟨0, fun h => absurd h h0, fun h => absurd h h0⟩
      have r1 := fun dd os => Ret.regrown (objcheck_any rs5[k] (grow (redrawn wr dd) os) (hpo.below (below_regrown wr dd os)) hlen)
      rw [hfa, errV_zero] at r1
      clear hpo hfo hfa hlen hc
      generalize rs5[k] = q at *
      clear k1
      have Hpid := hid hpid
      have Hlt2 := hid hlt2
      clear hpid hlt2
      obtain ⟨d0, d1, d2, d3, d4, d5, d6, d7, d8, d9, d10⟩ := hcs
      have D0 := cell_all2 hbsr d0
      have D1 := cell_all2 hbsr d1
      have D2 := cell_all2 hbsr d2
      have D3 := cell_all2 hbsr d3
      have D4 := cell_all2 hbsr d4
      have D5 := cell_all2 hbsr d5
      have D6 := cell_all2 hbsr d6
      have D7 := cell_all2 hbsr d7
      have D8 := cell_all2 hbsr d8
      have D9 := cell_all2 hbsr d9
      have D10 := cell_all2 hbsr d10
      clear d0 d1 d2 d3 d4 d5 d6 d7 d8 d9 d10
      by_cases g3 : k = 0
      · have g3a : decide ((0 : Int) < (k : Int)) = false := decide_eq_false (by omega)
        have g3b : decide (0 < k) = false := decide_eq_false (by omega)
        clear Hpid Hlt2 g3
        go_wp2_with fail
        refine wp_region_quiet_below (by kernel_rfl) (by kernel_rfl) ?_
        repeat (go_big_quiet_step (exact r1 _ _))
        (refine wpQuiet_nil ?_; intro _ hw'; obtain ⟨⟨dq, osq⟩, hw''⟩ := hw'; subst hw'')
        have hb3 := bnext hbel (below_regrown wr dq osq)
        clear r1 D0 D1 D2 D3 D4 D5 D6 D7 D8 D9 D10
        generalize grow (redrawn wr dq) osq = w9 at *
        go_wp2_with fail
        go_roundw
        case rel => exact ⟨k + 1, by omega, by go_num, hb3⟩
        case measure => simp [intOf]; omega
      · have E0 := cell_all2 hbsr (Hpid.out (by omega))
        have wk : IntKind.i64.wrap ((k : Int) - 1) = (k : Int) - 1 := IntWalk.i64_in _ (by omega)
        have q3 : (0 : Int) < (k : Int) := by omega
        have q3a : decide ((0 : Int) < (k : Int)) = true := decide_eq_true (by omega)
        have q3b : decide (0 < k) = true := decide_eq_true (by omega)
        have q4 : (0 : Int) ≤ (k : Int) - 1 := by omega
        have q5 : (k : Int) - 1 < (n5 : Int) := by omega
        have g4 := Hlt2.out (by omega)
        have g4' : decide (q.x.id ≤ pid) = false := decide_eq_false (by omega)
        clear Hpid Hlt2 g3
        go_wp2_with fail
        refine wp_region_quiet_below (by kernel_rfl) (by kernel_rfl) ?_
        repeat (go_big_quiet_step (exact r1 _ _))
        (refine wpQuiet_nil ?_; intro _ hw'; obtain ⟨⟨dq, osq⟩, hw''⟩ := hw'; subst hw'')
        have hb3 := bnext hbel (below_regrown wr dq osq)
        clear r1 D0 D1 D2 D3 D4 D5 D6 D7 D8 D9 D10 E0
        generalize grow (redrawn wr dq) osq = w9 at *
        go_wp2_with fail
        go_roundw
        case rel => exact ⟨k + 1, by omega, by go_num, hb3⟩
        case measure => simp [intOf]; omega
    · obtain rfl : k = n5 := by omega
      have hB6 : Below w.heap.size w wr := bnext hB5 hbel
      have CE6 := hid (CE5.out.below hbel z5)
      have HO6 := hid (HO5.out.below hbel)
      obtain ⟨b0, b1, b2, b3, b4, b5, b6, b7, b8⟩ := CE6.out
      clear hB5 HO5 CE5 hbel hlt hk z5
      by_cases hi : id = oi
      · have hi' : (id == oi) = true := by simp [hi]
        clear hi
        go_wp2_with fail
        go_ret
        exact ⟨rfl, hB6⟩
      have hi' : (id == oi) = false := by simp [hi]
      by_cases hk6 : ok = 6 ∧ id = ona
      · have hk6' : (ok == 6) = true := by simp [hk6.1]
        have hna' : (id == ona) = true := by simp [hk6.2]
        clear hk6 hi
        go_wp2_with fail
        go_ret
        exact ⟨rfl, hB6⟩
      obtain ⟨e1, e2⟩ := getD_same (id := id) (Hot5.out hi (fun h6 e => hk6 ⟨h6, e⟩))
      obtain ⟨p1, p2⟩ := getD_pixs (id := id) HO6.out (dat_fine2 Hf5.out.2)
      obtain ⟨p3, p4⟩ := getD_pixs (id := id) HO.out (dat_fine2 Hof.out.2)
      have hg1 := fun W (hb : Below w.heap.size w W) => get_any lA ln lc rs id W (HO.out.below hb) Hof.out.1 (by omega)
      have hg2 := fun W (hb : Below wr.heap.size wr W) => get_any A5 k c5 rs5 id W (HO6.out.below hb) Hf5.out.1 hn5
      rw [getV_eq2] at hg1 hg2
      rw [e1] at hg2
      generalize (getR id rs).isSome = is0 at *
      generalize (getR id rs).getD zeroO = r0 at *
      generalize (getR id rs5).getD zeroO = r5 at *
      obtain ⟨x0, rA, rn, rc⟩ := r0
      obtain ⟨x5, sA, sn, sc⟩ := r5
      simp only at e2
      subst e2
      simp only at p1 p2 p3 p4
      have Hg1 := hid hg1
      have Hg2 := hid hg2
      have P1 := hid p1
      have P3 := hid p3
      have Hsame := hid (fun W (hb : Below w.heap.size w W) (hb5 : Below wr.heap.size wr W) => sameobj_self x0 rA sA rn sn rc sc W (P3.out.below hb) (P1.out.below hb5) p4 p2)
      have Hk6 := hid hk6
      clear hg1 hg2 p1 p3 e1 hi hk6 Hot5
      obtain ⟨xi, xx, xy, ⟨xw, xh, xl⟩, ⟨xc1, xc2, xc3, xc4⟩, xs⟩ := x0
      have hways : (ok == 6) = false ∨ ((ok == 6) = true ∧ (id == ona) = false) := by
        by_cases h6 : ok = 6
        · exact Or.inr ⟨by simp [h6], by simp; exact fun e => Hk6.out ⟨h6, e⟩⟩
        · exact Or.inl (by simp [h6])
      rcases hways with hw | ⟨hw, hw2⟩
      all_goals
        go_wp2_with fail
        refine (Hg1.out _ hB6).mono ?_
        rintro e w7 ⟨rfl, hb7⟩
        have hB7 := bnext hB6 hb7
        have hb7b : Below wr.heap.size wr w7 := hb7
        clear hb7
        go_wp2_with fail
        refine (Hg2.out _ (bnext hb7b (by (repeat (first | with_reducible exact Below.refl _ _ | with_reducible refine Below.alloc ?_ (by simp; try omega) _ | with_reducible refine Below.setCell ?_ (by simp; try omega) _ | with_reducible refine below_drewN ?_ _ | with_reducible refine Below.drew ?_))))).mono ?_
        rintro e w8 ⟨rfl, hb8⟩
        have hz8 : w7.heap.size < w8.heap.size := by have := hb8.size; simp at this; omega
        have hb78 : Below w7.heap.size w7 w8 := Below.trans (by (repeat (first | with_reducible exact Below.refl _ _ | with_reducible refine Below.alloc ?_ (by simp; try omega) _ | with_reducible refine Below.setCell ?_ (by simp; try omega) _ | with_reducible refine below_drewN ?_ _ | with_reducible refine Below.drew ?_))) (hb8.mono (by simp))
        have hbx : ObBox w8 w7.heap.size ⟨⟨xi, xx, xy, ⟨xw, xh, xl⟩, ⟨xc1, xc2, xc3, xc4⟩, xs⟩, rA, rn, rc⟩ := ObBox.below (B := w7.heap.size + 1) (w := w7.alloc (.cells #[.int .i64 xi, .int .i64 xx, .int .i64 xy, .int .i64 xw, .int .i64 xh, .slice rA rn rc, .int .i64 xc1, .int .i64 xc2, .int .i64 xc3, .int .i64 xc4, .bool xs] 29)) (by refine ⟨?_, ?_, ?_, ?_, ?_, ?_, ?_, ?_, ?_, ?_, ?_⟩ <;> go_simp) (hb8.mono (by simp)) (by omega)
        have hB8 := bnext hB7 hb78
        have hb8b := bnext hb7b hb78
        clear hb8 hb78 hb7b hB7
        obtain ⟨v0, v1, v2, v3, v4, v5, v6, v7, v8, v9, v10⟩ := hbx
        simp only at v0 v1 v2 v3 v4 v5 v6 v7 v8 v9 v10
        cases is0
        all_goals
          go_wp2_with fail
          refine (Hsame.out _ (by have hB := hB8; (repeat (first | with_reducible exact hB | with_reducible refine Below.alloc ?_ (by have := hB.size; simp; try omega) _ | with_reducible refine Below.setCell ?_ (by have := hB.size; simp; try omega) _ | with_reducible refine below_drewN ?_ _ | with_reducible refine Below.drew ?_))) (bnext hb8b (by (repeat (first | with_reducible exact Below.refl _ _ | with_reducible refine Below.alloc ?_ (by simp; try omega) _ | with_reducible refine Below.setCell ?_ (by simp; try omega) _ | with_reducible refine below_drewN ?_ _ | with_reducible refine Below.drew ?_))))).mono ?_
          rintro e wa ⟨rfl, hba⟩
          have hBa : Below w.heap.size w wa := bnext (by have hB := hB8; (repeat (first | with_reducible exact hB | with_reducible refine Below.alloc ?_ (by have := hB.size; simp; try omega) _ | with_reducible refine Below.setCell ?_ (by have := hB.size; simp; try omega) _ | with_reducible refine below_drewN ?_ _ | with_reducible refine Below.drew ?_))) hba
          go_wp2_with fail
          go_ret
          exact ⟨rfl, hBa⟩
theorem topOthers_row (w : World) (r : FAt (List (FAt FObj))) (h : Objs w r.A r.n r.x ∧ r.n ≤ r.c ∧ r.c ≤ maxLen ∧ ∀ q ∈ r.x, ObOk w q) (x : FAt FOp) (hx : OpOk w x) (i : Int) (_h1 : (Lit.int .i64 i).wf = true) :
    Calls Try.prog 6 #[.slice r.A r.n r.c, .agg #[.int .i64 x.x.kind, .int .i64 x.x.id, .int .i64 x.x.a, .int .i64 x.x.b, .int .i64 x.x.c, .int .i64 x.x.d, .int .i64 x.x.pic.w, .int .i64 x.x.pic.h, .slice x.A x.n x.c], .int .i64 i] w (Ret (.bool true) w) :=
  topOthers_walk r.A r.n r.c r.x x.x.kind x.x.id x.x.a x.x.b x.x.c x.x.d x.x.pic.w x.x.pic.h x.x.pic.p x.A x.n x.c i w h.1 hx.1
end Fb
