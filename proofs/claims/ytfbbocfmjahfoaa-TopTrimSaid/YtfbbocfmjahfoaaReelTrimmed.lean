/- The reference's Trimmed: the frames that it returns read as the plain law says. Conditions: delays from 0 to 10000, at most 1000 frames. -/
import Derived.Test.YtfbbocfmjahfoaaReelTrim
namespace Fb
open Go Go.Proofs Go.RowKit Go.Sort
set_option maxRecDepth 100000 in
set_option maxHeartbeats 2000000 in
theorem rtrim_any (A : Option Addr) (n c : Nat) (rs : List (FAt FFrame)) (w : World) (hl : Frames w A n rs) (hn : n ≤ 1000) (hf : FineFr (frs rs)) (sm : Small rs) :
    Calls Try.prog 28 #[.slice A n c] w (RetFrames (trimL (frs rs)) w) := by
  have Hl := hid hl.1
  have HF := hid hf
  by_cases h0 : n = 0
  · subst h0
    have e1 : rs = [] := List.eq_nil_of_length_eq_zero Hl.out
    have hr := hid (retFrames_of (rs := rs) (World.ownsRow_nil w w.heap.size 36 4) (os := []) (fun r hr => by simp at hr) (Below.refl _ _) (by rw [e1]; rfl))
    clear hl e1 sm
    go_enter Try.func28, Try.ntmps28
    go_wp2
    go_loop [3, 4] (fun v i => i = .int .i64 0 ∧ v = .slice none 0 0) (fun _ _ => 0)
    case atStart => exact ⟨rfl, rfl⟩
    case round =>
      obtain ⟨rfl, rfl⟩ := hrel
      go_wp2
      go_ret
      exact hr.out
  · obtain ⟨i0, hi, hz0, hz1, hz2⟩ := info_parts info_frame
    obtain ⟨b, o, rfl, hb, hc⟩ := hl.open_ (by omega)
    have Hc := hid hc
    have HP := hid hl.2.2
    have SM := hid sm
    clear hl hc sm
    go_enter Try.func28, Try.ntmps28
    go_wp2
    go_loopw [3, 4] (fun v i wr => ∃ (k : Nat) (os : List (FAt FFrame)), k ≤ n ∧ i = .int .i64 k ∧ wr.ownsRow w.heap.size 36 4 v os.length (os.flatMap frCells) ∧ frs os = trimL ((frs rs).take k) ∧ PicsIn w os ∧ os.length ≤ k ∧ Below w.heap.size w wr) (fun _ i _ => n - (intOf i).toNat)
    case atStart => exact ⟨0, [], by omega, rfl, World.ownsRow_nil _ _ _ _, rfl, fun r hr => by simp at hr, by simp, Below.refl _ _⟩
    case round =>
      obtain ⟨k, os, hk, rfl, hown, hos, hpi, hle, hbel⟩ := hrel
      have Hos := hid hos
      have Hpi := hid hpi
      clear hos hpi
      by_cases hlt : k < n
      · have k1 : k < rs.length := by rw [Hl.out]; exact hlt
        obtain ⟨c0, c1, c2, c3⟩ := Hc.out k k1
        have hz := hbel.size
        have hbr : b < wr.heap.size := by omega
        have d0 := (hbel.cell (p := ⟨b, o + k * 4, none⟩) hb).trans c0
        have d1 := (hbel.cell (p := ⟨b, o + k * 4 + 1, none⟩) hb).trans c1
        have d2 := (hbel.cell (p := ⟨b, o + k * 4 + 2, none⟩) hb).trans c2
        have d3 := (hbel.cell (p := ⟨b, o + k * 4 + 3, none⟩) hb).trans c3
        have hdl := HF.out.at_ k1
        have hrp := hid (And.intro (HP.out rs[k] (List.getElem_mem k1)) (SM.out _ (List.getElem_mem k1)))
        have Hz := hid (trim_zero (k := k) Hos.out k1)
        have Hfirst := hid (fun (h : frs [] = trimL ((frs rs).take k)) => trim_first h k1)
        have Hsame := hid (fun i g (h : frs (i ++ [g]) = trimL ((frs rs).take k)) => trim_same h k1)
        have Hother := hid (fun i g (h : frs (i ++ [g]) = trimL ((frs rs).take k)) => trim_other h k1)
        have Hlast := hid (fun i g (h : frs (i ++ [g]) = trimL ((frs rs).take k)) => last_bd h HF.out (by omega))
        clear c0 c1 c2 c3
        generalize rs[k] = r at *
        by_cases hd : r.x.delay = 0
        · have hd' : (r.x.delay == 0) = true := by simpa using hd
          have hz := Hz.out hd
          have HZ := hid hz
          obtain ⟨A', c', rfl, -, -⟩ := own_slice hown
          clear hd hz Hsame Hother Hlast Hfirst
          go_wp2_with fail
          go_roundw
          case rel => exact ⟨k + 1, os, by omega, by go_num, hown, HZ.out, Hpi.out, by omega, hbel⟩
          case measure => simp [intOf]; omega
        · have hd' : (r.x.delay == 0) = false := by simpa using hd
          have Hd := hid hd
          clear hd
          rcases snoc_cases os with rfl | ⟨i, g, rfl⟩
          · obtain ⟨A', c', rfl, -, -⟩ := own_slice hown
            have hst := hid (Hfirst.out Hos.out Hd.out)
            clear Hsame Hother Hlast Hfirst
            go_wp2_with (at_builtin; refine wpList_append_own _ rfl _ _ 30 rfl w.heap.size 36 i0 (.agg #[.int .i64 0, .int .i64 0, .slice none 0 0, .int .i64 0]) 4 48 Try.underlying30 hi hz0 hz1 hz2 rfl (by decide) _ _ _ rfl (hown.alloc _) ⟨wr.heap.size, 0, none⟩ 1 1 (frCells r) rfl rfl ?c1 ?c2 ?c3 ?c4 ?c5 ?_)
            case c1 => exact new_cells wr #[.int .i64 r.x.pic.w, .int .i64 r.x.pic.h, .slice r.A r.n r.c, .int .i64 r.x.delay] 36
            case c2 => intro u hu; simp [frCells] at hu; rcases hu with rfl | rfl | rfl | rfl <;> rfl
            case c3 => unfold maxLen; simp; try omega
            case c4 => simp; try omega
            case c5 => have := hbel.size; simp; omega
            intro v' w4 hown' hgrow _
            have HO : w4.ownsRow w.heap.size 36 4 v' ([r]).length (([r]).flatMap frCells) := hown'
            have hbel4 : Below w.heap.size w w4 := (hbel.alloc hbel.size _).grown hgrow (by have := hbel.size; simp; omega) (fun g hg => (hown.lt g hg).1)
            clear hown' hgrow hown hbel d0 d1 d2 d3
            go_wp2_with fail
            go_roundw
            case rel => exact ⟨k + 1, [r], by omega, by go_num, HO, hst.out, Hpi.out.snoc hrp.out, by simp; try omega, hbel4⟩
            case measure => simp [intOf]; omega
          · obtain ⟨gb, cap, rfl, hgb, hgbs⟩ := hown.form (by simp)
            have g0 := own_cell (cel := frCells) (fun _ => rfl) hown (k := i.length) (j := 0) (a := g) (by simp) (by decide)
            have g1 := own_cell (cel := frCells) (fun _ => rfl) hown (k := i.length) (j := 1) (a := g) (by simp) (by decide)
            have g2 := own_cell (cel := frCells) (fun _ => rfl) hown (k := i.length) (j := 2) (a := g) (by simp) (by decide)
            have g3 := own_cell (cel := frCells) (fun _ => rfl) hown (k := i.length) (j := 3) (a := g) (by simp) (by decide)
            have gbd := Hlast.out i g Hos.out
            have Sa := hid (Hsame.out i g Hos.out Hd.out)
            have Ot := hid (Hother.out i g Hos.out Hd.out)
            have hgp := Hpi.out g (by simp)
            simp only [frCells, List.getElem?_cons_zero, List.getElem?_cons_succ, Nat.add_zero] at g0 g1 g2 g3
            have hownb := hown
            obtain ⟨M, hM⟩ : ∃ M, i.length = M := ⟨_, rfl⟩
            clear Hsame Hother Hlast Hfirst hown
            rw [hM] at g0 g1 g2 g3
            have hlen : (i ++ [g]).length = M + 1 := by simp [hM]
            rw [hlen] at hle hownb
            rw [hlen]
            have hM1 : (0 : Int) ≤ (M : Int) := by omega
            have hM2 : (M : Int) < (M : Int) + 1 := by omega
            have hM3 : (0 : Int) < (M : Int) + 1 := by omega
            have HM := hid hM
            have Hlen := hid hlen
            have pg := hgp.1.below hbel
            have pr := hrp.out.1.below hbel
            have q2 : (M : Int) + 1 - 1 = (M : Int) := by omega
            clear hM hlen
            go_upto_region 9 with fail
            have F0 := cell_all (p := ⟨b, o + k * 4, none⟩) hbr d0
            have F1 := cell_all (p := ⟨b, o + k * 4 + 1, none⟩) hbr d1
            have F2 := cell_all (p := ⟨b, o + k * 4 + 2, none⟩) hbr d2
            have F3 := cell_all (p := ⟨b, o + k * 4 + 3, none⟩) hbr d3
            have E0 := cell_all (p := ⟨gb, M * 4, none⟩) hgbs g0
            have E1 := cell_all (p := ⟨gb, M * 4 + 1, none⟩) hgbs g1
            have E2 := cell_all (p := ⟨gb, M * 4 + 2, none⟩) hgbs g2
            have E3 := cell_all (p := ⟨gb, M * 4 + 3, none⟩) hgbs g3
            have hcall := fun dd os => Ret.regrown (rsame_pic_any ⟨g.x.pic, g.A, g.n, g.c⟩ ⟨r.x.pic, r.A, r.n, r.c⟩ (grow (redrawn wr dd) os) (pg.all dd os) (pr.all dd os) hgp.2 hrp.out.2)
            simp only at hcall
            generalize hs : samePic g.x.pic r.x.pic = pb at *
            have Hs := hid hs
            clear d0 d1 d2 d3 g0 g1 g2 g3 hs pg pr
            refine wp_region_quiet_below (by kernel_rfl) (by kernel_rfl) ?_
            repeat (quiet_step (first | exact hcall _ _))
            (refine wpQuiet_nil ?_; intro _ hw'; obtain ⟨⟨dq, osq⟩, hw''⟩ := hw'; subst hw'')
            have hb3 := below_regrown wr dq osq
            have x0 := F0 dq osq
            have x1 := F1 dq osq
            have x2 := F2 dq osq
            have x3 := F3 dq osq
            have y3 := E3 dq osq
            have hbel3 := bnext hbel hb3
            have hown3 := own_keep hownb hb3
            have hz3 := hb3.size
            have fz := hown3.frozenAt (M * 4 + 3)
            clear F0 F1 F2 F3 E0 E1 E2 E3 hcall hb3 hbel hownb
            generalize grow (redrawn wr dq) osq = w3 at *
            cases pb
            · clear fz y3
              go_wp2_with (at_builtin; refine wpList_append_own _ rfl _ _ 30 rfl w.heap.size 36 i0 (.agg #[.int .i64 0, .int .i64 0, .slice none 0 0, .int .i64 0]) 4 48 Try.underlying30 hi hz0 hz1 hz2 rfl (by decide) _ _ _ rfl (hown3.alloc _) ⟨w3.heap.size, 0, none⟩ 1 1 (frCells r) rfl rfl ?c1 ?c2 ?c3 ?c4 ?c5 ?_)
              case c1 => first | exact fun j u h => h | exact new_cells w3 #[.int .i64 r.x.pic.w, .int .i64 r.x.pic.h, .slice r.A r.n r.c, .int .i64 r.x.delay] 36
              case c2 => intro u hu; simp [frCells] at hu; rcases hu with rfl | rfl | rfl | rfl <;> rfl
              case c3 => unfold maxLen; omega
              case c4 => omega
              case c5 => have := hbel3.size; simp; omega
              intro v' w4 hown' hgrow _
              have HO : w4.ownsRow w.heap.size 36 4 v' (i ++ [g] ++ [r]).length ((i ++ [g] ++ [r]).flatMap frCells) := by
                rw [show (i ++ [g] ++ [r]).length = M + 1 + 1 by simp [HM.out], show (i ++ [g] ++ [r]).flatMap frCells = i.flatMap frCells ++ (frCells g ++ frCells r) by simp]; exact hown'
              have hbel4 : Below w.heap.size w w4 := (hbel3.alloc hbel3.size _).grown hgrow (by have := hbel3.size; simp; omega) (fun g hg => (hown3.lt g hg).1)
              clear hown' hgrow hown3 hbel3 x0 x1 x2 x3
              go_wp2_with fail
              go_roundw
              case rel => exact ⟨k + 1, i ++ [g] ++ [r], by omega, by go_num, HO, Ot.out (by first | trivial | rfl), Hpi.out.snoc hrp.out, by rw [List.length_append, Hlen.out]; simp; omega, hbel4⟩
              case measure => simp [intOf]; omega
            · have q3 : IntKind.i64.wrap (g.x.delay + r.x.delay) = g.x.delay + r.x.delay := IntWalk.i64_in _ (by omega)
              have hst := hown3.stored (M * 4 + 3) (.int .i64 (g.x.delay + r.x.delay))
              have hset := flat_set (cel := frCells) (size := 4) (fun _ => rfl) i g (withDelay g (g.x.delay + r.x.delay)) 3 (.int .i64 (g.x.delay + r.x.delay)) (by decide) rfl
              rw [HM.out] at hset
              rw [hset] at hst
              have hlen' : (i ++ [withDelay g (g.x.delay + r.x.delay)]).length = M + 1 := by simp [HM.out]
              have HLen' := hid hlen'
              have Hst := hid hst.1
              have hbel4 := hbel3.setCell (p := ⟨gb, M * 4 + 3, none⟩) hgb (.int .i64 (g.x.delay + r.x.delay))
              have hkn : (k : Int) < (n : Int) := by omega
              have hk0 : (0 : Int) ≤ (k : Int) := by omega
              clear hst hset hlen' hown3 hbel3 x0 x1 x2
              go_wp2_with fail
              go_region
              all_goals
                go_wp2_with fail
                go_roundw
                case rel => exact ⟨k + 1, i ++ [withDelay g (g.x.delay + r.x.delay)], by omega, by go_num, by rw [HLen'.out]; exact Hst.out, Sa.out (by first | trivial | rfl), Hpi.out.last _, by rw [HLen'.out]; omega, Below.drew hbel4⟩
                case measure => simp [intOf]; omega
      · obtain rfl : k = n := by omega
        have hfin := hid (show frs os = trimL (frs rs) by
          have := Hos.out
          rw [List.take_of_length_le (by rw [frs_len, Hl.out]; omega)] at this
          exact this)
        obtain ⟨A', c', rfl, -, -⟩ := own_slice hown
        have hret := hid (retFrames_of hown Hpi.out hbel hfin.out)
        clear hown
        go_wp2_with fail
        go_ret
        exact hret.out
end Fb
