/- The law TopFrames: it returns true. Condition: the argument's shape. -/
import Derived.Test.YtgkemeclpidmcaaOpsKit
import Derived.Test.YtgkemeclpidmcaaOpen2
import Derived.Test.YtgkemeclpidmcaaRows
set_option linter.unusedSimpArgs false
set_option linter.unusedVariables false
namespace Fb
open Go Go.Proofs Go.RowKit Go.Sort
attribute [local go_sem ↓] Go.wp_at_zero Go.wp_at_succ
theorem turnM_frames {s : MSt} : (turnM s).frames = s.frames := by
  unfold turnM
  split <;> (try split) <;> rfl
theorem step_frames {l : List FOp} {s : MSt} (h0 : (stepP l s).2 = 0) : (stepP l s).1.frames = if (opAt l s.at_).kind = 11 then s.frames ++ [⟨seenP s.objs (headW l) (headH l) s.back, (opAt l s.at_).a⟩] else s.frames := by
  obtain ⟨o, ho⟩ : ∃ o, opAt l s.at_ = o := ⟨_, rfl⟩
  unfold stepP at h0 ⊢
  rw [ho] at h0 ⊢
  unfold stepO at h0 ⊢
  by_cases h16 : o.kind = 16
  · rw [if_pos h16, if_neg (by omega)]
  rw [if_neg h16] at h0 ⊢
  by_cases h1 : o.kind = 1
  · rw [if_pos h1, if_neg (by omega)]
  rw [if_neg h1] at h0 ⊢
  by_cases h10 : o.kind = 10
  · rw [if_pos h10, if_neg (by omega)]
  rw [if_neg h10] at h0 ⊢
  by_cases h11 : o.kind = 11
  · rw [if_pos h11] at h0 ⊢
    by_cases hfu : s.frames.length = 40
    · rw [if_pos hfu] at h0
      exact absurd h0 (show ¬ (7 : Nat) = 0 by decide)
    · rw [if_neg hfu, if_pos h11]
  rw [if_neg h11, if_neg h11]
  by_cases h12 : o.kind = 12
  · rw [if_pos h12]
    split <;> rfl
  rw [if_neg h12]
  by_cases h13 : o.kind = 13
  · rw [if_pos h13]
    exact turnM_frames
  rw [if_neg h13]
  by_cases h14 : o.kind = 14
  · rw [if_pos h14]
  rw [if_neg h14]
  by_cases h15 : o.kind = 15
  · rw [if_pos h15]
  rw [if_neg h15]
  split <;> rfl
/-- a block of ops is none that the machine writes -/
theorem box_far {l : List FOp} {s : MSt} {B g : Nat} {m : MSlots} {W : World} {go : Nat} {cur : Array Value} (h : MachW l s B g m W) (hb : W.heap[go]? = some (.cells cur 51)) : ¬ m.Z g go := by
  rintro (e | e | e)
  · subst e
    rw [h.box] at hb
    injection hb with hb
    injection hb with _ hb _
    exact absurd hb (by decide)
  · exact own_not h.rest.turns hb (by decide) e
  · exact own_not h.rest.frames hb (by decide) e
set_option maxRecDepth 100000 in
set_option maxHeartbeats 16000000 in
theorem topFrames_walk (A : Option Addr) (n c : Nat) (rs : List (FAt FOp)) (w : World) (hl : Ops w A n rs) (hn : n ≤ maxLen) :
    Calls Try.prog 13 #[.slice A n c] w (Ret (.bool true) w) := by
  have HL := hid hl
  have hlen := hl.1
  clear hl
  go_enter Try.func13, Try.ntmps13
  go_wp2_with fail
  refine (mworks_any w).mono ?_
  rintro e w1 ⟨rfl, hb1⟩
  go_wp2_with fail
  refine (mmay_any A n c rs w1 (HL.out.below hb1) hn).mono ?_
  rintro e w2 ⟨rfl, hb2⟩
  have hB2 := bnext hb1 hb2
  by_cases hm : mayB n rs = true
  case neg =>
    rw [show mayB n rs = false by simpa using hm]
    go_wp2_with fail
    go_ret
    exact ⟨rfl, hB2⟩
  rw [hm]
  obtain ⟨m1, m2, m3⟩ := may_iff.1 hm
  have hf := book_fine m3
  have hs := light_small m2
  clear m2 m3 hm hb1 hb2
  have C := mnew_ok A n c rs w2 (HL.out.below hB2) hs (by omega) hf
  obtain ⟨l, hl⟩ : ∃ l, datO rs = l := ⟨_, rfl⟩
  have hln : l.length = n := by rw [← hl, datO_len, hlen]
  have hdt : ∀ k (h : k < rs.length), rs[k].x = opAt l k := fun k h => by rw [← hl, datO_at h]
  have HDT := hid hdt
  rw [hl] at C hf
  have HF := hid hf
  have h2 := hf.two
  have h60 := hf.few
  have h0ok := m0_ok hf
  obtain ⟨s1, s2, s3, s4, s5, s6⟩ := head_sides hf
  obtain ⟨ob, off, rfl, hob, hat⟩ := Ops.open_ HL.out (by omega)
  have HA := hid hat
  have HOB := hid hob
  clear hat hl hdt HL hf hs
  go_wp2_with fail
  refine C.mono ?_
  rintro e w3 ⟨g, m, rfl, hmw, hb3⟩
  have hz2 := hB2.size
  have HB3 := hid (bnext hB2 hb3)
  have HM := hid hmw
  have HOK := hid h0ok
  have HS := hid (show (opAt l 0).a = (headW l : Int) ∧ (opAt l 0).b = (headH l : Int) from ⟨s5.symm, s6.symm⟩)
  clear C hmw hb3 h0ok s5 s6
  go_wp2_with fail
  go_loopw [6, 7] (fun nv iv wr => ∃ (k : Nat) (sk : MSt) (mk : MSlots), nv = .int .i64 (sk.frames.length : Int) ∧ iv = .int .i64 (k : Int) ∧ k ≤ 400 ∧ Hid (MOk l sk) ∧ Hid (MachW l sk w2.heap.size g mk wr) ∧ Hid (Below w.heap.size w wr)) (fun _ iv _ => 400 - (intOf iv).toNat)
  case atStart => exact ⟨0, m0, m, rfl, rfl, by omega, HOK, HM, HB3⟩
  case round =>
    obtain ⟨k, sk, mk, rfl, rfl, hk, Hok, HK, HB⟩ := hrel
    clear HM HOK HB3 m
    have hfew := Hok.out.few
    have q0 : (sk.frames.length : Int) ≤ 40 := by omega
    by_cases hlt : k < 400
    case neg =>
      have i1 : ¬ (k : Int) < 400 := by omega
      go_wp2_with fail
      go_ret
      exact ⟨rfl, HB.out⟩
    have i1 : (k : Int) < 400 := by omega
    have e1 : IntKind.i64.wrap ((k : Int) + 1) = (k : Int) + 1 := IntWalk.i64_in _ (by omega)
    obtain ⟨W9, rfl⟩ : ∃ W9 : World, W9 = wr := ⟨_, rfl⟩
    go_wp2_with fail
    refine (mdone_any l sk w2.heap.size g mk W9 HK.out Hok.out.at_).mono ?_
    rintro e w9 ⟨rfl, hb9⟩
    have HK9 := hid (HK.out.below hb9)
    have HB9 := hid (HB.out.trans (hb9.mono HB.out.size))
    clear HK HB hb9
    by_cases h16 : (opAt l sk.at_).kind = 16
    · rw [show ((opAt l sk.at_).kind == 16) = true by simp [h16]]
      go_wp2_with fail
      go_ret
      exact ⟨rfl, HB9.out⟩
    rw [show ((opAt l sk.at_).kind == 16) = false by simp [h16]]
    clear h16
    have hat := Hok.out.at_
    obtain ⟨p, hp⟩ : ∃ p, sk.at_ = p := ⟨_, rfl⟩
    rw [hp] at hat
    have HP := hid hp
    obtain ⟨r, hr⟩ : ∃ r, rs[p]'(by omega) = r := ⟨_, rfl⟩
    have hrx : r.x = opAt l p := by rw [← hr]; exact HDT.out p (by omega)
    have HOC := hid (fun W (hb : Below w.heap.size w W) => (by
      have hcc := OpCells.below (HA.out p (by omega)) hb hob
      rw [hr] at hcc
      exact hcc : OpCells W ob (off + p * 9) r))
    obtain ⟨rx, rA, rn, rc⟩ := r
    simp only at hrx
    have HOO := hid hrx.symm
    clear hrx hr
    obtain ⟨ck, ci, ca, cb, cc, cd, ⟨cw, ch, cp⟩⟩ := rx
    have k1 : (0 : Int) ≤ (p : Int) := by omega
    have k2 : (p : Int) < (n : Int) := by omega
    clear hp
    go_upto_region 13 with fail
    go_cut [8] (fun t wi => StepR w9 ck ci ca cb cc cd cw ch rA rn rc t wi)
    case first =>
      go_wp2_with fail
      refine (mat_any l sk w2.heap.size g mk w9 HK9.out).mono ?_
      rintro e wa ⟨rfl, hba⟩
      rw [HP.out]
      obtain ⟨x0, x1, x2, x3, x4, x5, x6, x7, x8⟩ := HOC.out wa (HB9.out.trans (hba.mono HB9.out.size))
      simp only at x0 x1 x2 x3 x4 x5 x6 x7 x8
      go_wp2_with fail
      go_meet
      exact ⟨wa.heap.size, rfl, heap_alloc_new wa _, (hba.trans ((Below.refl _ _).alloc hba.size _))⟩
    case rest =>
      obtain ⟨go, rfl, hbox, hbb⟩ := hcut
      obtain ⟨wb, rfl⟩ : ∃ wb : World, wb = wc := ⟨_, rfl⟩
      have HKb := hid (HK9.out.below hbb)
      have HBb := hid (HB9.out.trans (hbb.mono HB9.out.size))
      have hgo : go < wb.heap.size := (Array.getElem?_eq_some_iff.1 hbox).1
      have hfar := box_far HKb.out hbox
      have CS := mstep_any l sk w2.heap.size g mk wb HKb.out HF.out Hok.out
      have hso := step_ok HF.out Hok.out
      have hsf := step_frames (l := l) (s := sk)
      rw [HP.out, HOO.out] at hsf
      have HBX := hid hbox
      obtain ⟨⟨s2, f⟩, hsp⟩ : ∃ q, stepP l sk = q := ⟨_, rfl⟩
      rw [hsp] at CS hso hsf
      simp only at CS hso hsf
      have HCS := hid CS
      have HSO := hid hso
      have HSF := hid hsf
      clear hsp CS hso hsf hbox hbb HK9 HB9 HOC hob k1 k2
      obtain ⟨N, hN⟩ : ∃ N, sk.frames.length = N := ⟨_, rfl⟩
      rw [hN] at hfew q0 ⊢
      by_cases hf0 : f = 0
      case neg =>
        obtain ⟨f, rfl⟩ : ∃ f0, f = f0 + 1 := ⟨f - 1, by omega⟩
        go_wp2_with fail
        refine HCS.out.mono ?_
        rintro e w10 ⟨rfl, -, hb10⟩
        have HB10 := hid (HBb.out.trans (hb10.mono hz2))
        clear hb10 HCS
        rw [errV_pos (by omega)]
        go_wp2_with fail
        go_ret
        exact ⟨rfl, HB10.out⟩
      subst hf0
      have hfr := HSF.out rfl
      go_wp2_with fail
      refine HCS.out.mono ?_
      rintro e w10 ⟨rfl, ⟨m10, hm10, hv10⟩, hb10⟩
      have HB10 := hid (HBb.out.trans (hb10.mono hz2))
      have HK10 := hid hm10
      have HX10 : Hid (OpBoxAt go ck ci ca cb cc cd cw ch rA rn rc w10) := hid ((hv10.1.block go hgo hfar).trans HBX.out)
      clear hb10 HCS hm10 hv10 HSF HBX hfar
      rw [show errV 0 = .nilIface from rfl]
      have CF := mframes_any l s2 w2.heap.size g m10 w10 HK10.out (by have := HSO.out.few; omega)
      have HCF := hid CF
      clear CF
      obtain ⟨z0, -, z2, -⟩ := OpBoxAt.cells HX10.out
      by_cases h11 : ck = 11
      · subst h11
        rw [if_pos rfl] at hfr
        obtain ⟨N2, hN2⟩ : ∃ N2, N + 1 = N2 := ⟨_, rfl⟩
        have hl2 : s2.frames.length = N2 := by rw [hfr, List.length_append, hN]; exact hN2
        have e3 : IntKind.i64.wrap ((N : Int) + 1) = (N2 : Int) := by rw [show (N : Int) + 1 = (N2 : Int) by omega]; exact IntWalk.i64_in _ (by have := HSO.out.few; omega)
        have e4 : IntKind.i64.wrap ((N2 : Int) - 1) = (N : Int) := by rw [show (N2 : Int) - 1 = (N : Int) by omega]; exact IntWalk.i64_in _ (by omega)
        have hpf := HSO.out.pics
        rw [hfr] at hpf
        obtain ⟨hq1, hq2, hq3, -, -⟩ := hpf ⟨seenP sk.objs (headW l) (headH l) sk.back, ca⟩ (by simp)
        have hat2 : s2.frames[N]? = some ⟨seenP sk.objs (headW l) (headH l) sk.back, ca⟩ := by rw [hfr, ← hN]; simp
        obtain ⟨⟨xw, xh, xp⟩, hxx⟩ : ∃ x, seenP sk.objs (headW l) (headH l) sk.back = x := ⟨_, rfl⟩
        rw [hxx] at hq1 hq2 hq3 hat2
        simp only at hq2 hq3
        have hxl := hq1.2.2.2.2.1
        have hx64 := (pic_len hq1).2
        simp only at hxl hx64
        have HAT := hid hat2
        have hfw2 := HSO.out.few
        clear hfr hpf hxx hq1 hat2
        go_wp2_with fail
        refine HCF.out.mono ?_
        rintro e w11 ⟨A', n', c', rs', rfl, hfm, -, -, hdt, hb11⟩
        have HB11 := hid (HB10.out.trans (hb11.mono HB10.out.size))
        have HK11 := hid (HK10.out.below hb11)
        have hbx11 := blk_keep HX10.out hb11
        have hn' : n' = N2 := by
          have := congrArg List.length hdt
          unfold frD at this
          rw [List.length_map, hfm.1] at this
          omega
        subst hn'
        obtain ⟨b6, o6, rfl, hb6, hatf⟩ := hfm.openT (by omega)
        rw [hdt] at hatf
        obtain ⟨pA, pn, pc, hpx, y0, y1, y2, y3⟩ := hatf N _ HAT.out
        simp only at hpx y0 y1 y2 y3
        have hpn : pn = xp.length := hpx.1.symm
        subst hpn
        have hob2 := OpCells.below (HA.out 0 (by omega)) HB11.out HOB.out
        obtain ⟨-, -, u2, u3, -⟩ := hob2
        rw [HDT.out 0 (by omega), HS.out.1, ← hq2, Nat.zero_mul, Nat.add_zero] at u2
        rw [HDT.out 0 (by omega), HS.out.2, ← hq3, Nat.zero_mul, Nat.add_zero] at u3
        obtain ⟨v0, -, v2, -⟩ := OpBoxAt.cells hbx11
        have q1 : (0 : Int) ≤ (N : Int) := by omega
        have q2 : (N : Int) < (n' : Int) := by omega
        have q3 : (0 : Int) < (n : Int) := by omega
        have e5 : IntKind.i64.wrap (xw * xh) = (xp.length : Int) := by rw [← hxl]; exact IntWalk.i64_in _ (by omega)
        clear hq2 hq3 hxl
        have hgo11 := (Array.getElem?_eq_some_iff.1 hbx11).1
        have hob11 : ob < w11.heap.size := Nat.lt_of_lt_of_le HOB.out HB11.out.size
        have f0 := cell_all2 hb6 y0
        have f1 := cell_all2 hb6 y1
        have f2 := cell_all2 hb6 y2
        have f3 := cell_all2 hb6 y3
        have g0 := cell_all2 hgo11 v0
        have g2 := cell_all2 hgo11 v2
        have h2 := cell_all2 hob11 u2
        have h3 := cell_all2 hob11 u3
        clear hfm hdt hatf hpx z0 z2 HCF hb11 hbx11 HX10 HK10 HB10 y0 y1 y2 y3 v0 v2 u2 u3
        go_upto_region 18 with fail
        refine wp_region_quiet_below (by kernel_rfl) (by kernel_rfl) ?_
        simp only [List.append_eq, List.cons_append, List.nil_append]
        repeat (go_big_quiet_step (fail))
        (refine wpQuiet_nil ?_; intro _ hw'; obtain ⟨⟨dq, osq⟩, hw''⟩ := hw'; subst hw'')
        have HB12 := hid (HB11.out.trans ((below_regrown w11 dq osq).mono HB11.out.size))
        have HK12 := hid (HK11.out.below (below_regrown w11 dq osq))
        clear f0 f1 f2 f3 g0 g2 h2 h3 HK11 HB11 hgo11 hob11 hb6
        generalize grow (redrawn w11 dq) osq = w12 at *
        go_wp2_with fail
        go_roundw
        case rel => exact ⟨k + 1, s2, m10, by go_num, by go_num, by omega, HSO, HK12, HB12⟩
        case measure => simp [intOf]; omega
      · rw [if_neg h11] at hfr
        have b11 : (ck == 11) = false := by simp [h11]
        have hl2 : s2.frames.length = N := by rw [hfr]; exact hN
        clear hfr
        go_wp2_with fail
        refine HCF.out.mono ?_
        rintro e w11 ⟨A', n', c', rs', rfl, hfm, -, -, hdt, hb11⟩
        have HB11 := hid (HB10.out.trans (hb11.mono HB10.out.size))
        have HK11 := hid (HK10.out.below hb11)
        have hbx11 := blk_keep HX10.out hb11
        have hn' : n' = N := by
          have := congrArg List.length hdt
          unfold frD at this
          rw [List.length_map, hfm.1] at this
          omega
        subst hn'
        obtain ⟨v0, -, v2, -⟩ := OpBoxAt.cells hbx11
        have hgo11 := (Array.getElem?_eq_some_iff.1 hbx11).1
        have g0 := cell_all2 hgo11 v0
        have g2 := cell_all2 hgo11 v2
        clear hfm hdt z0 z2 HCF hb11 hbx11 HX10 HK10 HB10 v0 v2
        go_upto_region 18 with fail
        refine wp_region_quiet_below (by kernel_rfl) (by kernel_rfl) ?_
        simp only [List.append_eq, List.cons_append, List.nil_append]
        repeat (go_big_quiet_step (fail))
        (refine wpQuiet_nil ?_; intro _ hw'; obtain ⟨⟨dq, osq⟩, hw''⟩ := hw'; subst hw'')
        have HB12 := hid (HB11.out.trans ((below_regrown w11 dq osq).mono HB11.out.size))
        have HK12 := hid (HK11.out.below (below_regrown w11 dq osq))
        clear g0 g2 HK11 HB11 hgo11
        generalize grow (redrawn w11 dq) osq = w12 at *
        go_wp2_with fail
        go_roundw
        case rel => exact ⟨k + 1, s2, m10, by rw [hl2], by go_num, by omega, HSO, HK12, HB12⟩
        case measure => simp [intOf]; omega
theorem topFrames_row (w : World) (r : FAt (List (FAt FOp))) (h : Ops w r.A r.n r.x ∧ r.n ≤ r.c ∧ r.c ≤ maxLen ∧ ∀ q ∈ r.x, OpOk w q) :
    Calls Try.prog 13 #[.slice r.A r.n r.c] w (Ret (.bool true) w) :=
  topFrames_walk r.A r.n r.c r.x w h.1 (Nat.le_trans h.2.1 h.2.2.1)
end Fb
