/- The walk of flickerbooktop.TopTrim: it returns true and writes nothing that was there. Conditions: the arguments are well formed. -/
import Derived.Test.YtfbbocfmjahfoaaLawReel
namespace Fb
open Go Go.Proofs Go.RowKit Go.Sort
theorem frames_none (w : World) : Frames w none 0 [] := ⟨rfl, Row.none_ _ _ _, fun r hr => by simp at hr⟩
theorem frames_one (w : World) (a : Int) : Frames (w.alloc (.cells #[.int .i64 0, .int .i64 0, .slice none 0 0, .int .i64 a] 36)) (some ⟨w.heap.size, 0, none⟩) 1 [bare a] :=
  ⟨rfl, row_new w #[.int .i64 0, .int .i64 0, .slice none 0 0, .int .i64 a] 36 1 4 rfl, fun r hr => by
    simp at hr
    subst hr
    exact pixs_none _ _⟩
theorem trim_one0 : trimL (frs [bare 0]) = [] := by
  rw [show frs [bare 0] = [] ++ [(bare 0).x] from rfl, trimL_snoc, trimOne_none rfl]; rfl
theorem fine_one0 : FineFr (frs [bare 0]) := by
  intro f hf
  simp [frs, bare] at hf
  subst hf
  simp
theorem fine_none : FineFr (frs []) := fun f hf => by simp [frs] at hf
theorem frs_nil {rs : List (FAt FFrame)} (h : frs rs = []) : rs = [] := by cases rs with
  | nil => rfl
  | cons a l => simp [frs] at h
theorem mem_sum {l : List FFrame} {f : FFrame} (hf : f ∈ l) (h : ∀ g ∈ l, 0 ≤ g.delay) : f.delay ≤ delays l := by
  induction l with
  | nil => simp at hf
  | cons a l ih =>
    have ha := h a (by simp)
    have hl : 0 ≤ delays l := by
      have : ∀ l : List FFrame, (∀ f ∈ l, 0 ≤ f.delay) → 0 ≤ delays l := by
        intro l
        induction l with
        | nil => intro _; simp [delays]
        | cons a l ih => intro h; have := h a (by simp); have := ih (fun f hf => h f (by simp [hf])); simp [delays] at this ⊢; omega
      exact this l (fun f hf => h f (by simp [hf]))
    have e : delays (a :: l) = a.delay + delays l := by simp [delays]
    rw [e]
    rcases List.mem_cons.1 hf with rfl | hf
    · omega
    · have := ih hf (fun g hg => h g (by simp [hg])); omega
theorem delays_99 {l : List FFrame} (h : ∀ f ∈ l, 0 ≤ f.delay ∧ f.delay ≤ 99) : 0 ≤ delays l ∧ delays l ≤ 99 * l.length := by
  induction l with
  | nil => simp [delays]
  | cons f l ih =>
    have h1 := h f (by simp)
    have h2 := ih (fun g hg => h g (by simp [hg]))
    simp [delays] at h2 ⊢
    omega
theorem fine_trim {rs : List (FAt FFrame)} (h50 : rs.length ≤ 50) (hf : FineFr (frs rs)) (h : ∀ r ∈ rs, 0 ≤ r.x.delay ∧ r.x.delay ≤ 99) : FineFr (trimL (frs rs)) := by
  intro f hm
  have hn := trimL_nonneg hf
  have h1 := mem_sum hm hn
  rw [trimL_delays] at h1
  have h2 := (delays_99 (l := frs rs) (fun f hf => by obtain ⟨r, hr, rfl⟩ := List.mem_map.1 hf; exact h r hr)).2
  rw [frs_len] at h2
  have := hn f hm
  omega
theorem dec_iff {p q : Prop} [Decidable p] [Decidable q] (h : p ↔ q) : (decide p == decide q) = true := by simp [h]
set_option maxRecDepth 100000 in
set_option maxHeartbeats 2000000 in
theorem topTrim_walk (A : Option Addr) (n c : Nat) (rs : List (FAt FFrame)) (m : Int) (w : World) (hl : Frames w A n rs) (hn : n ≤ maxLen) (hm : m ≤ 9223372036854775807) :
    Calls Try.prog 5 #[.slice A n c, .int .i64 m] w (Ret (.bool true) w) := by
  have Hl := hid hl.1
  have HL := hid hl
  clear hl
  go_enter Try.func5, Try.ntmps5
  go_wp2_with fail
  refine (length_any none 0 0 [] _ (frames_none _) (by decide) fine_none).mono ?_
  rintro e w1 ⟨rfl, hB1⟩
  rw [show delays (frs []) = 0 from rfl]
  go_wp2_with fail
  refine (at_any none 0 0 [] 0 _ (frames_none _) (by decide) fine_none (by decide)).mono ?_
  rintro e w2 ⟨rfl, hb⟩
  have hB2 := bnext hB1 hb
  rw [show atL (frs []) 0 = -1 from rfl]
  clear hb hB1
  have hB3 := hB2.alloc hB2.size (.cells #[.int .i64 0, .int .i64 0, .slice none 0 0, .int .i64 0] 36)
  go_wp2_with fail
  refine (trim_any _ 1 1 [bare 0] _ (frames_one w2 0) (by decide) fine_one0 (fun r hr => by simp at hr; subst hr; decide)).mono ?_
  rintro e w3 ⟨A0, c0, t0, rfl, -, -, hf0, hb⟩
  rw [trim_one0] at hf0
  have ht0 := frs_nil hf0
  subst ht0
  have hB4 := bnext hB3 hb
  clear hb hB2 hB3 hf0
  go_wp2_with fail
  refine (lightframes_any A n c rs _ (HL.out.below hB4) hn).mono ?_
  rintro e w4 ⟨rfl, hb⟩
  have hB5 := bnext hB4 hb
  clear hb hB4
  cases hlb : lightB rs
  · go_wp2_with fail
    go_ret
    exact ⟨rfl, hB5⟩
  · obtain ⟨h50, hf, sm, h99⟩ := light_fine hlb
    have hft := fine_trim h50 hf h99
    have htr := trimL_trim hf
    have hat := at_trim hf m
    have hdl := trimL_delays (frs rs)
    have htl := trimL_len (frs rs)
    have hss := trimL_self htr
    rw [frs_len] at htl
    rw [Hl.out] at h50
    have HF := hid hf
    have SM := hid sm
    clear hlb hf sm h99
    go_wp2_with fail
    refine (trim_any A n c rs _ (HL.out.below hB5) (by omega) HF.out SM.out).mono ?_
    rintro e w5 ⟨A1, c1, t, rfl, ht, smt, hft1, hb⟩
    have hB6 := bnext hB5 hb
    rw [← hft1] at hft htr hat hdl htl hss
    rw [frs_len] at htl
    rw [Hl.out] at htl
    obtain ⟨nt, hnt⟩ : ∃ nt, t.length = nt := ⟨_, rfl⟩
    rw [hnt] at ht htl
    rw [hnt]
    have Hnt := hid hnt
    have HT := hid ht
    have HFT := hid hft
    have SMT := hid smt
    have HTR := hid htr
    have HAT := hid hat
    have HDL := hid hdl
    have HSS := hid hss
    clear hb hB5 ht smt hft htr hat hdl hss hft1 hnt
    go_wp2_with fail
    go_loopw [6] (fun i wr => ∃ k : Nat, k ≤ nt ∧ i = .int .i64 k ∧ Below w5.heap.size w5 wr) (fun i _ => nt - (intOf i).toNat)
    case atStart => exact ⟨0, by omega, rfl, Below.refl _ _⟩
    case round =>
      obtain ⟨k, hk, rfl, hbel⟩ := hrel
      by_cases hlt : k < nt
      · obtain ⟨b, o, rfl, hb, hc⟩ := HT.out.open_ (by omega)
        have hz := hbel.size
        have hbr : b < wr.heap.size := by omega
        have k1 : k < t.length := by rw [Hnt.out]; exact hlt
        have hng := HTR.out.neigh k (by rw [frs_len]; exact k1)
        rw [frs_at t k k1] at hng
        obtain ⟨d0, d1, d2, d3⟩ := hc k k1
        have E0 := cell_all (p := ⟨b, o + k * 4, none⟩) hbr ((hbel.cell hb).trans d0)
        have E1 := cell_all (p := ⟨b, o + k * 4 + 1, none⟩) hbr ((hbel.cell hb).trans d1)
        have E2 := cell_all (p := ⟨b, o + k * 4 + 2, none⟩) hbr ((hbel.cell hb).trans d2)
        have E3 := cell_all (p := ⟨b, o + k * 4 + 3, none⟩) hbr ((hbel.cell hb).trans d3)
        have e3 := (hbel.cell (p := ⟨b, o + k * 4 + 3, none⟩) hb).trans d3
        have g1 : decide (t[k].x.delay < 1) = false := by rw [decide_eq_false_iff_not]; have := hng.1; omega
        by_cases hk0 : k = 0
        · subst hk0
          have i1 : (0 : Int) < (nt : Int) := by omega
          clear E0 E1 E2 E3 d0 d1 d2 d3 hng
          go_wp2_with fail
          go_quiet (fail)
          go_wp2_with fail
          go_roundw
          case rel => exact ⟨1, by omega, by go_num, below_drewN hbel _⟩
          case measure => simp [intOf]; omega
        · obtain ⟨q, rfl⟩ : ∃ q, k = q + 1 := ⟨k - 1, by omega⟩
          have k0 : q < t.length := by omega
          obtain ⟨c0', c1', c2', -⟩ := hc q k0
          have F0 := cell_all (p := ⟨b, o + q * 4, none⟩) hbr ((hbel.cell hb).trans c0')
          have F1 := cell_all (p := ⟨b, o + q * 4 + 1, none⟩) hbr ((hbel.cell hb).trans c1')
          have F2 := cell_all (p := ⟨b, o + q * 4 + 2, none⟩) hbr ((hbel.cell hb).trans c2')
          have p1 := (HT.out.2.2 t[q] (List.getElem_mem k0)).below hbel
          have p2 := (HT.out.2.2 t[q + 1] (List.getElem_mem k1)).below hbel
          have hne : samePic t[q].x.pic t[q + 1].x.pic = false := by
            have := (HTR.out.neigh q (by rw [frs_len]; exact k0)).2 (by rw [frs_len]; exact k1)
            rw [frs_at t q k0, frs_at t (q + 1) k1] at this
            exact this
          have r1 := fun dd os => Ret.regrown (same_pic_any ⟨t[q].x.pic, t[q].A, t[q].n, t[q].c⟩ ⟨t[q + 1].x.pic, t[q + 1].A, t[q + 1].n, t[q + 1].c⟩ (grow (redrawn wr dd) os) (p1.all dd os) (p2.all dd os) (SMT.out _ (List.getElem_mem k0)) (SMT.out _ (List.getElem_mem k1)))
          simp only [hne] at r1
          have i1 : IntKind.i64.wrap (q : Int) = (q : Int) := IntWalk.i64_in _ (by omega)
          have i2 : (0 : Int) ≤ (q : Int) := by omega
          have i3 : (q : Int) < (nt : Int) := by omega
          have i4 : (0 : Int) ≤ (q : Int) + 1 := by omega
          have i5 : (q : Int) + 1 < (nt : Int) := by omega
          have i6 : ((q : Int) + 1).toNat = q + 1 := by omega
          have i7 : (0 : Int) < (q : Int) + 1 := by omega
          clear d0 d1 d2 d3 hc p1 p2 hng c0' c1' c2' e3 hne hk0
          go_wp2_with fail
          refine wp_region_quiet_below (by kernel_rfl) (by kernel_rfl) ?_
          repeat (quiet_step (first | (go_at_call 22; exact r1 _ _)))
          (refine wpQuiet_nil ?_; intro _ hw'; obtain ⟨⟨dq, osq⟩, hw''⟩ := hw'; subst hw'')
          have hb3 := bnext hbel (below_regrown wr dq osq)
          clear F0 F1 F2 E0 E1 E2 E3 r1 hbel i1 g1
          generalize grow (redrawn wr dq) osq = w6 at *
          go_wp2_with fail
          go_roundw
          case rel => exact ⟨q + 1 + 1, by omega, by go_num, hb3⟩
          case measure => simp [intOf]; omega
      · have hB7 := bnext hB6 hbel
        have HT := hid (HT.out.below hbel)
        clear hB6 hbel
        go_wp2_with fail
        refine (at_any A n c rs m _ (HL.out.below hB7) (by omega) HF.out hm).mono ?_
        rintro e w6 ⟨rfl, hb⟩
        have hB8 := bnext hB7 hb
        have HT := hid (HT.out.below hb)
        clear hb hB7
        go_wp2_with fail
        refine (at_any A1 nt c1 t m _ HT.out (by omega) HFT.out hm).mono ?_
        rintro e w7 ⟨rfl, hb⟩
        have hB9 := bnext hB8 hb
        have HT := hid (HT.out.below hb)
        clear hb hB8
        rcases HAT.out with ⟨a1, a2, a3⟩ | ⟨i, j, hi', hj', a1, a2, a3, a4⟩
        · rw [a1, a2]
          clear a1 a2
          go_wp2_with fail
          go_quiet (fail)
          have hB10 := below_drewN hB9 nq
          have HT : Hid (Frames (w7.drewN nq) A1 nt t) := hid HT.out
          generalize w7.drewN nq = w8 at *
          clear hB9
          by_cases hm0 : 0 ≤ m
          · have hmd : ¬ m < delays (frs rs) := fun h => a3 ⟨hm0, h⟩
            have hmd' : delays (frs rs) ≤ m := by omega
            clear a3
            go_wp2_with fail
            refine (length_any A1 nt c1 t _ HT.out (by omega) HFT.out).mono ?_
            rintro e w9 ⟨rfl, hb⟩
            have hB11 := bnext hB10 hb
            have HT := hid (HT.out.below hb)
            rw [HDL.out]
            clear hb hB10
            go_wp2_with fail
            refine (length_any A n c rs _ (HL.out.below hB11) (by omega) HF.out).mono ?_
            rintro e w10 ⟨rfl, hb⟩
            have hB12 := bnext hB11 hb
            have HT := hid (HT.out.below hb)
            clear hb hB11
            go_wp2_with fail
            refine (length_any A n c rs _ (HL.out.below hB12) (by omega) HF.out).mono ?_
            rintro e w10 ⟨rfl, hb⟩
            have hB12 := bnext hB12 hb
            have HT := hid (HT.out.below hb)
            clear hb
            go_wp2_with fail
            refine (trim_any A1 nt c1 t _ HT.out (by omega) HFT.out SMT.out).mono ?_
            rintro e w11 ⟨A2, c2, t2, rfl, ht2, sm2, hf2, hb⟩
            have hB13 := bnext hB12 hb
            have HT := hid (HT.out.below hb)
            have l2 : t2.length ≤ 1000 := by rw [← frs_len, hf2]; have := trimL_len (frs t); rw [frs_len, Hnt.out] at this; omega
            rw [HSS.out] at hf2
            have Hf2 := hid hf2
            have HT2 := hid ht2
            clear hb hB12 ht2 hf2
            go_wp2_with fail
            refine (rsameframes_any A2 A1 t2.length nt c2 c1 t2 t _ HT2.out HT.out (by omega) (by omega) sm2 SMT.out).mono ?_
            rintro e w12 ⟨rfl, hb⟩
            have hB14 := bnext hB13 hb
            rw [Hf2.out, eqFrs_self]
            go_wp2_with fail
            go_ret
            first | exact ⟨rfl, hB14⟩ | exact ⟨ret_bool (by simp; omega), hB14⟩
          · clear a3
            go_wp2_with fail
            refine (length_any A1 nt c1 t _ HT.out (by omega) HFT.out).mono ?_
            rintro e w9 ⟨rfl, hb⟩
            have hB11 := bnext hB10 hb
            have HT := hid (HT.out.below hb)
            rw [HDL.out]
            clear hb hB10
            go_wp2_with fail
            refine (length_any A n c rs _ (HL.out.below hB11) (by omega) HF.out).mono ?_
            rintro e w10 ⟨rfl, hb⟩
            have hB12 := bnext hB11 hb
            have HT := hid (HT.out.below hb)
            clear hb hB11
            go_wp2_with fail
            refine (trim_any A1 nt c1 t _ HT.out (by omega) HFT.out SMT.out).mono ?_
            rintro e w11 ⟨A2, c2, t2, rfl, ht2, sm2, hf2, hb⟩
            have hB13 := bnext hB12 hb
            have HT := hid (HT.out.below hb)
            have l2 : t2.length ≤ 1000 := by rw [← frs_len, hf2]; have := trimL_len (frs t); rw [frs_len, Hnt.out] at this; omega
            rw [HSS.out] at hf2
            have Hf2 := hid hf2
            have HT2 := hid ht2
            clear hb hB12 ht2 hf2
            go_wp2_with fail
            refine (rsameframes_any A2 A1 t2.length nt c2 c1 t2 t _ HT2.out HT.out (by omega) (by omega) sm2 SMT.out).mono ?_
            rintro e w12 ⟨rfl, hb⟩
            have hB14 := bnext hB13 hb
            rw [Hf2.out, eqFrs_self]
            go_wp2_with fail
            go_ret
            first | exact ⟨rfl, hB14⟩ | exact ⟨ret_bool (by simp; omega), hB14⟩
        · rw [a1, a2]
          clear a1 a2
          rw [frs_len] at hi' hj'
          rw [frs_at rs i hi', frs_at t j hj'] at a3
          have hin : i < n := by rw [← Hl.out]; exact hi'
          have hjn : j < nt := by rw [← Hnt.out]; exact hj'
          obtain ⟨b, o, rfl, hb, hc⟩ := HL.out.open_ (by omega)
          obtain ⟨b2, o2, rfl, hb2, hc2⟩ := HT.out.open_ (by omega)
          have hz := hB9.size
          have hbr : b < w7.heap.size := by omega
          obtain ⟨c0', c1', c2', -⟩ := hc i hi'
          obtain ⟨d0, d1, d2, -⟩ := hc2 j hj'
          have F0 := cell_all (p := ⟨b, o + i * 4, none⟩) hbr ((hB9.cell hb).trans c0')
          have F1 := cell_all (p := ⟨b, o + i * 4 + 1, none⟩) hbr ((hB9.cell hb).trans c1')
          have F2 := cell_all (p := ⟨b, o + i * 4 + 2, none⟩) hbr ((hB9.cell hb).trans c2')
          have E0 := cell_all (p := ⟨b2, o2 + j * 4, none⟩) hb2 d0
          have E1 := cell_all (p := ⟨b2, o2 + j * 4 + 1, none⟩) hb2 d1
          have E2 := cell_all (p := ⟨b2, o2 + j * 4 + 2, none⟩) hb2 d2
          have p1 := (HL.out.2.2 rs[i] (List.getElem_mem hi')).below hB9
          have p2 := HT.out.2.2 t[j] (List.getElem_mem hj')
          have hsm : samePic rs[i].x.pic t[j].x.pic = true := samePic_iff.2 a3
          have r1 := fun dd os => Ret.regrown (same_pic_any ⟨rs[i].x.pic, rs[i].A, rs[i].n, rs[i].c⟩ ⟨t[j].x.pic, t[j].A, t[j].n, t[j].c⟩ (grow (redrawn w7 dd) os) (p1.all dd os) (p2.all dd os) (SM.out _ (List.getElem_mem hi')) (SMT.out _ (List.getElem_mem hj')))
          simp only [hsm] at r1
          have i1 : decide ((i : Int) < 0) = false := by rw [decide_eq_false_iff_not]; omega
          have i2 : decide ((j : Int) < 0) = false := by rw [decide_eq_false_iff_not]; omega
          have i3 : (0 : Int) ≤ (i : Int) := by omega
          have i4 : (0 : Int) ≤ (j : Int) := by omega
          have i5 : (i : Int) < (n : Int) := by omega
          have i6 : (j : Int) < (nt : Int) := by omega
          clear c0' c1' c2' d0 d1 d2 hc hc2 p1 p2 hsm a3
          go_wp2_with fail
          refine wp_region_quiet_below (by kernel_rfl) (by kernel_rfl) ?_
          repeat (quiet_step (first | (go_at_call 22; exact r1 _ _)))
          (refine wpQuiet_nil ?_; intro _ hw'; obtain ⟨⟨dq, osq⟩, hw''⟩ := hw'; subst hw'')
          have hb3 := below_regrown w7 dq osq
          have hB10 := bnext hB9 hb3
          have HT := hid (HT.out.below hb3)
          clear F0 F1 F2 E0 E1 E2 r1 hB9 hb3 i1 i2 hz hbr hb2
          generalize grow (redrawn w7 dq) osq = w8 at *
          obtain ⟨hm0, hmd⟩ := a4
          generalize hA1 : some (⟨b, o, none⟩ : Addr) = A at *
          generalize hA2 : some (⟨b2, o2, none⟩ : Addr) = A1 at *
          clear hA1 hA2
          go_wp2_with fail
          refine (length_any A1 nt c1 t _ HT.out (by omega) HFT.out).mono ?_
          rintro e w9 ⟨rfl, hb⟩
          have hB11 := bnext hB10 hb
          have HT := hid (HT.out.below hb)
          rw [HDL.out]
          clear hb hB10
          go_wp2_with fail
          refine (length_any A n c rs _ (HL.out.below hB11) (by omega) HF.out).mono ?_
          rintro e w10 ⟨rfl, hb⟩
          have hB12 := bnext hB11 hb
          have HT := hid (HT.out.below hb)
          clear hb hB11
          go_wp2_with fail
          refine (length_any A n c rs _ (HL.out.below hB12) (by omega) HF.out).mono ?_
          rintro e w10 ⟨rfl, hb⟩
          have hB12 := bnext hB12 hb
          have HT := hid (HT.out.below hb)
          clear hb
          go_wp2_with fail
          refine (trim_any A1 nt c1 t _ HT.out (by omega) HFT.out SMT.out).mono ?_
          rintro e w11 ⟨A2, c2, t2, rfl, ht2, sm2, hf2, hb⟩
          have hB13 := bnext hB12 hb
          have HT := hid (HT.out.below hb)
          have l2 : t2.length ≤ 1000 := by rw [← frs_len, hf2]; have := trimL_len (frs t); rw [frs_len, Hnt.out] at this; omega
          rw [HSS.out] at hf2
          have Hf2 := hid hf2
          have HT2 := hid ht2
          clear hb hB12 ht2 hf2
          go_wp2_with fail
          refine (rsameframes_any A2 A1 t2.length nt c2 c1 t2 t _ HT2.out HT.out (by omega) (by omega) sm2 SMT.out).mono ?_
          rintro e w12 ⟨rfl, hb⟩
          have hB14 := bnext hB13 hb
          rw [Hf2.out, eqFrs_self]
          go_wp2_with fail
          go_ret
          first | exact ⟨rfl, hB14⟩ | exact ⟨ret_bool (by simp; omega), hB14⟩
theorem topTrim_row (w : World) (r : FAt (List (FAt FFrame))) (h : Frames w r.A r.n r.x ∧ r.n ≤ r.c ∧ r.c ≤ maxLen ∧ ∀ q ∈ r.x, FrOk w q) (m : Int) (hm : (Lit.int .i64 m).wf = true) :
    Calls Try.prog 5 #[.slice r.A r.n r.c, .int .i64 m] w (Ret (.bool true) w) :=
  topTrim_walk r.A r.n r.c r.x m w h.1 (by have := h.2.1; have := h.2.2.1; omega) (wf_bd hm).2
end Fb
