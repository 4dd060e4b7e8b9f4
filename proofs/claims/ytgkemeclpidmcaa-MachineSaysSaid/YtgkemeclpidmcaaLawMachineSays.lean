/- The law MachineSays: it returns true. Condition: the arguments' shape. -/
import Derived.Test.YtgkemeclpidmcaaMachBoth
import Derived.Test.YtgkemeclpidmcaaOpen2
import Derived.Test.YtgkemeclpidmcaaRows
set_option linter.unusedSimpArgs false
set_option linter.unusedVariables false
namespace Fb
open Go Go.Proofs Go.RowKit Go.Sort
attribute [local go_sem ↓] Go.wp_at_zero Go.wp_at_succ
set_option maxRecDepth 100000 in
set_option maxHeartbeats 16000000 in
theorem machineSays_walk (A : Option Addr) (n c : Nat) (rs : List (FAt FOp)) (fuel : Int) (w : World) (hl : Ops w A n rs) (hn : n ≤ maxLen) (h1 : (Lit.int .i64 fuel).wf = true) :
    Calls Try.prog 3 #[.slice A n c, .int .i64 fuel] w (Ret (.bool true) w) := by
  have HL := hid hl
  clear hl
  go_enter Try.func3, Try.ntmps3
  go_wp2_with fail
  refine (lmachines_any w).mono ?_
  rintro e w1 ⟨rfl, hb1⟩
  go_wp2_with fail
  refine (lightops_any A n c rs 70 w1 (HL.out.below hb1) (by omega) hn).mono ?_
  rintro e w2 ⟨rfl, hb2⟩
  have hB2 := bnext hb1 hb2
  clear hb1 hb2
  by_cases hlo : (decide (n ≤ 70) && lightOB rs) = true
  case neg =>
    rw [show (decide (n ≤ 70) && lightOB rs) = false by simpa using hlo]
    go_wp2_with fail
    go_ret
    exact ⟨rfl, hB2⟩
  rw [hlo]
  simp only [Bool.and_eq_true, decide_eq_true_eq] at hlo
  have hs := hid (light_small hlo.2)
  have hn70 := hlo.1
  clear hlo hn
  go_wp2_with fail
  refine (mplay_any A n c rs fuel w2 (HL.out.below hB2) hs.out (by omega) h1).mono ?_
  rintro e w3 ⟨A3, n3, c3, rs3, rfl, hf3, -, -, hd3, hb3⟩
  have hB3 := bnext hB2 hb3
  have HF3 := hid hf3
  have HD3 := hid hd3
  clear hf3 hd3 hb3 hB2
  go_wp2_with fail
  refine (rplayed_any A n c rs fuel w3 (HL.out.below hB3) hs.out (by omega)).mono ?_
  rintro e w4 ⟨A4, n4, c4, rs4, rfl, hf4, hd4, hb4⟩
  have hB4 := bnext hB3 hb4
  have HF4 := hid hf4
  have HD4 := hid hd4
  have HF3 := hid (HF3.out.belowT hb4)
  clear hf4 hd4 hb4 hB3
  have HP := hid (play_fine (datO rs) fuel)
  obtain ⟨f0, hf0⟩ : ∃ f0, (playP (datO rs) fuel).2 = f0 := ⟨_, rfl⟩
  have hle : f0 ≤ 100 := by rw [← hf0]; have := playP_le (datO rs) fuel; omega
  rw [hf0]
  have CS := same_any f0 f0 w4 hle
  rw [sameB_self] at CS
  clear hf0
  go_wp2_with fail
  refine CS.mono ?_
  rintro e w5 ⟨rfl, hb5⟩
  have hB5 := bnext hB4 hb5
  have CF := sameframes_true (c := c3) (d := c4) (HF3.out.belowT hb5) (HF4.out.belowT hb5) HD3.out HD4.out HP.out.1 HP.out.2
  clear hB4 hb5 CS
  go_wp2_with fail
  refine CF.mono ?_
  rintro e w6 ⟨rfl, hb6⟩
  have hB6 := bnext hB5 hb6
  clear hB5 hb6 CF HF3 HF4 HD3 HD4 HP
  go_wp2_with fail
  by_cases hf : bookFault (datO rs) = 0
  case neg =>
    refine (mnew_bad A n c rs w6 (HL.out.below hB6) hs.out (by omega) hf).mono ?_
    rintro e w7 ⟨rfl, hb7⟩
    have hB7 := bnext hB6 hb7
    have C := rbookfault_any A n c rs w7 (HL.out.below hB7) hs.out (by omega)
    have hfl := bookFault_le (datO rs)
    obtain ⟨f, hF⟩ : ∃ f, bookFault (datO rs) = f := ⟨_, rfl⟩
    rw [hF] at C hf hfl ⊢
    have i0 : (0 : Int) < (f : Int) := by omega
    clear hF
    go_wp2_with fail
    refine C.mono ?_
    rintro e w8 ⟨rfl, hb8⟩
    have hB8 := bnext hB7 hb8
    have CS := same_any f f w8 (by omega)
    rw [sameB_self] at CS
    go_wp2_with fail
    refine CS.mono ?_
    rintro e w9 ⟨rfl, hb9⟩
    go_wp2_with fail
    go_ret
    exact ⟨rfl, bnext hB8 hb9⟩
  have hbf := book_fine hf
  refine (mnew_ok A n c rs w6 (HL.out.below hB6) hs.out (by omega) hbf).mono ?_
  rintro e w7 ⟨g, m, rfl, hm, hb7⟩
  have hB7 := bnext hB6 hb7
  have C := rbookfault_any A n c rs w7 (HL.out.below hB7) hs.out (by omega)
  rw [hf] at C
  have HM := hid hm
  have HF := hid hbf
  clear hm hbf hf
  go_wp2_with fail
  refine C.mono ?_
  rintro e w8 ⟨rfl, hb8⟩
  have hB8 := bnext hB7 hb8
  have HM8 := hid (HM.out.below hb8)
  obtain ⟨l, hl⟩ : ∃ l, datO rs = l := ⟨_, rfl⟩
  have hbfl := HF.out.two
  rw [hl] at hbfl
  have hlen : l.length = n := by have h2 := HL.out.1; have h3 := datO_len rs; rw [hl] at h3; omega
  obtain ⟨lb, lo, q1, hlA, hlb, -⟩ := ops_at HL.out (k := 0) (by have := hbfl; omega)
  subst hlA
  obtain ⟨W2, hW2⟩ : ∃ W2, W2 = w8.alloc (.cells #[.slice (some ⟨lb, lo, none⟩) n c, .int .i64 0, .slice none 0 0, .slice none 0 0, .slice none 0 0, .int .i64 0, .int .i64 0, .slice none 0 0] 44) := ⟨_, rfl⟩
  have hb2 : Below w8.heap.size w8 W2 := by rw [hW2]; exact (Below.refl _ _).alloc (Nat.le_refl _) _
  obtain ⟨y, hy⟩ : ∃ y, y = w8.heap.size := ⟨_, rfl⟩
  have hX2 : W2.heap[y]? = some (.cells #[.slice (some ⟨lb, lo, none⟩) n c, .int .i64 0, .slice none 0 0, .slice none 0 0, .slice none 0 0, .int .i64 0, .int .i64 0, .slice none 0 0] 44) := by rw [hW2, hy]; exact heap_alloc_new w8 _
  rw [hl] at HM8 HF
  obtain ⟨B, hBB⟩ : ∃ B, B = w6.heap.size := ⟨_, rfl⟩
  rw [← hBB] at HM8
  obtain ⟨r0, hI0⟩ := both_new (c := c) HM8.out (by have := hB6.size; omega) HL.out hs.out hl hB8 hy hb2 hX2
  have HI0 := hid hI0
  have HO0 := hid (m0_ok HF.out)
  have HE := hid hl
  clear hX2 hb2 hI0 HM HM8 C hb7 hb8 hB6 hB7 hB8 hBB hs hl
  go_upto_region 15 with fail
  rw [← hW2, ← hy]
  clear hW2 hy
  go_upto_region 16 with fail
  go_loopw [14] (fun iv wr => ∃ (k : Nat) (s : MSt) (r : RSl), k ≤ 150 ∧ iv = .int .i64 k ∧ Hid (MOk l s) ∧ Hid (Inv2 l s s B g y r w wr)) (fun iv _ => 150 - (intOf iv).toNat)
  case atStart => exact ⟨0, m0, r0, by omega, rfl, HO0, HI0⟩
  case round =>
    obtain ⟨k, s, r, hk, rfl, Hok, HI⟩ := hrel
    clear HI0 HO0 r0 m
    obtain ⟨W9, rfl⟩ : ∃ W9 : World, W9 = wr := ⟨_, rfl⟩
    by_cases hlt : k < 150
    · have i1 : (k : Int) < 150 := by omega
      go_wp2_with fail
      refine (both_ref HI.out HF.out Hok.out).mono ?_
      rintro e W1 ⟨rfl, r1, hI1⟩
      have HI1 := hid hI1
      have Hok2 := hid (step_ok HF.out Hok.out)
      have hf7 := step_le (l := l) (s := s)
      have hat := Hok2.out.at_
      obtain ⟨f, hf⟩ : ∃ f, (stepP l s).2 = f := ⟨_, rfl⟩
      obtain ⟨s2, hs2⟩ : ∃ s2, (stepP l s).1 = s2 := ⟨_, rfl⟩
      have c1 := fun W (h : Inv2 l s s2 B g y r1 w W) => both_step h hs2 HF.out Hok.out
      rw [hs2] at HI1 Hok2 hat
      rw [hf] at hf7 c1 ⊢
      have C1 := hid c1
      obtain ⟨lb2, lo2, q0, hlA, -, hr0, hlc⟩ := ops_at HL.out (k := s2.at_) (by omega)
      injection hlA with hlA
      injection hlA with hl1 hl2 _
      subst hl1 hl2
      have he0 := ops_fst HE.out hr0
      have y0 := hlc 0 _ rfl
      rw [← he0, Nat.add_zero] at y0
      have c4 := fun W (h : Inv2 l s2 s2 B g y r1 w W) => both_done h hat
      obtain ⟨kk, hkk⟩ : ∃ kk, (opAt l s2.at_).kind = kk := ⟨_, rfl⟩
      rw [hkk] at y0 c4
      have C2 := hid (fun W (h : Inv2 l s2 s2 B g y r1 w W) => both_same (f := f) h (by omega))
      have C3 := hid (fun W (h : Inv2 l s2 s2 B g y r1 w W) => both_at h)
      have C4 := hid c4
      have C5 := hid (fun W (h : Inv2 l s2 s2 B g y r1 w W) => both_objs h Hok2.out)
      have C6 := hid (fun W (A : Option Addr) (n c : Nat) (h : Inv2 l s2 s2 B g y r1 w W) (ho : ObsX s2.objs A n W) => both_sameobs (c := c) h ho Hok2.out)
      have C7 := hid (fun W (h : Inv2 l s2 s2 B g y r1 w W) => both_frames h Hok2.out)
      have C8 := hid (fun W (A : Option Addr) (n c : Nat) (h : Inv2 l s2 s2 B g y r1 w W) (ho : FrsX s2.frames A n W) => both_sameframes (c := c) h ho Hok2.out)
      have K0 := hid (fun W (h : Inv2 l s s2 B g y r1 w W) => h.see hlb y0)
      have K1 := hid (fun W (h : Inv2 l s2 s2 B g y r1 w W) => h.see hlb y0)
      have k0 : (0 : Int) ≤ (s2.at_ : Int) := by omega
      have k1 : (s2.at_ : Int) < (n : Int) := by omega
      have HI : Inv2 l s s2 B g y r1 w W1.drew := HI1.out.below (Below.refl _ _).drew
      clear hI1 hlc hr0 he0 hkk c1 c4 hf hs2 y0 hat HI1 hlen
      go_upto_region 19 with fail
      go_cut [125] from 72 to 127 (fun t wi => t = .bool false ∧ Hid (Inv2 l s2 s2 B g y r1 w wi))
      case first =>
        go_region_held3 (fun W => W.cell? ⟨y, 1, none⟩ = some (.int .i64 (s2.at_ : Int)) ∧ W.cell? ⟨lb, lo + s2.at_ * 9, none⟩ = some (.int .i64 kk) ∧ W.cell? ⟨y, 3, none⟩ = some (.slice r1.oA r1.on r1.oc) ∧ W.cell? ⟨y, 7, none⟩ = some (.slice r1.fA r1.fn r1.fc)) (first | with_reducible exact K1.out _ HJ | with_reducible exact K0.out _ HI)
          (first
            | (go_at_call 23; (with_reducible refine (C1.out _ HI).mono ?_); rintro e w' ⟨rfl, HJ⟩)
            | (go_at_call 18; (with_reducible refine (C2.out _ HJ).mono ?_); rintro e w' ⟨rfl, HJ2⟩; clear HJ; have HJ := HJ2; clear HJ2)
            | (go_at_call 24; (with_reducible refine (C3.out _ HJ).mono ?_); rintro e w' ⟨rfl, HJ2⟩; clear HJ; have HJ := HJ2; clear HJ2)
            | (go_at_call 25; (with_reducible refine (C4.out _ HJ).mono ?_); rintro e w' ⟨rfl, HJ2⟩; clear HJ; have HJ := HJ2; clear HJ2)
            | (go_at_call 27; (with_reducible refine (C5.out _ HJ).mono ?_); rintro e w' ⟨AO, nO, cO, rfl, HO, HJ2⟩; clear HJ; have HJ := HJ2; clear HJ2)
            | (go_at_call 26; (with_reducible refine (C6.out _ _ _ _ HJ HO).mono ?_); rintro e w' ⟨rfl, HJ2⟩; clear HJ HO; have HJ := HJ2; clear HJ2)
            | (go_at_call 28; (with_reducible refine (C7.out _ HJ).mono ?_); rintro e w' ⟨AF, nF, cF, rfl, HO, HJ2⟩; clear HJ; have HJ := HJ2; clear HJ2)
            | (go_at_call 19; (with_reducible refine (C8.out _ _ _ _ HJ HO).mono ?_); rintro e w' ⟨rfl, HJ2⟩; clear HJ HO; have HJ := HJ2; clear HJ2))
        all_goals (go_wp2_with fail)
        all_goals go_meet
        all_goals exact ⟨rfl, hid HJ⟩
      case rest =>
        obtain ⟨rfl, HI2⟩ := hcut
        obtain ⟨W3, rfl⟩ : ∃ W3 : World, W3 = wc := ⟨_, rfl⟩
        by_cases hz : f = 0
        · subst hz
          have e1 : IntKind.i64.wrap ((k : Int) + 1) = (k : Int) + 1 := IntWalk.i64_in _ (by omega)
          go_wp2_with fail
          go_roundw
          case rel => exact ⟨k + 1, s2, r1, by omega, by go_num, Hok2, HI2⟩
          case measure => simp [intOf]; omega
        · have i3 : (0 : Int) < (f : Int) := by omega
          go_wp2_with fail
          go_ret
          exact ⟨rfl, HI2.out.old⟩
    · have i1 : ¬ (k : Int) < 150 := by omega
      go_wp2_with fail
      go_ret
      exact ⟨rfl, HI.out.old⟩
theorem machineSays_row (w : World) (r : FAt (List (FAt FOp))) (h : Ops w r.A r.n r.x ∧ r.n ≤ r.c ∧ r.c ≤ maxLen ∧ ∀ q ∈ r.x, OpOk w q) (fuel : Int) (h1 : (Lit.int .i64 fuel).wf = true) :
    Calls Try.prog 3 #[.slice r.A r.n r.c, .int .i64 fuel] w (Ret (.bool true) w) :=
  machineSays_walk r.A r.n r.c r.x fuel w h.1 (Nat.le_trans h.2.1 h.2.2.1) h1
end Fb
