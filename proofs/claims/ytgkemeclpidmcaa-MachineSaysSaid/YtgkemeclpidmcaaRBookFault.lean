/- ref.BookFault: it returns what the plain law of books says. Condition: few pixels an op. -/
import Derived.Test.YtgkemeclpidmcaaBookCheck
import Derived.Test.YtgkemeclpidmcaaOpFault
set_option linter.unusedSimpArgs false
set_option linter.unusedVariables false
namespace Fb
open Go Go.Proofs Go.RowKit Go.Sort
attribute [local go_sem ↓] Go.wp_at_zero Go.wp_at_succ
set_option maxRecDepth 100000 in
set_option maxHeartbeats 4000000 in
theorem rbookfault_any (A : Option Addr) (n c : Nat) (rs : List (FAt FOp)) (w : World) (h : Ops w A n rs) (hs : ∀ r ∈ rs, r.n ≤ 100) (hn : n ≤ 1000000) :
    Calls Try.prog 21 #[.slice A n c] w (Ret (.int .i64 (bookFault (datO rs))) w) := by
  have hlen := h.1
  have hln := datO_len rs
  rw [hlen] at hln
  by_cases h2 : n < 2
  · have hV := hid (bookFault_head (l := datO rs) (Or.inl (by omega)))
    have i2 : (n : Int) < 2 := by omega
    clear h hs hlen hln
    go_enter Try.func21, Try.ntmps21
    go_wp2_with fail
    go_ret
    exact ⟨by rw [hV.out]; rfl, Below.refl _ _⟩
  obtain ⟨b, off, rfl, hb, hat⟩ := Ops.open_ h (by omega)
  have i2 : ¬ (n : Int) < 2 := by omega
  have i0 : (0 : Int) < (n : Int) := by omega
  have e1 : IntKind.i64.wrap ((n : Int) - 1) = ((n - 1 : Nat) : Int) := by rw [show (n : Int) - 1 = ((n - 1 : Nat) : Int) by omega]; exact IntWalk.i64_in _ (by omega)
  have i1 : ((n - 1 : Nat) : Int) < (n : Int) := by omega
  have H := hid h
  have HS := hid hs
  have HA := hid hat
  have c0 := (hat 0 (by omega)).1
  have cl := (hat (n - 1) (by omega)).1
  have k0 := datO_at (rs := rs) (k := 0) (by omega)
  have kl := datO_at (rs := rs) (k := n - 1) (by omega)
  have hx0 : rs[0].x.kind = (opAt (datO rs) 0).kind := by rw [k0]
  have hxl : (rs[n - 1]).x.kind = (opAt (datO rs) (n - 1)).kind := by rw [kl]
  rw [hx0] at c0
  rw [hxl] at cl
  simp only [Nat.zero_mul, Nat.add_zero] at c0
  have HH := hid (fun hc => bookFault_head (l := datO rs) hc)
  have HM := hid (fun hc => bookFault_many (l := datO rs) hc)
  have HG := hid (fun hc => bookFault_go (l := datO rs) hc)
  rw [hln] at HH HM HG
  clear h hs hat k0 kl hx0 hxl
  obtain ⟨f0, hf0⟩ : ∃ f, (opAt (datO rs) 0).kind = f := ⟨_, rfl⟩
  obtain ⟨fl, hfl⟩ : ∃ f, (opAt (datO rs) (n - 1)).kind = f := ⟨_, rfl⟩
  rw [hf0] at HH HM HG c0
  rw [hfl] at HH HM HG cl
  clear hf0 hfl
  by_cases hk0 : f0 = 1
  case neg =>
    have hV := hid (HH.out (Or.inr (Or.inl hk0)))
    go_enter Try.func21, Try.ntmps21
    go_wp2_with fail
    go_ret
    exact ⟨by rw [hV.out]; rfl, Below.refl _ _⟩
  by_cases hkl : fl = 16
  case neg =>
    have hV := hid (HH.out (Or.inr (Or.inr hkl)))
    go_enter Try.func21, Try.ntmps21
    go_wp2_with fail
    go_ret
    exact ⟨by rw [hV.out]; rfl, Below.refl _ _⟩
  have hno : ¬ (n < 2 ∨ f0 ≠ 1 ∨ fl ≠ 16) := by
    rintro (hh | hh | hh)
    · exact h2 hh
    · exact hh hk0
    · exact hh hkl
  by_cases h60 : 60 < n
  · have hV := hid (HM.out hno h60)
    have i60 : (60 : Int) < (n : Int) := by omega
    clear hno
    go_enter Try.func21, Try.ntmps21
    go_wp2_with fail
    go_ret
    exact ⟨by rw [hV.out]; rfl, Below.refl _ _⟩
  have i60 : ¬ (60 : Int) < (n : Int) := by omega
  have hV := hid (HG.out hno h60)
  clear hno HG HM HH
  go_enter Try.func21, Try.ntmps21
  go_wp2_with fail
  clear e1 i1 c0 cl i0 i2
  go_loopw [4, 5] (fun dv iv wr => ∃ k d : Nat, k ≤ n ∧ d ≤ 3 ∧ iv = .int .i64 k ∧ dv = .int .i64 d ∧ Hid (bookFault (datO rs) = bookGo n ((datO rs).drop k) k d) ∧ Hid (Below w.heap.size w wr)) (fun _ iv _ => n - (intOf iv).toNat)
  case atStart => exact ⟨0, 0, by omega, by omega, rfl, rfl, hV, hid (Below.refl _ _)⟩
  case round =>
    obtain ⟨k, d, hk, hd, rfl, rfl, HF, HB⟩ := hrel
    clear hV
    by_cases hlt : k < n
    · have hkr : k < rs.length := by omega
      have hdr := HF.out
      rw [datO_drop hkr] at hdr
      have hc := OpCells.below (HA.out k hkr) HB.out hb
      have hpx := (H.out.2.2 _ (List.getElem_mem hkr)).below HB.out
      have hps := HS.out _ (List.getElem_mem hkr)
      obtain ⟨⟨⟨kk, i, a, bb, cc, dd, ⟨pw, ph, pl⟩⟩, qA, qn, qc⟩, hr⟩ : ∃ r, rs[k] = r := ⟨_, rfl⟩
      rw [hr] at hdr hc hpx hps
      obtain ⟨c0, c1, c2, c3, c4, c5, c6, c7, c8⟩ := hc
      simp only at c0 c1 c2 c3 c4 c5 c6 c7 c8 hpx hps hdr
      have HD := hid hdr
      have HC := hid (show OpCells wr b (off + k * 9) ⟨⟨kk, i, a, bb, cc, dd, ⟨pw, ph, pl⟩⟩, qA, qn, qc⟩ from ⟨c0, c1, c2, c3, c4, c5, c6, c7, c8⟩)
      have OC := hid (ropfault_any ⟨⟨kk, i, a, bb, cc, dd, ⟨pw, ph, pl⟩⟩, qA, qn, qc⟩ wr hpx hps)
      unfold opV at OC
      simp only at OC
      have i1 : (0 : Int) ≤ (k : Int) := by omega
      have i2 : (k : Int) < (n : Int) := by omega
      have hbz := Nat.lt_of_lt_of_le hb HB.out.size
      clear hr hdr hpx HF
      go_wp2_with fail
      refine OC.out.mono ?_
      rintro e w2 ⟨rfl, hb2⟩
      have HB2 := hid (bnext HB.out hb2)
      have HC2 := hid (OpCells.below HC.out hb2 hbz)
      clear c0 c1 c2 c3 c4 c5 c6 c7 c8 HC HB hb2 OC
      have c0 := HC2.out.1
      simp only at c0
      by_cases hf : opFault ⟨kk, i, a, bb, cc, dd, ⟨pw, ph, pl⟩⟩ = 0
      case neg =>
        have hR := hid (HD.out.trans (bookGo_op hf))
        have hpos : (0 : Int) < ((opFault ⟨kk, i, a, bb, cc, dd, ⟨pw, ph, pl⟩⟩ : Nat) : Int) := by omega
        clear hf
        generalize opFault ⟨kk, i, a, bb, cc, dd, ⟨pw, ph, pl⟩⟩ = F at *
        go_wp2_with fail
        go_ret
        exact ⟨by rw [hR.out]; rfl, HB2.out⟩
      rw [hf]
      have hways := book_ways kk k n d hd
      have en : IntKind.i64.wrap ((n : Int) - 1) = (n : Int) - 1 := IntWalk.i64_in _ (by omega)
      have Hf := hid hf
      clear hf
      rcases hways with hw | hw | hw | hw | hw | hw | hw | hw | hw
      · have hR := hid (HD.out.trans (bookGo_place Hf.out (Or.inl hw)))
        obtain ⟨rfl, hw2⟩ := hw
        have i3 : (0 : Int) < (k : Int) := by omega
        go_wp2_with fail
        go_ret
        exact ⟨by rw [hR.out]; rfl, HB2.out⟩
      · have hR := hid (HD.out.trans (bookGo_place Hf.out (Or.inr hw)))
        obtain ⟨rfl, hw2⟩ := hw
        have i3 : (k : Int) < (n : Int) - 1 := by omega
        go_wp2_with fail
        go_ret
        exact ⟨by rw [hR.out]; rfl, HB2.out⟩
      · have hR := hid (HD.out.trans (bookGo_deep Hf.out hw.1 hw.2))
        obtain ⟨rfl, rfl⟩ := hw
        have hR2 := hid hR.out
        clear hR
        go_wp2_with fail
        go_ret
        exact ⟨by rw [hR2.out]; rfl, HB2.out⟩
      · have hR := hid (HD.out.trans (bookGo_low Hf.out hw.1 hw.2))
        obtain ⟨rfl, rfl⟩ := hw
        have hR2 := hid hR.out
        clear hR
        go_wp2_with fail
        go_ret
        exact ⟨by rw [hR2.out]; rfl, HB2.out⟩
      · have hR := hid (HD.out.trans (bookGo_in Hf.out hw.1 hw.2))
        obtain ⟨rfl, hw2⟩ := hw
        have hR2 := hid hR.out
        have i3 : ¬ (3 : Int) < (d : Int) + 1 := by omega
        clear hR
        go_wp2_with fail
        go_roundw
        case rel => exact ⟨k + 1, d + 1, by omega, by omega, by go_num, by go_num, hR2, HB2⟩
        case measure => simp [intOf]; omega
      · have hR := hid (HD.out.trans (bookGo_out Hf.out hw.1 hw.2))
        obtain ⟨rfl, hw2⟩ := hw
        have hR2 := hid hR.out
        obtain ⟨d0, rfl⟩ : ∃ d0, d = d0 + 1 := ⟨d - 1, by omega⟩
        clear hR
        go_wp2_with fail
        go_roundw
        case rel => exact ⟨k + 1, d0, by omega, by omega, by go_num, by go_num, hR2, HB2⟩
        case measure => simp [intOf]; omega
      · have hR := hid (HD.out.trans (bookGo_next Hf.out (by show ¬ ((kk = 1 ∧ _) ∨ (kk = 16 ∧ _)); omega) (by show kk ≠ 12; omega) (by show kk ≠ 13; omega)))
        obtain ⟨rfl, hw2⟩ := hw
        have hR2 := hid hR.out
        have i3 : ¬ (0 : Int) < (k : Int) := by omega
        have c9 := c0
        rw [hw2, Nat.zero_mul, Nat.add_zero] at c9
        clear hR
        go_wp2_with fail
        go_roundw
        case rel => exact ⟨k + 1, d, by omega, by omega, by go_num, by go_num, hR2, HB2⟩
        case measure => simp [intOf]; omega
      · have hR := hid (HD.out.trans (bookGo_next Hf.out (by show ¬ ((kk = 1 ∧ _) ∨ (kk = 16 ∧ _)); omega) (by show kk ≠ 12; omega) (by show kk ≠ 13; omega)))
        obtain ⟨rfl, hw2⟩ := hw
        have hR2 := hid hR.out
        have i3 : ¬ (k : Int) < (n : Int) - 1 := by omega
        clear hR
        go_wp2_with fail
        go_roundw
        case rel => exact ⟨k + 1, d, by omega, by omega, by go_num, by go_num, hR2, HB2⟩
        case measure => simp [intOf]; omega
      · have hR := hid (HD.out.trans (bookGo_next Hf.out (by show ¬ ((kk = 1 ∧ _) ∨ (kk = 16 ∧ _)); omega) (by show kk ≠ 12; omega) (by show kk ≠ 13; omega)))
        obtain ⟨h1, h3, h4, h5⟩ := hw
        have hR2 := hid hR.out
        clear hR
        go_wp2_with fail
        go_roundw
        case rel => exact ⟨k + 1, d, by omega, by omega, by go_num, by go_num, hR2, HB2⟩
        case measure => simp [intOf]; omega
    · obtain rfl : k = n := by omega
      have hE := HF.out
      rw [List.drop_of_length_le (by omega), bookGo_end] at hE
      have HE := hid hE
      clear hE HF
      by_cases hd0 : 0 < d
      · have i3 : (0 : Int) < (d : Int) := by omega
        have HE2 := hid (HE.out.trans (if_pos hd0))
        clear HE
        go_wp2_with fail
        go_ret
        exact ⟨by rw [HE2.out]; rfl, HB.out⟩
      · have i3 : ¬ (0 : Int) < (d : Int) := by omega
        have HE2 := hid (HE.out.trans (if_neg hd0))
        clear HE
        go_wp2_with fail
        go_ret
        exact ⟨by rw [HE2.out]; rfl, HB.out⟩
end Fb
