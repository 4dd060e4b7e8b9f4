/- The law TopFuel: it returns true. Condition: the arguments' shape. -/
import Derived.Test.YtgkemeclpidmcaaMachAll
import Derived.Test.YtgkemeclpidmcaaReelLight
import Derived.Test.YtgkemeclpidmcaaSameWalk
import Derived.Test.YtgkemeclpidmcaaOpen2
import Derived.Test.YtgkemeclpidmcaaRows
namespace Fb
open Go Go.Proofs Go.RowKit Go.Sort
attribute [local go_sem ↓] Go.wp_at_zero Go.wp_at_succ
theorem Frames.belowT {w w' : World} {A : Option Addr} {n : Nat} {rs : List (FAt FFrame)} (h : Frames w A n rs) (hb : Below w.heap.size w w') : Frames w' A n rs := ⟨h.1, h.2.1.below hb, fun r hr => (h.2.2 r hr).below hb⟩
theorem play_fine (l : List FOp) (fuel : Int) : (playP l fuel).1.length ≤ 40 ∧ ∀ f ∈ (playP l fuel).1, PicFine f.pic := by
  unfold playP
  by_cases hf : bookFault l = 0
  · rw [if_neg (by omega)]
    have h := runM_ok (book_fine hf) (fuelN fuel) m0 (m0_ok (book_fine hf))
    unfold endM
    split
    · exact ⟨by simp, fun f h => by simp at h⟩
    · split
      · exact ⟨by simp, fun f h => by simp at h⟩
      · exact ⟨h.few, fun f hf => (h.pics f hf).1⟩
  · rw [if_pos hf]
    exact ⟨by simp, fun f h => by simp at h⟩
theorem frames_small {w : World} {A : Option Addr} {n : Nat} {rs : List (FAt FFrame)} {X : List FFrame} (h : Frames w A n rs) (hd : frD rs = X) (hl : X.length ≤ 40) (hp : ∀ f ∈ X, PicFine f.pic) : n ≤ 1000000 ∧ Small rs := by
  subst hd
  unfold frD at hl
  rw [List.length_map, h.1] at hl
  refine ⟨by omega, fun r hr => ?_⟩
  have h1 := h.2.2 r hr
  have h2 := pic_len (hp r.x (List.mem_map.2 ⟨r, hr, rfl⟩))
  have := h1.1
  omega
set_option maxRecDepth 100000 in
set_option maxHeartbeats 8000000 in
theorem topFuel_walk (A : Option Addr) (n c : Nat) (rs : List (FAt FOp)) (fuel more : Int) (w : World) (hl : Ops w A n rs) (hn : n ≤ maxLen) (h1 : (Lit.int .i64 fuel).wf = true) (_h2 : (Lit.int .i64 more).wf = true) :
    Calls Try.prog 4 #[.slice A n c, .int .i64 fuel, .int .i64 more] w (Ret (.bool true) w) := by
  have HL := hid hl
  clear hl
  go_enter Try.func4, Try.ntmps4
  go_wp2_with fail
  refine (mworks_any w).mono ?_
  rintro e w1 ⟨rfl, hb1⟩
  go_wp2_with fail
  refine (mmay_any A n c rs w1 (HL.out.below hb1) hn).mono ?_
  rintro e w2 ⟨rfl, hb2⟩
  have hB2 := bnext hb1 hb2
  by_cases hm : mayB n rs = true
  case neg =>
    rw [show mayB n rs = false by simpa using hm]
    go_wp2_with fail
    go_ret
    exact ⟨rfl, hB2⟩
  rw [hm]
  obtain ⟨m1, m2, m3⟩ := may_iff.1 hm
  have hs := light_small m2
  by_cases c1 : more < 0
  · go_wp2_with fail
    go_ret
    exact ⟨rfl, hB2⟩
  by_cases c2 : 1000 < fuel
  · go_wp2_with fail
    go_ret
    exact ⟨rfl, hB2⟩
  by_cases c3 : 1000 < more
  · go_wp2_with fail
    go_ret
    exact ⟨rfl, hB2⟩
  have e1 : IntKind.i64.wrap (fuel + more) = fuel + more := IntWalk.i64_in _ (by have := bounds_i64 h1; omega)
  have h3 : (Lit.int .i64 (fuel + more)).wf = true := WalkArith.wf_i64 (by have := bounds_i64 h1; omega)
  go_wp2_with fail
  refine (mplay_any A n c rs fuel w2 (HL.out.below hB2) hs (by omega) h1).mono ?_
  rintro e w3 ⟨A3, n3, c3', rs3, rfl, hf3, -, -, hd3, hb3⟩
  have hB3 := bnext hB2 hb3
  go_wp2_with fail
  refine (mplay_any A n c rs (fuel + more) w3 (HL.out.below hB3) hs (by omega) h3).mono ?_
  rintro e w4 ⟨A4, n4, c4, rs4, rfl, hf4, -, -, hd4, hb4⟩
  have hB4 := bnext hB3 hb4
  have F3 := hid (hf3.belowT hb4)
  have F4 := hid hf4
  have P1 := play_fine (datO rs) fuel
  have P2 := play_fine (datO rs) (fuel + more)
  have L1 := playP_le (datO rs) fuel
  have L2 := playP_le (datO rs) (fuel + more)
  have HE := hid (play_empty (l := datO rs) (f := fuel))
  have HM := hid (play_more (l := datO rs) (f := fuel) (m := more) (by omega))
  obtain ⟨⟨X1, f1⟩, hX1⟩ : ∃ x, playP (datO rs) fuel = x := ⟨_, rfl⟩
  obtain ⟨⟨X2, f2⟩, hX2⟩ : ∃ x, playP (datO rs) (fuel + more) = x := ⟨_, rfl⟩
  rw [hX1] at hd3 P1 L1 HE HM ⊢
  rw [hX2] at hd4 P2 L2 HM ⊢
  simp only at hd3 hd4 P1 P2 L1 L2 HE HM ⊢
  have S3 := frames_small hf3 hd3 P1.1 P1.2
  have S4 := frames_small hf4 hd4 P2.1 P2.2
  clear hf3 hf4 hX1 hX2 m1 m2 m3 hm hs
  go_wp2_with fail
  refine (number_any f1 w4 (by omega)).mono ?_
  rintro e w5 ⟨rfl, hb5⟩
  have hB5 := bnext hB4 hb5
  by_cases h8 : f1 = 8
  · subst h8
    have h0 : n3 = 0 := by
      have := HE.out (by omega)
      subst this
      have h9 := F3.out.1
      unfold frD at hd3
      have := congrArg List.length hd3
      simp at this
      rw [this] at h9
      exact h9.symm
    subst h0
    go_wp2_with fail
    go_ret
    exact ⟨rfl, hB5⟩
  · have hX := HM.out h8
    injection hX with hX hf
    subst hX hf
    have hz : ((f2 : Int) == 8) = false := by simp; omega
    go_wp2_with fail
    refine (number_any f2 w5 (by omega)).mono ?_
    rintro e w6 ⟨rfl, hb6⟩
    have hB6 := bnext hB5 hb6
    go_wp2_with fail
    refine (number_any f2 w6 (by omega)).mono ?_
    rintro e w7 ⟨rfl, hb7⟩
    have hB7 := bnext hB6 hb7
    go_wp2_with fail
    refine (rsameframes_any A3 A4 n3 n4 c3' c4 rs3 rs4 w7 (F3.out.belowT (bnext hb5 (bnext hb6 hb7))) (F4.out.belowT (bnext hb5 (bnext hb6 hb7))) S3.1 S4.1 S3.2 S4.2).mono ?_
    rintro e w8 ⟨rfl, hb8⟩
    rw [show frs rs3 = frs rs4 from (show frD rs3 = frD rs4 by rw [hd3, hd4]), eqFrs_self]
    go_wp2_with fail
    go_ret
    exact ⟨rfl, bnext hB7 hb8⟩
theorem topFuel_row (w : World) (r : FAt (List (FAt FOp))) (h : Ops w r.A r.n r.x ∧ r.n ≤ r.c ∧ r.c ≤ maxLen ∧ ∀ q ∈ r.x, OpOk w q) (fuel : Int) (h1 : (Lit.int .i64 fuel).wf = true) (more : Int) (h2 : (Lit.int .i64 more).wf = true) :
    Calls Try.prog 4 #[.slice r.A r.n r.c, .int .i64 fuel, .int .i64 more] w (Ret (.bool true) w) :=
  topFuel_walk r.A r.n r.c r.x fuel more w h.1 (Nat.le_trans h.2.1 h.2.2.1) h1 h2
end Fb
