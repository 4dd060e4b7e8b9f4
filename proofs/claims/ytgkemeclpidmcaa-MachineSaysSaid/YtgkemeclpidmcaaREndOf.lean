/- ref.EndOf: it returns the end of a loop. Conditions: a book's loop. -/
import Derived.Test.YtgkemeclpidmcaaBookClose
import Derived.Test.YtgkemeclpidmcaaBlend
import Derived.BigQuiet
set_option linter.unusedSimpArgs false
set_option linter.unusedVariables false
namespace Fb
open Go Go.Proofs Go.RowKit Go.Sort Go.Maps
attribute [local go_sem ↓] Go.wp_at_zero Go.wp_at_succ
/-! ## ref.EndOf -/
theorem endGo_in {n k d : Nat} {o : FOp} {r : List FOp} (h : o.kind = 12) : endGo n (o :: r) k d = endGo n r (k + 1) (d + 1) := by rw [endGo, if_pos h]
theorem endGo_hit {n k d : Nat} {o : FOp} {r : List FOp} (h : o.kind = 13) (hd : d ≤ 1) : endGo n (o :: r) k d = k := by rw [endGo, if_neg (by omega), if_pos h, if_pos hd]
theorem endGo_out {n k d : Nat} {o : FOp} {r : List FOp} (h : o.kind = 13) (hd : ¬ d ≤ 1) : endGo n (o :: r) k d = endGo n r (k + 1) (d - 1) := by rw [endGo, if_neg (by omega), if_pos h, if_neg hd]
theorem endGo_next {n k d : Nat} {o : FOp} {r : List FOp} (h : o.kind ≠ 12) (h2 : o.kind ≠ 13) : endGo n (o :: r) k d = endGo n r (k + 1) d := by rw [endGo, if_neg h, if_neg h2]
set_option maxRecDepth 100000 in
set_option maxHeartbeats 2000000 in
theorem rendof_any (A : Option Addr) (n c : Nat) (rs : List (FAt FOp)) (w : World) (h : Ops w A n rs) (hn : n ≤ 1000) (i : Nat) (hi : i < n) (hk : (opAt (datO rs) i).kind = 12) :
    Calls Try.prog 40 #[.slice A n c, .int .i64 i] w (Ret (.int .i64 (endP (datO rs) i)) w) := by
  have hlen := h.1
  have hln := datO_len rs
  rw [hlen] at hln
  obtain ⟨b, off, rfl, hb, hat⟩ := Ops.open_ h (by omega)
  have HA := hid hat
  have HK := hid hk
  have HV := hid (show endP (datO rs) i = endGo n ((datO rs).drop i) i 0 by unfold endP; rw [hln])
  clear h hat hk
  go_enter Try.func40, Try.ntmps40
  go_wp2_with fail
  go_loopw [5, 6] (fun dv iv wr => ∃ k d : Nat, i ≤ k ∧ k ≤ n ∧ d ≤ k ∧ iv = .int .i64 k ∧ dv = .int .i64 d ∧ (d = 0 → k = i) ∧ Hid (endP (datO rs) i = endGo n ((datO rs).drop k) k d) ∧ w = wr) (fun _ iv _ => n - (intOf iv).toNat)
  case atStart => exact ⟨i, 0, by omega, by omega, by omega, rfl, rfl, fun _ => rfl, HV, rfl⟩
  case round =>
    clear HV
    obtain ⟨k, d, hik, hkn, hdk, rfl, rfl, hd0, HV, rfl⟩ := hrel
    by_cases hlt : k < n
    · have hkr : k < rs.length := by omega
      have hv := HV.out
      rw [datO_drop hkr] at hv
      have c0 := (HA.out k hkr).1
      have hki : d = 0 → rs[k].x.kind = 12 := fun e => by
        have := HK.out
        rw [← hd0 e, datO_at hkr] at this
        exact this
      generalize rs[k].x = o at *
      obtain ⟨kk, hkk⟩ : ∃ kk, o.kind = kk := ⟨_, rfl⟩
      rw [hkk] at c0 hki
      have HE := hid hv
      have i1 : (0 : Int) ≤ (k : Int) := by omega
      have i2 : (k : Int) < (n : Int) := by omega
      clear hv HV
      rcases (show kk = 12 ∨ (kk = 13 ∧ d = 1) ∨ (kk = 13 ∧ 1 < d) ∨ (kk ≠ 12 ∧ kk ≠ 13) by omega) with hw | hw | hw | hw
      · have HR := hid (HE.out.trans (endGo_in (hkk.trans hw)))
        clear hkk
        subst hw
        go_wp2_with fail
        go_roundw
        case rel => exact ⟨k + 1, d + 1, by omega, by omega, by omega, by go_num, by go_num, by omega, HR, trivial⟩
        case measure => simp [intOf]; omega
      · have HR := hid (HE.out.trans (endGo_hit (hkk.trans hw.1) (by omega)))
        obtain ⟨rfl, rfl⟩ := hw
        clear hkk
        go_wp2_with fail
        go_ret
        exact ⟨by rw [HR.out]; rfl, Below.refl _ _⟩
      · have HR := hid (HE.out.trans (endGo_out (hkk.trans hw.1) (by omega)))
        obtain ⟨rfl, hd1⟩ := hw
        obtain ⟨d1, rfl⟩ : ∃ d1, d = d1 + 1 := ⟨d - 1, by omega⟩
        have i3 : ((d1 : Int) == 0) = false := by simp; omega
        clear hkk
        go_wp2_with fail
        go_roundw
        case rel => exact ⟨k + 1, d1, by omega, by omega, by omega, by go_num, by go_num, by omega, HR, trivial⟩
        case measure => simp [intOf]; omega
      · have HR := hid (HE.out.trans (endGo_next (by rw [hkk]; exact hw.1) (by rw [hkk]; exact hw.2)))
        obtain ⟨h1, h2⟩ := hw
        clear hkk
        go_wp2_with fail
        go_roundw
        case rel => exact ⟨k + 1, d, by omega, by omega, by omega, by go_num, by go_num, fun e => absurd (hki e) h1, HR, trivial⟩
        case measure => simp [intOf]; omega
    · obtain rfl : k = n := by omega
      have hv := HV.out
      rw [List.drop_of_length_le (by omega), endGo] at hv
      have HE := hid hv
      have e1 : IntKind.i64.wrap ((k : Int) - 1) = ((k - 1 : Nat) : Int) := by rw [show (k : Int) - 1 = ((k - 1 : Nat) : Int) by omega]; exact IntWalk.i64_in _ (by omega)
      clear hv HV
      go_wp2_with fail
      go_ret
      exact ⟨by rw [HE.out]; rfl, Below.refl _ _⟩
/-! ## ref.SameOps, law.LightOps -/
end Fb
