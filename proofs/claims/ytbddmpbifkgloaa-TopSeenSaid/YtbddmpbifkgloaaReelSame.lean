/- reel.Same and the reference's SamePicture: are two pictures the same. Conditions: bounds on lengths. -/
import Derived.Test.YtbddmpbifkgloaaReelWalk
namespace Fb
open Go Go.Proofs Go.RowKit Go.Sort
theorem samePic_w {a b : FPic} (h : a.w ≠ b.w) : samePic a b = false := by unfold samePic; simp [h]
theorem samePic_h {a b : FPic} (h : a.h ≠ b.h) : samePic a b = false := by unfold samePic; simp [h]
theorem samePic_p {a b : FPic} (h1 : a.w = b.w) (h2 : a.h = b.h) : samePic a b = decide (a.p = b.p) := by unfold samePic; simp [h1, h2]
theorem samePic_ne {a b : FPic} (h : a.p ≠ b.p) : samePic a b = false := by unfold samePic; simp [h]
abbrev picV (r : FAt FPic) : Value := .agg #[.int .i64 r.x.w, .int .i64 r.x.h, .slice r.A r.n r.c]
set_option maxRecDepth 100000 in
set_option maxHeartbeats 800000 in
theorem rsame_pic_any (r s : FAt FPic) (w : World) (hr : Pixs w r.A r.n r.x.p) (hs : Pixs w s.A s.n s.x.p) (hn : r.n ≤ 1000000) (hm : s.n ≤ 1000000) :
    Calls Try.prog 24 #[.agg #[.int .i64 r.x.w, .int .i64 r.x.h, .slice r.A r.n r.c], .agg #[.int .i64 s.x.w, .int .i64 s.x.h, .slice s.A s.n s.c]] w (Ret (.bool (samePic r.x s.x)) w) := by
  obtain ⟨⟨rw_, rh, l⟩, A, n, c⟩ := r
  obtain ⟨⟨sw, sh, q⟩, B, m, d⟩ := s
  simp only at hr hs hn hm ⊢
  have hB := ((Below.refl w.heap.size w).alloc (Nat.le_refl _) (.cells #[.int .i64 rw_, .int .i64 rh, .slice A n c] 25)).alloc (by simp) (.cells #[.int .i64 sw, .int .i64 sh, .slice B m d] 25)
  have Hl := hid hr.1
  have Hq := hid hs.1
  by_cases h1 : rw_ = sw
  · by_cases h2 : rh = sh
    · have HP := hid (samePic_p (a := ⟨rw_, rh, l⟩) (b := ⟨sw, sh, q⟩) h1 h2)
      subst h1 h2
      by_cases hnm : n = m
      · subst hnm
        have hr' := hr.below hB
        have hs' := hs.below hB
        clear hr hs
        go_enter Try.func24, Try.ntmps24
        have b0 : ((w.alloc (.cells #[.int .i64 rw_, .int .i64 rh, .slice A n c] 25)).alloc (.cells #[.int .i64 rw_, .int .i64 rh, .slice B n d] 25)).cell? ⟨w.heap.size, 2, none⟩ = some (.slice A n c) := by simp
        have b1 : ((w.alloc (.cells #[.int .i64 rw_, .int .i64 rh, .slice A n c] 25)).alloc (.cells #[.int .i64 rw_, .int .i64 rh, .slice B n d] 25)).cell? ⟨w.heap.size + 1, 2, none⟩ = some (.slice B n d) := by simp
        go_wp2
        generalize (w.alloc (.cells #[.int .i64 rw_, .int .i64 rh, .slice A n c] 25)).alloc (.cells #[.int .i64 rw_, .int .i64 rh, .slice B n d] 25) = W0 at *
        by_cases h0 : n = 0
        · subst h0
          have e1 : l = [] := List.eq_nil_of_length_eq_zero Hl.out
          have e2 : q = [] := List.eq_nil_of_length_eq_zero Hq.out
          have HR := hid (show samePic ⟨rw_, rh, l⟩ ⟨rw_, rh, q⟩ = true by rw [HP.out, e1, e2]; simp)
          clear hr' hs' e1 e2
          go_loop [5] (fun i => i = .int .i64 0) (fun _ => 0)
          case atStart => rfl
          case round =>
            subst hrel
            go_wp2_with fail
            go_ret
            exact ⟨ret_bool HR.out.symm, hB⟩
        · obtain ⟨c1, o1, rfl, hb1, hc1⟩ := hr'.open_ (by omega)
          obtain ⟨c2, o2, rfl, hb2, hc2⟩ := hs'.open_ (by omega)
          have Hc1 := hid hc1
          have Hc2 := hid hc2
          clear hr' hs' hc1 hc2
          go_loopw [5] (fun i wr => ∃ k nq : Nat, k ≤ n ∧ i = .int .i64 k ∧ l.take k = q.take k ∧ wr = W0.drewN nq) (fun i _ => n - (intOf i).toNat)
          case atStart => exact ⟨0, 0, by omega, rfl, rfl, rfl⟩
          case round =>
            obtain ⟨k, nq0, hk, rfl, ht, rfl⟩ := hrel
            have Ht := hid ht
            clear ht
            by_cases hlt : k < n
            · have k1 : k < l.length := by rw [Hl.out]; exact hlt
              have k2 : k < q.length := by rw [Hq.out]; exact hlt
              obtain ⟨c10, c11⟩ := Hc1.out k k1
              obtain ⟨c20, c21⟩ := Hc2.out k k2
              have i1 : (0 : Int) ≤ (k : Int) := by omega
              have i2 : (k : Int) < (n : Int) := by omega
              by_cases he : l[k] = q[k]
              · have hneq := neq_px_same q[k]
                have hst := hid (take_eq_step k1 k2 Ht.out he)
                rw [he] at c10 c11
                clear he
                go_wp2_with fail
                go_quiet (fail)
                go_wp2_with fail
                go_roundw
                case rel => exact ⟨k + 1, nq0 + nq, by omega, by go_num, hst.out, by simp⟩
                case measure => simp [intOf]; omega
              · have hneq := neq_px_other he
                have hr := hid (show samePic ⟨rw_, rh, l⟩ ⟨rw_, rh, q⟩ = false from samePic_ne (ne_at k1 k2 he))
                clear he
                go_wp2_with fail
                go_quiet (fail)
                go_wp2_with fail
                go_ret
                exact ⟨ret_bool hr.out.symm, by simp; exact below_drewN hB _⟩
            · obtain rfl : k = n := by omega
              have hr := hid (show samePic ⟨rw_, rh, l⟩ ⟨rw_, rh, q⟩ = true by
                have := Ht.out
                rw [List.take_of_length_le (by rw [Hl.out]; omega), List.take_of_length_le (by rw [Hq.out]; omega)] at this
                rw [HP.out, this]; simp)
              go_wp2_with fail
              go_ret
              exact ⟨ret_bool hr.out.symm, below_drewN hB _⟩
      · have HR := hid (show samePic ⟨rw_, rh, l⟩ ⟨rw_, rh, q⟩ = false by
          apply samePic_ne
          rintro rfl
          exact hnm (Hl.out.symm.trans Hq.out))
        have hne : ((n : Int) != (m : Int)) = true := by rw [bne_iff_ne]; omega
        clear hr hs hnm
        go_enter Try.func24, Try.ntmps24
        go_wp2_with fail
        go_ret
        exact ⟨ret_bool HR.out.symm, hB⟩
    · have Hr := hid (samePic_h (a := ⟨rw_, rh, l⟩) (b := ⟨sw, sh, q⟩) h2)
      have h1' : (rw_ != sw) = false := by simpa using h1
      have h2' : (rh != sh) = true := by simpa using h2
      clear h1 h2 hr hs
      go_enter Try.func24, Try.ntmps24
      go_wp2_with fail
      go_ret
      exact ⟨ret_bool Hr.out.symm, hB⟩
  · have Hr := hid (samePic_w (a := ⟨rw_, rh, l⟩) (b := ⟨sw, sh, q⟩) h1)
    have h1' : (rw_ != sw) = true := by simpa using h1
    clear h1 hr hs
    go_enter Try.func24, Try.ntmps24
    go_wp2_with fail
    go_ret
    exact ⟨ret_bool Hr.out.symm, hB⟩
end Fb
