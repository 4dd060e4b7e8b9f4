/- The walk of flickerbooktop.TopRect: it returns true and writes nothing that was there. No conditions. -/
import Derived.Test.YtfbbocfmjahfoaaRectWalk
import Derived.Test.YtfbbocfmjahfoaaRectBoth
import Derived.Test.YtfbbocfmjahfoaaSameWalk
import Derived.Test.YtfbbocfmjahfoaaStructEq
import Derived.Deep.RegionWith
namespace Fb
open Go Go.Proofs Go.RowKit Go.Sort
theorem eqRect_self (a b c d : Int) : eqRect a b c d a b c d = true := by simp [eqRect]
theorem both_apart : both ⟨0, 0, 2, 2⟩ ⟨2, 0, 2, 2⟩ = ⟨0, 0, 0, 0⟩ := by unfold both; rw [if_pos (by decide)]
set_option maxRecDepth 100000 in
set_option maxHeartbeats 2000000 in
theorem topRect_row (w : World) (a : FRect) (_ha : (Lit.int .i64 a.x).wf = true ∧ (Lit.int .i64 a.y).wf = true ∧ (Lit.int .i64 a.w).wf = true ∧ (Lit.int .i64 a.h).wf = true)
    (b : FRect) (_hb : (Lit.int .i64 b.x).wf = true ∧ (Lit.int .i64 b.y).wf = true ∧ (Lit.int .i64 b.w).wf = true ∧ (Lit.int .i64 b.h).wf = true) (x : Int) (_hx : (Lit.int .i64 x).wf = true) (y : Int) (_hy : (Lit.int .i64 y).wf = true) :
    Calls Try.prog 3 #[.agg #[.int .i64 a.x, .int .i64 a.y, .int .i64 a.w, .int .i64 a.h], .agg #[.int .i64 b.x, .int .i64 b.y, .int .i64 b.w, .int .i64 b.h], .int .i64 x, .int .i64 y] w (Ret (.bool true) w) := by
  clear _ha _hb _hx _hy
  have hap := both_apart
  have hE0 := eqRect_self 0 0 0 0
  have hq := neq_rect
  have he := eql_rect
  go_enter Try.func3, Try.ntmps3
  have A0 := (RectAt.new w a 23).alloc (.cells #[.int .i64 b.x, .int .i64 b.y, .int .i64 b.w, .int .i64 b.h] 23)
  have B0 := RectAt.new (w.alloc (.cells #[.int .i64 a.x, .int .i64 a.y, .int .i64 a.w, .int .i64 a.h] 23)) b 23
  have hB := ((Below.refl w.heap.size w).alloc (Nat.le_refl _) (.cells #[.int .i64 a.x, .int .i64 a.y, .int .i64 a.w, .int .i64 a.h] 23)).alloc (by simp) (.cells #[.int .i64 b.x, .int .i64 b.y, .int .i64 b.w, .int .i64 b.h] 23)
  simp only [World.size_alloc] at B0
  go_wp2_with fail
  refine (both_any ⟨0, 0, 2, 2⟩ ⟨2, 0, 2, 2⟩ (by decide) (by decide) (by decide) (by decide) (by decide) (by decide) (by decide) (by decide) _).mono ?_
  rintro e w1 ⟨rfl, hb⟩
  rw [hap]
  have A1 := A0.below hb
  have B1 := B0.below hb
  have hB1 := bnext hB hb
  clear A0 B0 hB hb hap
  obtain ⟨-, a0, a1, a2, a3⟩ := id A1
  obtain ⟨-, b0, b1, b2, b3⟩ := id B1
  go_wp2_with fail
  refine (rcheck_any a _).mono ?_
  rintro e w2 ⟨rfl, hb⟩
  have A2 := A1.below hb
  have B2 := B1.below hb
  have hB2 := bnext hB1 hb
  clear A1 B1 hB1 hb a0 a1 a2 a3 b0 b1 b2 b3
  by_cases hra : rectFault a = 0
  · rw [hra, errV_zero]
    obtain ⟨-, b0, b1, b2, b3⟩ := id B2
    go_wp2_with fail
    refine (rcheck_any b _).mono ?_
    rintro e w3 ⟨rfl, hb⟩
    have A3 := A2.below hb
    have B3 := B2.below hb
    have hB3 := bnext hB2 hb
    clear A2 B2 hB2 hb b0 b1 b2 b3
    by_cases hrb : rectFault b = 0
    · rw [hrb, errV_zero]
      have bda := rectFault_bd hra
      have bdb := rectFault_bd hrb
      have hcm := hid (both_comm a b)
      have hbh := hid (both_has a b x y)
      have hsf := hid (both_self a (by omega) (by omega))
      have bdc := both_bd a b (by omega) (by omega)
      by_cases hx1 : x < -50
      · go_wp2_with fail
        go_ret
        exact ⟨rfl, hB3⟩
      by_cases hx2 : 50 < x
      · go_wp2_with fail
        go_ret
        exact ⟨rfl, hB3⟩
      by_cases hy1 : y < -50
      · go_wp2_with fail
        go_ret
        exact ⟨rfl, hB3⟩
      by_cases hy2 : 50 < y
      · go_wp2_with fail
        go_ret
        exact ⟨rfl, hB3⟩
      clear hra hrb
      obtain ⟨-, a0, a1, a2, a3⟩ := id A3
      obtain ⟨-, b0, b1, b2, b3⟩ := id B3
      go_wp2_with fail
      refine (both_any a b (by omega) (by omega) (by omega) (by omega) (by omega) (by omega) (by omega) (by omega) _).mono ?_
      rintro e w4 ⟨rfl, hb⟩
      have A4 := A3.below hb
      have B4 := B3.below hb
      have hB4 := bnext hB3 hb
      clear A3 B3 hB3 hb a0 a1 a2 a3 b0 b1 b2 b3
      have C4 := RectAt.new w4 (both a b) 23
      have A5 := A4.alloc (.cells #[.int .i64 (both a b).x, .int .i64 (both a b).y, .int .i64 (both a b).w, .int .i64 (both a b).h] 23)
      have B5 := B4.alloc (.cells #[.int .i64 (both a b).x, .int .i64 (both a b).y, .int .i64 (both a b).w, .int .i64 (both a b).h] 23)
      have hB5 := hB4.alloc hB4.size (.cells #[.int .i64 (both a b).x, .int .i64 (both a b).y, .int .i64 (both a b).w, .int .i64 (both a b).h] 23)
      clear A4 B4 hB4
      go_wp2_with fail
      have k1 := fun (W : World) => both_any b a (by omega) (by omega) (by omega) (by omega) (by omega) (by omega) (by omega) (by omega) W
      have k0 := fun (W : World) => both_any a a (by omega) (by omega) (by omega) (by omega) (by omega) (by omega) (by omega) (by omega) W
      have k2 := fun (W : World) => has_any (both a b) x y (by omega) (by omega) (by omega) (by omega) W
      have k3 := fun (W : World) => has_any a x y (by omega) (by omega) (by omega) (by omega) W
      have k4 := fun (W : World) => has_any b x y (by omega) (by omega) (by omega) (by omega) W
      rw [← hcm.out] at k1
      rw [hbh.out] at k2
      rw [hsf.out] at k0
      generalize hdd : (if a.w = 0 ∨ a.h = 0 then (⟨0, 0, 0, 0⟩ : FRect) else a) = d at k0
      have HD : (d = ⟨0, 0, 0, 0⟩ ∧ (a.w = 0 ∨ a.h = 0)) ∨ d = a := by
        rw [← hdd]
        by_cases hz : a.w = 0 ∨ a.h = 0
        · rw [if_pos hz]; exact .inl ⟨rfl, hz⟩
        · rw [if_neg hz]; exact .inr rfl
      have HD' := hid HD
      have H0 := hid k0
      clear k0 hcm hbh hsf hdd HD
      generalize both a b = c at *
      generalize hasB a x y = pp at *
      generalize hasB b x y = qq at *
      have hEc := eqRect_self c.x c.y c.w c.h
      generalize w4.alloc (.cells #[.int .i64 c.x, .int .i64 c.y, .int .i64 c.w, .int .i64 c.h] 23) = w5 at *
      generalize w4.heap.size = gc at *
      have r1 := fun d os => Ret.regrown (k1 (grow (redrawn w5 d) os))
      have r2 := fun d os => Ret.regrown (k2 (grow (redrawn w5 d) os))
      have r3 := fun d os => Ret.regrown (k3 (grow (redrawn w5 d) os))
      have r4 := fun d os => Ret.regrown (k4 (grow (redrawn w5 d) os))
      clear k1 k2 k3 k4
      have z1 := A5.all
      have z2 := B5.all
      have z3 := C4.all
      cases pp <;> cases qq
      all_goals
        simp only [Bool.and_true, Bool.and_false, Bool.true_and, Bool.false_and] at r2
        refine wp_region_quiet_below (by kernel_rfl) (by kernel_rfl) ?_
        repeat (quiet_step (first | (go_at_call 16; exact r1 _ _) | (go_at_call_of 18 c.x; exact r2 _ _) | (go_at_call_of 18 a.x; exact r3 _ _) | (go_at_call_of 18 b.x; exact r4 _ _)))
        (refine wpQuiet_nil ?_; intro _ hw'; obtain ⟨⟨dq, osq⟩, hw''⟩ := hw'; subst hw'')
        have hb := below_regrown w5 dq osq
        have A6 := A5.below hb
        have hB6 := bnext hB5 hb
        clear A5 B5 C4 hB5 hb r1 r2 r3 r4 z1 z2 z3
        generalize grow (redrawn w5 dq) osq = w6 at *
        obtain ⟨-, a0, a1, a2, a3⟩ := id A6
        go_wp2_with fail
        refine (H0.out _).mono ?_
        rintro e w7 ⟨rfl, hb⟩
        have A7 := A6.below hb
        have hB7 := bnext hB6 hb
        have D7 := RectAt.new w7 d 23
        have A8 := A7.alloc (.cells #[.int .i64 d.x, .int .i64 d.y, .int .i64 d.w, .int .i64 d.h] 23)
        have hB8 := hB7.alloc hB7.size (.cells #[.int .i64 d.x, .int .i64 d.y, .int .i64 d.w, .int .i64 d.h] 23)
        clear A6 hB6 hb A7 hB7 a0 a1 a2 a3
        rcases HD'.out with ⟨hd0, hz⟩ | hd0
        · subst hd0
          obtain ⟨-, a0, a1, a2, a3⟩ := id A8
          by_cases h0 : a = ⟨0, 0, 0, 0⟩
          · subst h0
            clear hz HD'
            go_wp2_with fail
            go_ret
            exact ⟨rfl, hB8⟩
          · have hne : eqRect 0 0 0 0 a.x a.y a.w a.h = false := by
              unfold eqRect
              rw [decide_eq_false_iff_not]
              rintro ⟨e1, e2, e3, e4⟩
              apply h0
              cases a
              simp_all
            clear HD'
            rcases hz with hz | hz
            · have hz' : (a.w == 0) = true := by rw [hz]; rfl
              clear hz h0
              go_wp2_with fail
              go_ret
              exact ⟨rfl, hB8⟩
            · have hz' : (a.h == 0) = true := by rw [hz]; rfl
              clear hz h0
              go_wp2_with fail
              all_goals
                go_ret
                exact ⟨rfl, hB8⟩
        · subst hd0
          have hea := eqRect_self d.x d.y d.w d.h
          obtain ⟨-, a0, a1, a2, a3⟩ := id A8
          go_wp2_with fail
          go_ret
          exact ⟨rfl, hB8⟩
    · rw [errV_pos hrb]
      go_wp2_with fail
      go_ret
      exact ⟨rfl, hB3⟩
  · rw [errV_pos hra]
    go_wp2_with fail
    go_ret
    exact ⟨rfl, hB2⟩
end Fb
