/- The walk of flickerbooklaw.RectSays: it returns true and writes nothing that was there. No conditions. -/
import Derived.Test.YteiicekadcihcaaRectWalk
import Derived.Test.YteiicekadcihcaaRectBoth
import Derived.Test.YteiicekadcihcaaSameWalk
namespace Fb
open Go Go.Proofs Go.RowKit Go.Sort
def NoBoth (a b : FRect) (n j i : Int) : Prop := n = 0 → ∀ x y : Int, -21 ≤ x → x < 41 → -21 ≤ y → (y < j ∨ (y = j ∧ x < i)) → (hasB a x y && hasB b x y) = false
theorem NoBoth.start (a b : FRect) : NoBoth a b 0 (-21) (-21) := fun _ x y h1 h2 h3 h4 => by omega
theorem NoBoth.row {a b : FRect} {n j : Int} (h : NoBoth a b n j 41) : NoBoth a b n (j + 1) (-21) := fun hn x y h1 h2 h3 h4 => h hn x y h1 h2 h3 (by omega)
theorem NoBoth.miss {a b : FRect} {n j i : Int} (h : NoBoth a b n j i) (e : (hasB a i j && hasB b i j) = false) : NoBoth a b n j (i + 1) := fun hn x y h1 h2 h3 h4 => by
  by_cases hx : y = j ∧ x = i
  · obtain ⟨rfl, rfl⟩ := hx; exact e
  · exact h hn x y h1 h2 h3 (by omega)
theorem NoBoth.hit {a b : FRect} {n j i : Int} (hn : 0 ≤ n) : NoBoth a b (n + 1) j i := fun h => by omega
theorem NoBoth.done {a b : FRect} {n i : Int} (h : NoBoth a b n 41 i) (hn : n = 0) (ha : rectFault a = 0) (hb : rectFault b = 0) : both a b = ⟨0, 0, 0, 0⟩ := by
  obtain ⟨⟨a1, a2⟩, ⟨a3, a4⟩, ⟨a5, a6⟩, ⟨a7, a8⟩⟩ := rectFault_bd ha
  obtain ⟨⟨b1, b2⟩, ⟨b3, b4⟩, ⟨b5, b6⟩, ⟨b7, b8⟩⟩ := rectFault_bd hb
  apply both_zero
  by_cases hz : min (a.x + a.w) (b.x + b.w) - max a.x b.x ≤ 0 ∨ min (a.y + a.h) (b.y + b.h) - max a.y b.y ≤ 0
  · exact hz
  · exfalso
    have := h hn (max a.x b.x) (max a.y b.y) (by omega) (by omega) (by omega) (by omega)
    rw [← both_has, both_some hz] at this
    simp [hasB] at this
    omega
theorem eql_rect0 (w : World) : (binOp .eql 23 (.agg #[.int .i64 0, .int .i64 0, .int .i64 0, .int .i64 0]) (.agg #[.int .i64 0, .int .i64 0, .int .i64 0, .int .i64 0])).run Try.prog w = .ok (.bool true) w := by kernel_rfl
set_option maxRecDepth 100000 in
set_option maxHeartbeats 2000000 in
theorem rectSays_walk (a b : FRect) (x y : Int) (w : World) :
    Calls Try.prog 3 #[.agg #[.int .i64 a.x, .int .i64 a.y, .int .i64 a.w, .int .i64 a.h], .agg #[.int .i64 b.x, .int .i64 b.y, .int .i64 b.w, .int .i64 b.h], .int .i64 x, .int .i64 y] w (Ret (.bool true) w) := by
  have he := rectFault_le a
  have hc0 : hasB ⟨1, 1, 2, 2⟩ 2 2 = true := by decide
  go_enter Try.func3, Try.ntmps3
  have A0 := (RectAt.new w a 23).alloc (.cells #[.int .i64 b.x, .int .i64 b.y, .int .i64 b.w, .int .i64 b.h] 23)
  have B0 := RectAt.new (w.alloc (.cells #[.int .i64 a.x, .int .i64 a.y, .int .i64 a.w, .int .i64 a.h] 23)) b 23
  have hB := ((Below.refl w.heap.size w).alloc (Nat.le_refl _) (.cells #[.int .i64 a.x, .int .i64 a.y, .int .i64 a.w, .int .i64 a.h] 23)).alloc (by simp) (.cells #[.int .i64 b.x, .int .i64 b.y, .int .i64 b.w, .int .i64 b.h] 23)
  go_wp2_with fail
  refine (has_any ⟨1, 1, 2, 2⟩ 2 2 (by decide) (by decide) (by decide) (by decide) _).mono ?_
  rintro e w1 ⟨rfl, hb⟩
  have A1 := A0.below hb
  have B1 := B0.below hb
  have hB1 := bnext hB hb
  clear A0 B0 hB hb
  go_wp2_with fail
  have k1 := A1.all
  have k2 := fun d os => Ret.regrown (rcheck_any a (grow (redrawn w1 d) os))
  have k3 := fun d os => Ret.regrown (rrectfault_any a (grow (redrawn w1 d) os))
  have k4 := fun d os => Ret.regrown (same_any (rectFault a) (rectFault a) (grow (redrawn w1 d) os) (by omega))
  simp only [sameB_self] at k4
  refine wp_region_quiet_below (by kernel_rfl) (by kernel_rfl) ?_
  repeat (quiet_step (first | exact k2 _ _ | exact k3 _ _ | exact k4 _ _))
  (refine wpQuiet_nil ?_; intro _ hw'; obtain ⟨⟨dq, osq⟩, hw''⟩ := hw'; subst hw'')
  have hb := below_regrown w1 dq osq
  have A2 := A1.below hb
  have B2 := B1.below hb
  have hB2 := bnext hB1 hb
  clear A1 B1 hB1 hb k1 k2 k3 k4
  simp only [World.size_alloc] at B2
  generalize grow (redrawn w1 dq) osq = w2 at *
  obtain ⟨-, a0, a1, a2, a3⟩ := A2
  by_cases ha : rectFault a = 0
  · have hB2 := hB2
    have A2 : RectAt w2 w.heap.size a := ⟨by have := hB2.size; have := B2.1; omega, a0, a1, a2, a3⟩
    have Ha := hid ha
    have ha' : ((rectFault a : Nat) : Int) ≤ 0 := by omega
    clear ha
    go_wp2_with fail
    refine (rrectfault_any a _).mono ?_
    rintro e w3 ⟨rfl, hb⟩
    have A3 := A2.below hb
    have B3 := B2.below hb
    have hB3 := bnext hB2 hb
    clear A2 B2 hB2 hb a0 a1 a2 a3
    obtain ⟨-, b0, b1, b2, b3⟩ := B3
    have B3 : RectAt w3 (w.heap.size + 1) b := ⟨by have := World.block_lt_of_cell? w3 _ b0; exact this, b0, b1, b2, b3⟩
    go_wp2_with fail
    refine (rrectfault_any b _).mono ?_
    rintro e w4 ⟨rfl, hb⟩
    have A4 := A3.below hb
    have B4 := B3.below hb
    have hB4 := bnext hB3 hb
    clear A3 B3 hB3 hb b0 b1 b2 b3
    by_cases hb : rectFault b = 0
    · have Hb := hid hb
      have hb' : ((rectFault b : Nat) : Int) ≤ 0 := by omega
      clear hb
      have bda := rectFault_bd Ha.out
      have bdb := rectFault_bd Hb.out
      have k1 := A4.all
      have k2 := fun d os => Ret.regrown (has_any a x y (by omega) (by omega) (by omega) (by omega) (grow (redrawn w4 d) os))
      have k3 := fun d os => Ret.regrown (rhas_any a x y (by omega) (by omega) (by omega) (by omega) (grow (redrawn w4 d) os))
      go_wp2_with fail
      refine wp_region_quiet_below (by kernel_rfl) (by kernel_rfl) ?_
      repeat (quiet_step (first | exact k2 _ _ | exact k3 _ _))
      (refine wpQuiet_nil ?_; intro _ hw'; obtain ⟨⟨dq, osq⟩, hw''⟩ := hw'; subst hw'')
      have hb := below_regrown w4 dq osq
      have A5 := A4.below hb
      have B5 := B4.below hb
      have hB5 := bnext hB4 hb
      clear A4 B4 hB4 hb k1 k2 k3
      generalize grow (redrawn w4 dq) osq = w5 at *
      have A5' := A5
      have B5' := B5
      obtain ⟨-, a0, a1, a2, a3⟩ := A5
      obtain ⟨-, b0, b1, b2, b3⟩ := B5
      go_wp2_with fail
      refine (both_any a b (by omega) (by omega) (by omega) (by omega) (by omega) (by omega) (by omega) (by omega) _).mono ?_
      rintro e w6 ⟨rfl, hb⟩
      have A6 := A5'.below hb
      have B6 := B5'.below hb
      have hB6 := bnext hB5 hb
      clear A5' B5' hB5 hb a0 a1 a2 a3 b0 b1 b2 b3
      have bdc := both_bd a b (by omega) (by omega)
      have hbh := hid (both_has a b)
      have hdone := hid (fun n i (h : NoBoth a b n 41 i) (hn : n = 0) => h.done hn Ha.out Hb.out)
      clear Ha Hb ha' hb' he
      obtain ⟨c, hc⟩ : ∃ c, both a b = c := ⟨_, rfl⟩
      rw [hc] at bdc hbh hdone
      rw [hc]
      clear hc
      have C6 := RectAt.new w6 c 23
      have A6' := A6.alloc (.cells #[.int .i64 c.x, .int .i64 c.y, .int .i64 c.w, .int .i64 c.h] 23)
      have B6' := B6.alloc (.cells #[.int .i64 c.x, .int .i64 c.y, .int .i64 c.w, .int .i64 c.h] 23)
      have hB6' := hB6.alloc hB6.size (.cells #[.int .i64 c.x, .int .i64 c.y, .int .i64 c.w, .int .i64 c.h] 23)
      clear A6 B6 hB6
      go_wp2_with fail
      generalize w6.alloc (.cells #[.int .i64 c.x, .int .i64 c.y, .int .i64 c.w, .int .i64 c.h] 23) = w7 at *
      generalize w6.heap.size = gc at *
      go_loopw [10, 11] (fun n j wr => ∃ n' j' : Int, n = .int .i64 n' ∧ j = .int .i64 j' ∧ -21 ≤ j' ∧ j' ≤ 41 ∧ 0 ≤ n' ∧ n' ≤ 62 * (j' + 21) ∧ NoBoth a b n' j' (-21) ∧ RectAt wr w.heap.size a ∧ RectAt wr (w.heap.size + 1) b ∧ RectAt wr gc c ∧ Below w.heap.size w wr) (fun _ j _ => (41 - intOf j).toNat)
      case atStart => exact ⟨0, -21, rfl, rfl, by omega, by omega, by omega, by omega, NoBoth.start a b, A6', B6', C6, hB6'⟩
      case round =>
        clear A6' B6' C6 hB6'
        obtain ⟨n', j', rfl, rfl, hj1, hj2, hn1, hn2, HN, A7, B7, C7, hB7⟩ := hrel
        by_cases hj : j' < 41
        · go_wp2_with fail
          obtain ⟨wo, rfl⟩ : ∃ wo : World, wo = wr := ⟨_, rfl⟩
          go_loopw [10, 12] (fun n i wr => ∃ m' i' : Int, n = .int .i64 m' ∧ i = .int .i64 i' ∧ -21 ≤ i' ∧ i' ≤ 41 ∧ 0 ≤ m' ∧ m' ≤ 62 * (j' + 21) + (i' + 21) ∧ NoBoth a b m' j' i' ∧ RectAt wr w.heap.size a ∧ RectAt wr (w.heap.size + 1) b ∧ RectAt wr gc c ∧ Below w.heap.size w wr) (fun _ i _ => (41 - intOf i).toNat)
          case atStart => exact ⟨n', -21, rfl, rfl, by omega, by omega, by omega, by omega, HN, A7, B7, C7, hB7⟩
          case round =>
            clear A7 B7 C7 hB7 HN
            obtain ⟨m', i', rfl, rfl, hi1, hi2, hm1, hm2, HN, A8, B8, C8, hB8⟩ := hrel
            have cc : hasB c i' j' = (hasB a i' j' && hasB b i' j') := hbh.out i' j'
            by_cases hi : i' < 41
            · obtain ⟨-, a0, a1, a2, a3⟩ := id A8
              generalize hp : hasB a i' j' = p at cc
              generalize hq : hasB b i' j' = q at cc
              have Hp := hid hp
              have Hq := hid hq
              have Hc := hid cc
              clear hp hq cc
              go_wp2_with fail
              refine (rhas_any a i' j' (by omega) (by omega) (by omega) (by omega) _).mono ?_
              rintro e w9 ⟨rfl, hb⟩
              rw [Hp.out]
              have A9 := A8.below hb
              have B9 := B8.below hb
              have C9 := C8.below hb
              have hB9 := bnext hB8 hb
              clear A8 B8 C8 hB8 hb a0 a1 a2 a3
              obtain ⟨-, b0, b1, b2, b3⟩ := id B9
              go_wp2_with fail
              refine (rhas_any b i' j' (by omega) (by omega) (by omega) (by omega) _).mono ?_
              rintro e w10 ⟨rfl, hb⟩
              rw [Hq.out]
              have A10 := A9.below hb
              have B10 := B9.below hb
              have C10 := C9.below hb
              have hB10 := bnext hB9 hb
              clear A9 B9 C9 hB9 hb b0 b1 b2 b3
              obtain ⟨-, c0, c1, c2, c3⟩ := id C10
              go_wp2_with fail
              refine (rhas_any c i' j' (by omega) (by omega) (by omega) (by omega) _).mono ?_
              rintro e w11 ⟨rfl, hb⟩
              rw [Hc.out]
              have A11 := A10.below hb
              have B11 := B10.below hb
              have C11 := C10.below hb
              have hB11 := bnext hB10 hb
              clear A10 B10 C10 hB10 hb c0 c1 c2 c3
              cases p
              · have HN' := HN.miss (by rw [Hp.out, Hq.out]; rfl)
                clear HN
                go_wp2_with fail
                go_roundw
                case rel => exact ⟨m', i' + 1, rfl, rfl, by omega, by omega, by omega, by omega, HN', A11, B11, C11, hB11⟩
                case measure => simp [intOf]; omega
              · cases q
                · have HN' := HN.miss (by rw [Hp.out, Hq.out]; rfl)
                  clear HN
                  go_wp2_with fail
                  go_roundw
                  case rel => exact ⟨m', i' + 1, rfl, rfl, by omega, by omega, by omega, by omega, HN', A11, B11, C11, hB11⟩
                  case measure => simp [intOf]; omega
                · have HN' : NoBoth a b (m' + 1) j' (i' + 1) := NoBoth.hit (by omega)
                  clear HN
                  go_wp2_with fail
                  go_roundw
                  case rel => exact ⟨m' + 1, i' + 1, rfl, rfl, by omega, by omega, by omega, by omega, HN', A11, B11, C11, hB11⟩
                  case measure => simp [intOf]; omega
            · obtain rfl : i' = 41 := by omega
              have HN' := HN.row
              clear HN cc
              go_wp2_with fail
              go_roundw
              case rel => exact ⟨m', j' + 1, rfl, rfl, by omega, by omega, by omega, by omega, HN', A8, B8, C8, hB8⟩
              case measure => simp [intOf]; omega
        · obtain rfl : j' = 41 := by omega
          by_cases hn : n' = 0
          · have hcz := hid (hdone.out _ _ HN hn)
            have heq := eql_rect0
            subst hn
            obtain ⟨-, c0, c1, c2, c3⟩ := C7
            rw [hcz.out] at c0 c1 c2 c3
            clear HN bdc
            go_wp2_with fail
            go_ret
            exact ⟨rfl, hB7⟩
          · have hn' : 0 < n' := by omega
            clear HN hn
            go_wp2_with fail
            go_ret
            exact ⟨rfl, hB7⟩
    · have hb' : (0 : Int) < ((rectFault b : Nat) : Int) := by omega
      clear hb
      go_wp2_with fail
      go_ret
      exact ⟨rfl, hB4⟩
  · have ha' : (0 : Int) < ((rectFault a : Nat) : Int) := by omega
    clear ha
    go_wp2_with fail
    refine (rrectfault_any a _).mono ?_
    rintro e w3 ⟨rfl, hb⟩
    have hB3 := bnext hB2 hb
    go_wp2_with fail
    go_ret
    exact ⟨rfl, hB3⟩
theorem rectSays_row (w : World) (a : FRect) (_ha : (Lit.int .i64 a.x).wf = true ∧ (Lit.int .i64 a.y).wf = true ∧ (Lit.int .i64 a.w).wf = true ∧ (Lit.int .i64 a.h).wf = true) (b : FRect) (_hb : (Lit.int .i64 b.x).wf = true ∧ (Lit.int .i64 b.y).wf = true ∧ (Lit.int .i64 b.w).wf = true ∧ (Lit.int .i64 b.h).wf = true) (x : Int) (_hx : (Lit.int .i64 x).wf = true) (y : Int) (_hy : (Lit.int .i64 y).wf = true) :
    Calls Try.prog 3 #[.agg #[.int .i64 a.x, .int .i64 a.y, .int .i64 a.w, .int .i64 a.h], .agg #[.int .i64 b.x, .int .i64 b.y, .int .i64 b.w, .int .i64 b.h], .int .i64 x, .int .i64 y] w (Ret (.bool true) w) :=
  rectSays_walk a b x y w
end Fb
