/- The walk of flickerbooktop.TopOver: it returns true and writes nothing that was there. No conditions. -/
import Derived.Test.YteiicekadcihcaaOverWalk
import Derived.Test.YteiicekadcihcaaStructEq
import Derived.Test.YteiicekadcihcaaRectBoth
namespace Fb
open Go Go.Proofs Go.RowKit Go.Sort
/-- Block g holds the pixel. -/
def PxBox (w : World) (g : Nat) (v a : Int) : Prop := g < w.heap.size ∧ w.cell? ⟨g, 0, none⟩ = some (.int .i64 v) ∧ w.cell? ⟨g, 1, none⟩ = some (.int .i64 a)
theorem PxBox.below {w w' : World} {g : Nat} {v a : Int} (h : PxBox w g v a) (hb : Below w.heap.size w w') : PxBox w' g v a := ⟨Nat.lt_of_lt_of_le h.1 hb.size, (hb.cell h.1).trans h.2.1, (hb.cell h.1).trans h.2.2⟩
theorem PxBox.new (w : World) (v a : Int) (t : TypeId) : PxBox (w.alloc (.cells #[.int .i64 v, .int .i64 a] t)) w.heap.size v a := ⟨by simp, by simp, by simp⟩
theorem PxBox.alloc {w : World} {g : Nat} {v a : Int} (h : PxBox w g v a) (o : Go.Obj) : PxBox (w.alloc o) g v a := h.below ((Below.refl _ _).alloc (Nat.le_refl _) o)
theorem eqPx_self (a b : Int) : eqPx a b a b = true := by simp [eqPx]
theorem over_93 : overV 9 0 3 255 = 3 ∧ overA 0 255 = 255 := ⟨overV_none 9 3 255 (by decide), overA_none 255⟩
set_option maxRecDepth 100000 in
set_option maxHeartbeats 2000000 in
theorem topOver_row (w : World) (a : Px) (_ha : (Lit.int .i64 a.1).wf = true ∧ (Lit.int .i64 a.2).wf = true) (b : Px) (_hb : (Lit.int .i64 b.1).wf = true ∧ (Lit.int .i64 b.2).wf = true) :
    Calls Try.prog 5 #[.agg #[.int .i64 a.1, .int .i64 a.2], .agg #[.int .i64 b.1, .int .i64 b.2]] w (Ret (.bool true) w) := by
  obtain ⟨av, aa⟩ := a
  obtain ⟨bv, ba⟩ := b
  simp only at *
  clear _ha _hb
  have h93 := over_93
  have hE := eqPx_self 3 255
  have hq := neq_px
  have he := eql_px
  go_enter Try.func5, Try.ntmps5
  have A0 := (PxBox.new w av aa 39).alloc (.cells #[.int .i64 bv, .int .i64 ba] 39)
  have B0 := PxBox.new (w.alloc (.cells #[.int .i64 av, .int .i64 aa] 39)) bv ba 39
  have hB := ((Below.refl w.heap.size w).alloc (Nat.le_refl _) (.cells #[.int .i64 av, .int .i64 aa] 39)).alloc (by simp) (.cells #[.int .i64 bv, .int .i64 ba] 39)
  simp only [World.size_alloc] at B0
  go_wp2_with fail
  refine (over_any 9 0 3 255 (by decide) (by decide) (by decide) (by decide) _).mono ?_
  rintro e w1 ⟨rfl, hb⟩
  rw [h93.1, h93.2]
  have A1 := A0.below hb
  have B1 := B0.below hb
  have hB1 := bnext hB hb
  clear A0 B0 hB hb h93
  obtain ⟨-, a0, a1⟩ := id A1
  obtain ⟨-, b0, b1⟩ := id B1
  go_wp2_with fail
  refine (tpixel_any av aa _).mono ?_
  rintro e w2 ⟨rfl, hb⟩
  have A2 := A1.below hb
  have B2 := B1.below hb
  have hB2 := bnext hB1 hb
  clear A1 B1 hB1 hb a0 a1 b0 b1 hE
  obtain ⟨-, a0, a1⟩ := id A2
  obtain ⟨-, b0, b1⟩ := id B2
  by_cases hpa : 0 ≤ av ∧ av ≤ 255 ∧ 0 ≤ aa ∧ aa ≤ 255
  · have hpa' : pixB av aa = true := by simp [pixB]; omega
    go_wp2_with fail
    refine (tpixel_any bv ba _).mono ?_
    rintro e w3 ⟨rfl, hb⟩
    have A3 := A2.below hb
    have B3 := B2.below hb
    have hB3 := bnext hB2 hb
    clear A2 B2 hB2 hb a0 a1 b0 b1 hpa'
    obtain ⟨-, a0, a1⟩ := id A3
    obtain ⟨-, b0, b1⟩ := id B3
    by_cases hpb : 0 ≤ bv ∧ bv ≤ 255 ∧ 0 ≤ ba ∧ ba ≤ 255
    · have hpb' : pixB bv ba = true := by simp [pixB]; omega
      have hC := overA_bd aa ba (by omega) (by omega)
      have hX := hid (overV_bd av aa bv ba (by omega) (by omega))
      go_wp2_with fail
      clear hpb'
      refine (over_any av aa bv ba (by omega) (by omega) (by omega) (by omega) _).mono ?_
      rintro e w4 ⟨rfl, hb⟩
      have A4 := A3.below hb
      have B4 := B3.below hb
      have hB4 := bnext hB3 hb
      clear A3 B3 hB3 hb a0 a1 b0 b1
      obtain ⟨sa, a0, a1⟩ := A4
      obtain ⟨sb, b0, b1⟩ := B4
      have m1 := ite_min av bv
      have m2 := ite_max av bv
      by_cases c1 : aa = 255
      · subst c1
        rw [overV_full, overA_full]
        have hE := eqPx_self av 255
        have hn1 : min av bv ≤ av := by omega
        have hn2 : av ≤ max av bv := by omega
        clear hC hX
        go_wp2_with fail
        go_ret
        exact ⟨rfl, hB4.alloc hB4.size _⟩
      by_cases c2 : 0 < aa
      · have hC0 : overA aa ba ≠ 0 := by omega
        have hX' := hX.out hC0
        have hc1 : (aa == 255) = false := by simp; exact c1
        clear hX c1
        generalize overV av aa bv ba = X at *
        generalize overA aa ba = C at *
        have hC1 : 0 < C := by omega
        clear hC0
        go_wp2_with fail
        go_ret
        exact ⟨rfl, hB4.alloc hB4.size _⟩
      have c3 : aa = 0 := by omega
      subst c3
      clear c1 c2 hX
      by_cases c4 : ba = 0
      · subst c4
        rw [overV_nil, overA_none]
        have hE := eqPx_self 0 0
        by_cases c5 : bv = 0
        · subst c5
          clear hC
          go_wp2_with fail
          go_ret
          exact ⟨rfl, hB4.alloc hB4.size _⟩
        · have hE2 : eqPx 0 0 bv 0 = false := by simp [eqPx]; omega
          clear hC c5
          go_wp2_with fail
          go_ret
          exact ⟨rfl, hB4.alloc hB4.size _⟩
      · rw [overV_none _ _ _ c4, overA_none]
        have hE := eqPx_self bv ba
        have hn1 : min av bv ≤ bv := by omega
        have hn2 : bv ≤ max av bv := by omega
        have hb0 : 0 < ba := by omega
        clear hC c4
        go_wp2_with fail
        go_ret
        exact ⟨rfl, hB4.alloc hB4.size _⟩
    · have hpb' : pixB bv ba = false := by
        cases h : pixB bv ba
        · rfl
        · simp [pixB] at h; exact absurd h hpb
      go_wp2_with fail
      go_ret
      exact ⟨rfl, hB3⟩
  · have hpa' : pixB av aa = false := by
      cases h : pixB av aa
      · rfl
      · simp [pixB] at h; exact absurd h hpa
    go_wp2_with fail
    go_ret
    exact ⟨rfl, hB2⟩
end Fb
