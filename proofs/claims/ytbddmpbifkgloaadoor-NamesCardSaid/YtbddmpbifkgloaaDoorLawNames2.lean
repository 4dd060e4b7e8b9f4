/- flickerbooklaw.Names: it returns true. No conditions. -/
import Derived.Test.YtbddmpbifkgloaaDoorLawNames
namespace Fb
open Go Go.Proofs Go.RowKit Go.Sort
theorem own_diff {w : World} {b b' : Nat} {e : TypeId} {v v' : Value} {n n' c : Nat} {A : Option Addr} {xs xs' : List Value} (h : w.ownsRow b e 1 v n xs) (hv : v = .slice A n c) (h' : w.ownsRow b' e 1 v' n' xs') (hc : c < n') (h0 : 0 < n) : v'.ownBlock = none ∨ v'.ownBlock ≠ v.ownBlock := by
  right
  rcases h.2 with ⟨_, h1⟩ | ⟨g, cap, cur, hv1, hg, hh, hnc, hcm, hcs, ht⟩
  · omega
  rcases h'.2 with ⟨_, h1⟩ | ⟨g', cap', cur', hv1', hg', hh', hnc', hcm', hcs', ht'⟩
  · omega
  subst hv hv1'
  simp only [Value.slice.injEq] at hv1
  obtain ⟨rfl, _, rfl⟩ := hv1
  simp only [Value.ownBlock, ne_eq, Option.some.injEq]
  intro he
  subst he
  rw [hh] at hh'
  simp only [Option.some.injEq, Obj.cells.injEq] at hh'
  obtain ⟨rfl, _⟩ := hh'
  omega
theorem own_ints {w : World} {base n : Nat} {v : Value} {l : List Int} (h : w.ownsRow base 3 1 v n (l.map (Value.int .i64))) : ∃ A c, v = .slice A n c ∧ Ints w A n l := by
  obtain ⟨A, c, rfl, -, h1, h2⟩ := own_slice h
  exact ⟨A, c, rfl, by have := h.1; simpa using this, Row.of_own h⟩
def lstN : List Int := [255, 8, 20, 6, 60, 3, 9, 99, 400, 40, 4000, 60, 80, 1, 2, 3, 4, 5, 6, 7, 8, 9, 10, 11, 12, 13, 14, 15, 16]

set_option maxRecDepth 100000 in
set_option maxHeartbeats 16000000 in
theorem names_true (w : World) : Calls Tryd.prog 5 #[] w (Ret (.bool true) w) := by
  obtain ⟨i0, hi, hz0, hz1, hz2⟩ : ∃ i, Tryd.prog.info? 3 = some i ∧ i.zero = some (.int .i64 0) ∧ i.size = 1 ∧ i.bytes = 8 := by
    have h : (Tryd.prog.info? 3).map (fun i => (i.zero, i.size, i.bytes)) = some (some (.int .i64 0), 1, 8) := by kernel_rfl
    cases hh : Tryd.prog.info? 3 with
    | none => rw [hh] at h; cases h
    | some i => rw [hh] at h; simp only [Option.map_some, Option.some.injEq, Prod.mk.injEq] at h; exact ⟨i, rfl, h.1, h.2.1, h.2.2⟩
  go_enter Tryd.func5, Tryd.ntmps5
  go_upto_region 3 with fail
  have hA0 := (World.ownsRow_lit (base := w.heap.size) (e := 3) (size := 1) w #[.int .i64 255, .int .i64 8, .int .i64 20, .int .i64 6, .int .i64 60, .int .i64 3, .int .i64 9, .int .i64 99, .int .i64 400, .int .i64 40, .int .i64 4000, .int .i64 60, .int .i64 80] 13 (Nat.le_refl _) (by simp [maxLen]) rfl).alloc (.cells #[.int .i64 255, .int .i64 8, .int .i64 20, .int .i64 6, .int .i64 60, .int .i64 3, .int .i64 9, .int .i64 99, .int .i64 400, .int .i64 40, .int .i64 4000, .int .i64 60, .int .i64 80] 3)
  have hB0 := World.ownsRow_lit (base := w.heap.size) (e := 3) (size := 1) (w.alloc (.cells #[.int .i64 255, .int .i64 8, .int .i64 20, .int .i64 6, .int .i64 60, .int .i64 3, .int .i64 9, .int .i64 99, .int .i64 400, .int .i64 40, .int .i64 4000, .int .i64 60, .int .i64 80] 3)) #[.int .i64 255, .int .i64 8, .int .i64 20, .int .i64 6, .int .i64 60, .int .i64 3, .int .i64 9, .int .i64 99, .int .i64 400, .int .i64 40, .int .i64 4000, .int .i64 60, .int .i64 80] 13 (by simp) (by simp [maxLen]) rfl
  have hb0 : Below w.heap.size w ((w.alloc (.cells #[.int .i64 255, .int .i64 8, .int .i64 20, .int .i64 6, .int .i64 60, .int .i64 3, .int .i64 9, .int .i64 99, .int .i64 400, .int .i64 40, .int .i64 4000, .int .i64 60, .int .i64 80] 3)).alloc (.cells #[.int .i64 255, .int .i64 8, .int .i64 20, .int .i64 6, .int .i64 60, .int .i64 3, .int .i64 9, .int .i64 99, .int .i64 400, .int .i64 40, .int .i64 4000, .int .i64 60, .int .i64 80] 3)) := ((Below.refl _ _).alloc (Nat.le_refl _) _).alloc (by simp) _
  have hsz : (w.alloc (.cells #[.int .i64 255, .int .i64 8, .int .i64 20, .int .i64 6, .int .i64 60, .int .i64 3, .int .i64 9, .int .i64 99, .int .i64 400, .int .i64 40, .int .i64 4000, .int .i64 60, .int .i64 80] 3)).heap.size = w.heap.size + 1 := by simp
  rw [hsz] at hB0
  obtain ⟨W2, hW2⟩ : ∃ W, W = (w.alloc (.cells #[.int .i64 255, .int .i64 8, .int .i64 20, .int .i64 6, .int .i64 60, .int .i64 3, .int .i64 9, .int .i64 99, .int .i64 400, .int .i64 40, .int .i64 4000, .int .i64 60, .int .i64 80] 3)).alloc (.cells #[.int .i64 255, .int .i64 8, .int .i64 20, .int .i64 6, .int .i64 60, .int .i64 3, .int .i64 9, .int .i64 99, .int .i64 400, .int .i64 40, .int .i64 4000, .int .i64 60, .int .i64 80] 3) := ⟨_, rfl⟩
  rw [← hW2] at hA0 hB0 hb0 ⊢
  clear hW2 hsz
  have HA0 := hid hA0
  have HB0 := hid hB0
  clear hA0 hB0
  have z2 : w.heap.size ≤ W2.heap.size := hb0.size
  go_wp2_with (at_builtin; refine wpList_append_own _ rfl _ _ 48 rfl w.heap.size 3 i0 (.int .i64 0) 1 8 Tryd.underlying48 hi hz0 hz1 hz2 rfl (by decide) _ _ _ rfl (World.ownsRow.alloc HA0.out _) ⟨W2.heap.size, 0, none⟩ 16 16 _ rfl rfl (fun j u hu => new_cells _ #[.int .i64 1, .int .i64 2, .int .i64 3, .int .i64 4, .int .i64 5, .int .i64 6, .int .i64 7, .int .i64 8, .int .i64 9, .int .i64 10, .int .i64 11, .int .i64 12, .int .i64 13, .int .i64 14, .int .i64 15, .int .i64 16] 3 j u hu) (by intro u hu; simp at hu; rcases hu with rfl | rfl | rfl | rfl | rfl | rfl | rfl | rfl | rfl | rfl | rfl | rfl | rfl | rfl | rfl | rfl <;> rfl) (by simp [maxLen]) (by omega) (by simp; omega) ?_)
  intro v3 w3 hown3 hgrow3 _
  have HA3 : Hid (w3.ownsRow w.heap.size 3 1 v3 29 (lstN.map (Value.int .i64))) := hid hown3
  have HB3 := hid (World.ownsRow.kept (World.ownsRow.alloc HB0.out (.cells #[.int .i64 1, .int .i64 2, .int .i64 3, .int .i64 4, .int .i64 5, .int .i64 6, .int .i64 7, .int .i64 8, .int .i64 9, .int .i64 10, .int .i64 11, .int .i64 12, .int .i64 13, .int .i64 14, .int .i64 15, .int .i64 16] 3)) hgrow3 (by simp [Value.ownBlock]))
  have hb3 : Below w.heap.size w w3 := (hb0.alloc z2 _).grown hgrow3 (by simp; omega) (fun g hg => by simp [Value.ownBlock] at hg; omega)
  have z3 : w.heap.size ≤ w3.heap.size := hb3.size
  clear hown3 hgrow3 HA0 HB0 hb0 z2
  obtain ⟨g3, c3, rfl, hg3, hg3'⟩ := HA3.out.form (by omega)
  go_upto_region 4 with fail
  go_wp2_with (at_builtin; refine wpList_append_own _ rfl _ _ 48 rfl w.heap.size 3 i0 (.int .i64 0) 1 8 Tryd.underlying48 hi hz0 hz1 hz2 rfl (by decide) _ _ _ rfl (World.ownsRow.alloc HB3.out _) ⟨w3.heap.size, 0, none⟩ 16 16 _ rfl rfl (fun j u hu => new_cells _ #[.int .i64 1, .int .i64 2, .int .i64 3, .int .i64 4, .int .i64 5, .int .i64 6, .int .i64 7, .int .i64 8, .int .i64 9, .int .i64 10, .int .i64 11, .int .i64 12, .int .i64 13, .int .i64 14, .int .i64 15, .int .i64 16] 3 j u hu) (by intro u hu; simp at hu; rcases hu with rfl | rfl | rfl | rfl | rfl | rfl | rfl | rfl | rfl | rfl | rfl | rfl | rfl | rfl | rfl | rfl <;> rfl) (by simp [maxLen]) (by omega) (by simp; omega) ?_)
  intro v4 w4 hown4 hgrow4 _
  have HB4 : Hid (w4.ownsRow w.heap.size 3 1 v4 29 (lstN.map (Value.int .i64))) := hid hown4
  have HA4 := hid (World.ownsRow.kept (World.ownsRow.alloc HA3.out (.cells #[.int .i64 1, .int .i64 2, .int .i64 3, .int .i64 4, .int .i64 5, .int .i64 6, .int .i64 7, .int .i64 8, .int .i64 9, .int .i64 10, .int .i64 11, .int .i64 12, .int .i64 13, .int .i64 14, .int .i64 15, .int .i64 16] 3)) hgrow4 (own_diff HB3.out rfl HA3.out (by omega) (by omega)))
  have hb4 : Below w.heap.size w w4 := (hb3.alloc z3 _).grown hgrow4 (by simp; omega) (fun g hg => by simp [Value.ownBlock] at hg; omega)
  have z4 : w.heap.size ≤ w4.heap.size := hb4.size
  clear hown4 hgrow4 HA3 HB3 hb3 z3 hg3 hg3'
  obtain ⟨A4, c4, rfl, hI4⟩ := own_ints HB4.out
  obtain ⟨A3, c3', e3, hI3⟩ := own_ints HA4.out
  obtain ⟨rfl, rfl⟩ : (some ⟨g3, 0, none⟩ : Option Addr) = A3 ∧ c3 = c3' := by simp only [Value.slice.injEq] at e3; exact ⟨e3.1, e3.2.2⟩
  have HI3 := hid hI3
  have HI4 := hid hI4
  clear hI3 hI4 e3 HA4 HB4
  go_upto_region 6 with fail
  have Hc : ∀ k (hk : k < 8), (w4.alloc (.cells #[.iface 49 (.int .i64 1), .iface 49 (.int .i64 2), .iface 49 (.int .i64 3), .iface 49 (.int .i64 4), .iface 49 (.int .i64 5), .iface 49 (.int .i64 6), .iface 49 (.int .i64 7), .iface 49 (.int .i64 8)] 32)).cell? ⟨w4.heap.size, k, none⟩ = some (errV (k + 1)) := by
    intro k hk
    have h := new_cells w4 #[.iface 49 (.int .i64 1), .iface 49 (.int .i64 2), .iface 49 (.int .i64 3), .iface 49 (.int .i64 4), .iface 49 (.int .i64 5), .iface 49 (.int .i64 6), .iface 49 (.int .i64 7), .iface 49 (.int .i64 8)] 32 k (errV (k + 1)) (by match k, hk with | 0, _ | 1, _ | 2, _ | 3, _ | 4, _ | 5, _ | 6, _ | 7, _ => rfl)
    by_cases h0 : k = 0
    · subst h0; simpa [Addr.add] using h
    · simpa [Addr.add, h0] using h
  have hb5 : Below w.heap.size w (w4.alloc (.cells #[.iface 49 (.int .i64 1), .iface 49 (.int .i64 2), .iface 49 (.int .i64 3), .iface 49 (.int .i64 4), .iface 49 (.int .i64 5), .iface 49 (.int .i64 6), .iface 49 (.int .i64 7), .iface 49 (.int .i64 8)] 32)) := hb4.alloc z4 _
  have HI3' := hid (HI3.out.below ((Below.refl _ _).alloc (Nat.le_refl _) (.cells #[.iface 49 (.int .i64 1), .iface 49 (.int .i64 2), .iface 49 (.int .i64 3), .iface 49 (.int .i64 4), .iface 49 (.int .i64 5), .iface 49 (.int .i64 6), .iface 49 (.int .i64 7), .iface 49 (.int .i64 8)] 32)))
  have HI4' := hid (HI4.out.below ((Below.refl _ _).alloc (Nat.le_refl _) (.cells #[.iface 49 (.int .i64 1), .iface 49 (.int .i64 2), .iface 49 (.int .i64 3), .iface 49 (.int .i64 4), .iface 49 (.int .i64 5), .iface 49 (.int .i64 6), .iface 49 (.int .i64 7), .iface 49 (.int .i64 8)] 32)))
  obtain ⟨g5, hg5⟩ : ∃ g, g = w4.heap.size := ⟨_, rfl⟩
  rw [← hg5] at Hc ⊢
  obtain ⟨W5, hW5⟩ : ∃ W, W = w4.alloc (.cells #[.iface 49 (.int .i64 1), .iface 49 (.int .i64 2), .iface 49 (.int .i64 3), .iface 49 (.int .i64 4), .iface 49 (.int .i64 5), .iface 49 (.int .i64 6), .iface 49 (.int .i64 7), .iface 49 (.int .i64 8)] 32) := ⟨_, rfl⟩
  have hl5 : g5 < W5.heap.size := by rw [hW5, hg5]; simp
  rw [← hW5] at Hc hb5 HI3' HI4' ⊢
  clear hW5 hg5 HI3 HI4 hb4 z4
  have HC5 := hid Hc
  clear Hc
  go_wp2_with fail
  go_loopw [4] (fun i wr => ∃ k : Nat, k ≤ 8 ∧ i = .int .i64 k ∧ Hid (Below W5.heap.size W5 wr)) (fun i _ => 8 - (intOf i).toNat)
  case atStart => exact ⟨0, by omega, rfl, hid (Below.refl _ _)⟩
  case round =>
    obtain ⟨k, hk, rfl, HB⟩ := hrel
    by_cases hlt : k < 8
    · have c1 := (HB.out.cell (p := ⟨g5, k, none⟩) hl5).trans (HC5.out k hlt)
      have i1 : (0 : Int) ≤ (k : Int) := by omega
      have i2 : (k : Int) < 8 := by omega
      have hw1 : IntKind.i64.wrap ((k : Int) + 1) = (k : Int) + 1 := IntWalk.i64_in _ (by omega)
      have hc1 : errV (k + 1) = .iface 49 (.int .i64 ((k : Int) + 1)) := by rw [errV_pos (by omega)]; congr 1
      rw [hc1] at c1
      go_wp2_with fail
      have hsm := same_any (k + 1) ((k : Int) + 1) wr (by omega)
      rw [show sameB (k + 1) ((k : Int) + 1) = true from sameB_self (k + 1), hc1] at hsm
      refine hsm.mono ?_
      rintro e w6 ⟨rfl, hb6⟩
      have HB6 := hid (Below.trans HB.out (hb6.mono HB.out.size))
      go_wp2_with fail
      go_roundw
      case rel => exact ⟨k + 1, by omega, by go_num, HB6⟩
      case measure => simp [intOf]; omega
    · obtain rfl : k = 8 := by omega
      have hbr := HB.out
      go_wp2_with fail
      refine (sameNumbers_any _ _ 29 _ _ lstN _ (HI3'.out.below hbr) (HI4'.out.below hbr) (by omega) (by omega)).mono ?_
      rintro e w6 ⟨rfl, hb6⟩
      go_wp2_with fail
      refine (error_8 _).mono ?_
      rintro e w7 ⟨rfl, rfl⟩
      go_wp2_with fail
      go_ret
      exact ⟨rfl, bnext (bnext hb5 hbr) hb6⟩
end Fb
