/- blend.Add and blend.Put return what the plain laws say. Conditions: pictures that may be, places not too far. -/
import Derived.Test.YtgkemeclpidmcaaBlend
import Derived.Conc.MuLone
set_option linter.unusedSimpArgs false
set_option linter.unusedVariables false
namespace Fb
open Go Go.Proofs Go.RowKit Go.Sort
theorem pixs_off {w : World} {A : Option Addr} {n g : Nat} {l : List Px} (h : Pixs w A n l) (hne : ∀ a, A = some a → g ≠ a.block) (o : Nat) (u : Value) : Pixs (w.setCell ⟨g, o, none⟩ u) A n l :=
  ⟨h.1, h.2.grown (gb_set (gb_refl w (some g)) o u) (fun _ a ha e => hne a ha (by injection e))⟩
theorem addP_px (a b : Px) : (.agg #[.int .i64 (addP a b).1, .int .i64 (addP a b).2] : Value) = .agg #[.int .i64 ((a.1 + b.1) % 256), .int .i64 ((a.2 + b.2) % 256)] := rfl
set_option maxRecDepth 100000 in
set_option maxHeartbeats 1000000 in
theorem add_any (r s : FAt FPic) (x y : Int) (w : World) (hr : Pixs w r.A r.n r.x.p) (hs : Pixs w s.A s.n s.x.p) (fr : PicFine r.x) (fs : PicFine s.x) (bx : -100 ≤ x ∧ x ≤ 100) (b_y : -100 ≤ y ∧ y ≤ 100) :
    Calls Try.prog 60 #[.agg #[.int .i64 r.x.w, .int .i64 r.x.h, .slice r.A r.n r.c], .agg #[.int .i64 s.x.w, .int .i64 s.x.h, .slice s.A s.n s.c], .int .i64 x, .int .i64 y] w (RetPic (changeP addP r.x s.x x y) w) := by
  have hch := fun W hr' hs' => change_any 78 addP (fun args W => Go.MuLone.run_callFunc_enter (P := Try.prog) (f := 78) rfl (by kernel_rfl) rfl args W) (fun a b _ _ => addP_fine a b) (fun a b W ha hb => add1_any a b ha hb W) r s x y W hr' hs' fr fs bx b_y
  have Hch := hid hch
  clear hch
  go_enter Try.func60, Try.ntmps60
  go_upto_region 1 with fail
  obtain ⟨W0, hW0⟩ : ∃ W0, W0 = ((w.alloc (.cells #[.int .i64 r.x.w, .int .i64 r.x.h, .slice r.A r.n r.c] 49)).alloc (.cells #[.int .i64 s.x.w, .int .i64 s.x.h, .slice s.A s.n s.c] 49)).alloc (.cells #[.int .i64 0, .int .i64 0, .slice none 0 0] 49) := ⟨_, rfl⟩
  have hB0 : Below w.heap.size w W0 := by
    rw [hW0]; exact (((Below.refl w.heap.size w).alloc (Nat.le_refl _) _).alloc (by simp) _).alloc (by simp; omega) _
  have c0 : W0.cell? ⟨w.heap.size, 0, none⟩ = some (.int .i64 r.x.w) := by rw [hW0]; go_simp
  have c1 : W0.cell? ⟨w.heap.size, 1, none⟩ = some (.int .i64 r.x.h) := by rw [hW0]; go_simp
  have c2 : W0.cell? ⟨w.heap.size, 2, none⟩ = some (.slice r.A r.n r.c) := by rw [hW0]; go_simp
  have d0 : W0.cell? ⟨w.heap.size + 1, 0, none⟩ = some (.int .i64 s.x.w) := by rw [hW0]; go_simp
  have d1 : W0.cell? ⟨w.heap.size + 1, 1, none⟩ = some (.int .i64 s.x.h) := by rw [hW0]; go_simp
  have d2 : W0.cell? ⟨w.heap.size + 1, 2, none⟩ = some (.slice s.A s.n s.c) := by rw [hW0]; go_simp
  have e0 : W0.cell? ⟨w.heap.size + 1 + 1, 0, none⟩ = some (.int .i64 0) := by rw [hW0]; go_simp
  have e1 : W0.cell? ⟨w.heap.size + 1 + 1, 1, none⟩ = some (.int .i64 0) := by rw [hW0]; go_simp
  have e2 : W0.cell? ⟨w.heap.size + 1 + 1, 2, none⟩ = some (.slice none 0 0) := by rw [hW0]; go_simp
  have f0 : ∀ o, W0.frozen? ⟨w.heap.size + 1 + 1, o, none⟩ = false := by intro o; rw [hW0]; go_simp
  have z0 : W0.heap.size = w.heap.size + 3 := by rw [hW0]; simp
  rw [← hW0]
  clear hW0
  go_wp2_with fail
  refine (Hch.out _ (hr.below hB0) (hs.below hB0)).mono ?_
  rintro e w1 ⟨A, cap, rfl, hp, hA, hb⟩
  have hz1 := hb.size
  have m0 := held_cell hb (by omega) e0
  have m1 := held_cell hb (by omega) e1
  have m2 := held_cell hb (by omega) e2
  have m3 := (hb.frozen (p := ⟨w.heap.size + 1 + 1, 0, none⟩) (by show w.heap.size + 1 + 1 < _; omega)).trans (f0 0)
  have m4 := (hb.frozen (p := ⟨w.heap.size + 1 + 1, 1, none⟩) (by show w.heap.size + 1 + 1 < _; omega)).trans (f0 1)
  have m5 := (hb.frozen (p := ⟨w.heap.size + 1 + 1, 2, none⟩) (by show w.heap.size + 1 + 1 < _; omega)).trans (f0 2)
  have hB := bnext hB0 hb
  clear c0 c1 c2 d0 d1 d2 e0 e1 e2 f0 hb hB0 hr hs Hch
  go_wp2_with fail
  refine bodyPost_ret (v := .agg #[.int .i64 (changeP addP r.x s.x x y).w, .int .i64 (changeP addP r.x s.x x y).h, .slice A (changeP addP r.x s.x x y).p.length cap]) (by simp [results, Try.results60, go_sem, m0, m1, m2, m3, m4, m5]) rfl ?_
  have hne : ∀ a, A = some a → w.heap.size + 1 + 1 ≠ a.block := fun a e => by have := hA a e; omega
  refine ⟨A, cap, rfl, pixs_off (pixs_off (pixs_off hp hne _ _) hne _ _) hne _ _, fun a e => by have := hA a e; omega, ?_⟩
  exact Below.setCell (Below.setCell (Below.setCell hB (by show w.heap.size ≤ w.heap.size + 1 + 1; omega) _) (by show w.heap.size ≤ w.heap.size + 1 + 1; omega) _) (by show w.heap.size ≤ w.heap.size + 1 + 1; omega) _
set_option maxRecDepth 100000 in
set_option maxHeartbeats 1000000 in
theorem put_any (r s : FAt FPic) (x y : Int) (w : World) (hr : Pixs w r.A r.n r.x.p) (hs : Pixs w s.A s.n s.x.p) (fr : PicFine r.x) (fs : PicFine s.x) (bx : -100 ≤ x ∧ x ≤ 100) (b_y : -100 ≤ y ∧ y ≤ 100) :
    Calls Try.prog 61 #[.agg #[.int .i64 r.x.w, .int .i64 r.x.h, .slice r.A r.n r.c], .agg #[.int .i64 s.x.w, .int .i64 s.x.h, .slice s.A s.n s.c], .int .i64 x, .int .i64 y] w (RetPic (changeP putP r.x s.x x y) w) := by
  have hch := fun W hr' hs' => change_any 79 putP (fun args W => Go.MuLone.run_callFunc_enter (P := Try.prog) (f := 79) rfl (by kernel_rfl) rfl args W) (fun a b _ hb => hb) (fun a b W _ _ => put1_any a b W) r s x y W hr' hs' fr fs bx b_y
  have Hch := hid hch
  clear hch
  go_enter Try.func61, Try.ntmps61
  go_upto_region 1 with fail
  obtain ⟨W0, hW0⟩ : ∃ W0, W0 = ((w.alloc (.cells #[.int .i64 r.x.w, .int .i64 r.x.h, .slice r.A r.n r.c] 49)).alloc (.cells #[.int .i64 s.x.w, .int .i64 s.x.h, .slice s.A s.n s.c] 49)).alloc (.cells #[.int .i64 0, .int .i64 0, .slice none 0 0] 49) := ⟨_, rfl⟩
  have hB0 : Below w.heap.size w W0 := by
    rw [hW0]; exact (((Below.refl w.heap.size w).alloc (Nat.le_refl _) _).alloc (by simp) _).alloc (by simp; omega) _
  have c0 : W0.cell? ⟨w.heap.size, 0, none⟩ = some (.int .i64 r.x.w) := by rw [hW0]; go_simp
  have c1 : W0.cell? ⟨w.heap.size, 1, none⟩ = some (.int .i64 r.x.h) := by rw [hW0]; go_simp
  have c2 : W0.cell? ⟨w.heap.size, 2, none⟩ = some (.slice r.A r.n r.c) := by rw [hW0]; go_simp
  have d0 : W0.cell? ⟨w.heap.size + 1, 0, none⟩ = some (.int .i64 s.x.w) := by rw [hW0]; go_simp
  have d1 : W0.cell? ⟨w.heap.size + 1, 1, none⟩ = some (.int .i64 s.x.h) := by rw [hW0]; go_simp
  have d2 : W0.cell? ⟨w.heap.size + 1, 2, none⟩ = some (.slice s.A s.n s.c) := by rw [hW0]; go_simp
  have e0 : W0.cell? ⟨w.heap.size + 1 + 1, 0, none⟩ = some (.int .i64 0) := by rw [hW0]; go_simp
  have e1 : W0.cell? ⟨w.heap.size + 1 + 1, 1, none⟩ = some (.int .i64 0) := by rw [hW0]; go_simp
  have e2 : W0.cell? ⟨w.heap.size + 1 + 1, 2, none⟩ = some (.slice none 0 0) := by rw [hW0]; go_simp
  have f0 : ∀ o, W0.frozen? ⟨w.heap.size + 1 + 1, o, none⟩ = false := by intro o; rw [hW0]; go_simp
  have z0 : W0.heap.size = w.heap.size + 3 := by rw [hW0]; simp
  rw [← hW0]
  clear hW0
  go_wp2_with fail
  refine (Hch.out _ (hr.below hB0) (hs.below hB0)).mono ?_
  rintro e w1 ⟨A, cap, rfl, hp, hA, hb⟩
  have hz1 := hb.size
  have m0 := held_cell hb (by omega) e0
  have m1 := held_cell hb (by omega) e1
  have m2 := held_cell hb (by omega) e2
  have m3 := (hb.frozen (p := ⟨w.heap.size + 1 + 1, 0, none⟩) (by show w.heap.size + 1 + 1 < _; omega)).trans (f0 0)
  have m4 := (hb.frozen (p := ⟨w.heap.size + 1 + 1, 1, none⟩) (by show w.heap.size + 1 + 1 < _; omega)).trans (f0 1)
  have m5 := (hb.frozen (p := ⟨w.heap.size + 1 + 1, 2, none⟩) (by show w.heap.size + 1 + 1 < _; omega)).trans (f0 2)
  have hB := bnext hB0 hb
  clear c0 c1 c2 d0 d1 d2 e0 e1 e2 f0 hb hB0 hr hs Hch
  go_wp2_with fail
  refine bodyPost_ret (v := .agg #[.int .i64 (changeP putP r.x s.x x y).w, .int .i64 (changeP putP r.x s.x x y).h, .slice A (changeP putP r.x s.x x y).p.length cap]) (by simp [results, Try.results61, go_sem, m0, m1, m2, m3, m4, m5]) rfl ?_
  have hne : ∀ a, A = some a → w.heap.size + 1 + 1 ≠ a.block := fun a e => by have := hA a e; omega
  refine ⟨A, cap, rfl, pixs_off (pixs_off (pixs_off hp hne _ _) hne _ _) hne _ _, fun a e => by have := hA a e; omega, ?_⟩
  exact Below.setCell (Below.setCell (Below.setCell hB (by show w.heap.size ≤ w.heap.size + 1 + 1; omega) _) (by show w.heap.size ≤ w.heap.size + 1 + 1; omega) _) (by show w.heap.size ≤ w.heap.size + 1 + 1; omega) _
end Fb
