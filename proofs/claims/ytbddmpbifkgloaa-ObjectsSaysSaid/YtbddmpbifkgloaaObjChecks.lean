/- objects.Check returns what the plain law says. Condition: few pixels. flickerbooktop.objectFine returns what the plain law says. Conditions: none. -/
import Derived.Test.YtbddmpbifkgloaaPicCheck
import Derived.Test.YtbddmpbifkgloaaObjFault
namespace Fb
open Go Go.Proofs Go.RowKit
theorem ret_val {n m : Nat} (h : n = m) : Ending.returned (errV n) = .returned (errV m) := by rw [h]
set_option maxRecDepth 100000 in
set_option maxHeartbeats 1600000 in
theorem objcheck_any (r : FAt FObj) (w : World) (hl : Pixs w r.A r.n r.x.pic.p) (hn : r.n ≤ 100) :
    Calls Try.prog 11 #[.agg #[.int .i64 r.x.id, .int .i64 r.x.x, .int .i64 r.x.y, .int .i64 r.x.pic.w, .int .i64 r.x.pic.h, .slice r.A r.n r.c, .int .i64 r.x.clip.x, .int .i64 r.x.clip.y, .int .i64 r.x.clip.w, .int .i64 r.x.clip.h, .bool r.x.shown]] w (Ret (errV (objFault r.x)) w) := by
  rcases obj_ways r.x.id r.x.x r.x.y with h | h | h | h | h | h | h
  iterate 6
    · have hr := hid (show objFault r.x = 1 by unfold objFault; rw [if_neg (by omega)])
      clear hl
      go_enter Try.func11, Try.ntmps11
      go_wp2
      go_ret
      exact ⟨ret_err hr.out (by decide), (Below.refl _ _).alloc (Nat.le_refl _) _⟩
  have hr := hid (show objFault r.x = if rectFault r.x.clip = 0 then picFault r.x.pic else 1 by unfold objFault; rw [if_pos (by omega)])
  have Hrect := hid (fun W => rcheck_any r.x.clip W)
  have Hpic := hid (fun W hp => piccheck_any ⟨r.x.pic, r.A, r.n, r.c⟩ W hp hn)
  have hle := rectFault_le r.x.clip
  go_enter Try.func11, Try.ntmps11
  go_upto_region 1 with fail
  obtain ⟨W0, hW0⟩ : ∃ W0, W0 = w.alloc (.cells #[.int .i64 r.x.id, .int .i64 r.x.x, .int .i64 r.x.y, .int .i64 r.x.pic.w, .int .i64 r.x.pic.h, .slice r.A r.n r.c, .int .i64 r.x.clip.x, .int .i64 r.x.clip.y, .int .i64 r.x.clip.w, .int .i64 r.x.clip.h, .bool r.x.shown] 29) := ⟨_, rfl⟩
  have hB0 : Below w.heap.size w W0 := by
    rw [hW0]; exact (Below.refl w.heap.size w).alloc (Nat.le_refl _) _
  have c0 : W0.cell? ⟨w.heap.size, 0, none⟩ = some (.int .i64 r.x.id) := by rw [hW0]; go_simp
  have c1 : W0.cell? ⟨w.heap.size, 1, none⟩ = some (.int .i64 r.x.x) := by rw [hW0]; go_simp
  have c2 : W0.cell? ⟨w.heap.size, 2, none⟩ = some (.int .i64 r.x.y) := by rw [hW0]; go_simp
  have c3 : W0.cell? ⟨w.heap.size, 3, none⟩ = some (.int .i64 r.x.pic.w) := by rw [hW0]; go_simp
  have c4 : W0.cell? ⟨w.heap.size, 4, none⟩ = some (.int .i64 r.x.pic.h) := by rw [hW0]; go_simp
  have c5 : W0.cell? ⟨w.heap.size, 5, none⟩ = some (.slice r.A r.n r.c) := by rw [hW0]; go_simp
  have c6 : W0.cell? ⟨w.heap.size, 6, none⟩ = some (.int .i64 r.x.clip.x) := by rw [hW0]; go_simp
  have c7 : W0.cell? ⟨w.heap.size, 7, none⟩ = some (.int .i64 r.x.clip.y) := by rw [hW0]; go_simp
  have c8 : W0.cell? ⟨w.heap.size, 8, none⟩ = some (.int .i64 r.x.clip.w) := by rw [hW0]; go_simp
  have c9 : W0.cell? ⟨w.heap.size, 9, none⟩ = some (.int .i64 r.x.clip.h) := by rw [hW0]; go_simp
  have z0 : W0.heap.size = w.heap.size + 1 := by rw [hW0]; simp
  rw [← hW0]
  clear hW0
  go_wp2_with fail
  refine (Hrect.out _).mono ?_
  rintro e w1 ⟨rfl, hb⟩
  have k3 := held_cellP hb (by omega) c3
  have k4 := held_cellP hb (by omega) c4
  have k5 := held_cellP hb (by omega) c5
  have hB1 := bnext hB0 hb
  clear c0 c1 c2 c3 c4 c5 c6 c7 c8 c9 hb hB0
  by_cases hf : rectFault r.x.clip = 0
  · have hr2 := hid (show objFault r.x = picFault r.x.pic by rw [hr.out, if_pos hf])
    rw [hf, errV_zero]
    go_wp2_with fail
    refine (Hpic.out _ (hl.below hB1)).mono ?_
    rintro e w2 ⟨rfl, hb⟩
    have hB := bnext hB1 hb
    go_wp2_with fail
    go_ret
    exact ⟨ret_val hr2.out.symm, hB⟩
  · obtain hf1 : rectFault r.x.clip = 1 := by omega
    have hr2 := hid (show objFault r.x = 1 by rw [hr.out, if_neg hf])
    rw [hf1, errV_pos (by decide)]
    go_wp2_with fail
    go_ret
    exact ⟨ret_err hr2.out (by decide), hB1⟩
end Fb
namespace Fb
open Go Go.Proofs Go.RowKit
abbrev objV (r : FAt FObj) : Value := .agg #[.int .i64 r.x.id, .int .i64 r.x.x, .int .i64 r.x.y, .int .i64 r.x.pic.w, .int .i64 r.x.pic.h, .slice r.A r.n r.c, .int .i64 r.x.clip.x, .int .i64 r.x.clip.y, .int .i64 r.x.clip.w, .int .i64 r.x.clip.h, .bool r.x.shown]
def fineB (r : FAt FObj) : Bool := decide (r.n ≤ 80) && decide (objFault r.x = 0)
theorem fineB_fault {r : FAt FObj} (h : fineB r = true) : objFault r.x = 0 := by unfold fineB at h; simp at h; exact h.2
theorem fineB_few {r : FAt FObj} (h : fineB r = true) : r.n ≤ 80 := by unfold fineB at h; simp at h; exact h.1
theorem fineB_no {r : FAt FObj} (h : ¬ r.n ≤ 80) : fineB r = false := by unfold fineB; simp; omega
theorem fineB_bad {r : FAt FObj} (h : r.n ≤ 80) (h2 : objFault r.x ≠ 0) : fineB r = false := by unfold fineB; simp [h, h2]
theorem fineB_ok {r : FAt FObj} (h : r.n ≤ 80) (h2 : objFault r.x = 0) : fineB r = true := by unfold fineB; simp [h, h2]
end Fb
