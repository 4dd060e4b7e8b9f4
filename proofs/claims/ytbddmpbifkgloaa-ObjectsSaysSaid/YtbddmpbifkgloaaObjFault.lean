/- The reference's ObjectFault returns what the plain law says. Condition: few pixels. -/
import Derived.Test.YtbddmpbifkgloaaPicFault
namespace Fb
open Go Go.Proofs Go.RowKit Go.Sort
def objFault (o : FObj) : Nat := if 1 ≤ o.id ∧ o.id ≤ 6 ∧ -20 ≤ o.x ∧ o.x ≤ 20 ∧ -20 ≤ o.y ∧ o.y ≤ 20 then (if rectFault o.clip = 0 then picFault o.pic else 1) else 1
theorem objFault_le (o : FObj) : objFault o ≤ 3 := by
  have := picFault_le o.pic
  unfold objFault
  split
  · split <;> omega
  · omega
/-- an object that may be -/
def ObjFine (o : FObj) : Prop := (1 ≤ o.id ∧ o.id ≤ 6 ∧ -20 ≤ o.x ∧ o.x ≤ 20 ∧ -20 ≤ o.y ∧ o.y ≤ 20) ∧ rectFault o.clip = 0 ∧ PicFine o.pic
theorem objFault_fine {o : FObj} : objFault o = 0 ↔ ObjFine o := by
  unfold objFault ObjFine
  constructor
  · intro h
    by_cases h1 : 1 ≤ o.id ∧ o.id ≤ 6 ∧ -20 ≤ o.x ∧ o.x ≤ 20 ∧ -20 ≤ o.y ∧ o.y ≤ 20
    · rw [if_pos h1] at h
      by_cases h2 : rectFault o.clip = 0
      · rw [if_pos h2] at h
        exact ⟨h1, h2, picFault_fine.1 h⟩
      · rw [if_neg h2] at h; cases h
    · rw [if_neg h1] at h; cases h
  · rintro ⟨h1, h2, h3⟩
    rw [if_pos h1, if_pos h2]
    exact picFault_fine.2 h3
theorem obj_ways (i x y : Int) : (i < 1) ∨ (1 ≤ i ∧ 6 < i) ∨ (1 ≤ i ∧ i ≤ 6 ∧ x < -20) ∨ (1 ≤ i ∧ i ≤ 6 ∧ -20 ≤ x ∧ 20 < x) ∨ (1 ≤ i ∧ i ≤ 6 ∧ -20 ≤ x ∧ x ≤ 20 ∧ y < -20) ∨ (1 ≤ i ∧ i ≤ 6 ∧ -20 ≤ x ∧ x ≤ 20 ∧ -20 ≤ y ∧ 20 < y) ∨
    (1 ≤ i ∧ i ≤ 6 ∧ -20 ≤ x ∧ x ≤ 20 ∧ -20 ≤ y ∧ y ≤ 20) := by omega
set_option maxRecDepth 100000 in
set_option maxHeartbeats 1600000 in
theorem robjfault_any (r : FAt FObj) (w : World) (hl : Pixs w r.A r.n r.x.pic.p) (hn : r.n ≤ 100) :
    Calls Try.prog 12 #[.agg #[.int .i64 r.x.id, .int .i64 r.x.x, .int .i64 r.x.y, .int .i64 r.x.pic.w, .int .i64 r.x.pic.h, .slice r.A r.n r.c, .int .i64 r.x.clip.x, .int .i64 r.x.clip.y, .int .i64 r.x.clip.w, .int .i64 r.x.clip.h, .bool r.x.shown]] w (Ret (.int .i64 (objFault r.x)) w) := by
  rcases obj_ways r.x.id r.x.x r.x.y with h | h | h | h | h | h | h
  iterate 6
    · have hr := hid (show objFault r.x = 1 by unfold objFault; rw [if_neg (by omega)])
      clear hl
      go_enter Try.func12, Try.ntmps12
      go_wp2
      go_ret
      exact ⟨ret_nat hr.out.symm, (Below.refl _ _).alloc (Nat.le_refl _) _⟩
  have hr := hid (show objFault r.x = if rectFault r.x.clip = 0 then picFault r.x.pic else 1 by unfold objFault; rw [if_pos (by omega)])
  have Hrect := hid (fun W => rrectfault_any r.x.clip W)
  have Hpic := hid (fun W hp => rpicfault_any ⟨r.x.pic, r.A, r.n, r.c⟩ W hp hn)
  have hle := rectFault_le r.x.clip
  go_enter Try.func12, Try.ntmps12
  go_upto_region 1 with fail
  obtain ⟨W0, hW0⟩ : ∃ W0, W0 = w.alloc (.cells #[.int .i64 r.x.id, .int .i64 r.x.x, .int .i64 r.x.y, .int .i64 r.x.pic.w, .int .i64 r.x.pic.h, .slice r.A r.n r.c, .int .i64 r.x.clip.x, .int .i64 r.x.clip.y, .int .i64 r.x.clip.w, .int .i64 r.x.clip.h, .bool r.x.shown] 29) := ⟨_, rfl⟩
  have hB0 : Below w.heap.size w W0 := by
    rw [hW0]; exact (Below.refl w.heap.size w).alloc (Nat.le_refl _) _
  have c0 : W0.cell? ⟨w.heap.size, 0, none⟩ = some (.int .i64 r.x.id) := by rw [hW0]; go_simp
  have c1 : W0.cell? ⟨w.heap.size, 1, none⟩ = some (.int .i64 r.x.x) := by rw [hW0]; go_simp
  have c2 : W0.cell? ⟨w.heap.size, 2, none⟩ = some (.int .i64 r.x.y) := by rw [hW0]; go_simp
  have c3 : W0.cell? ⟨w.heap.size, 3, none⟩ = some (.int .i64 r.x.pic.w) := by rw [hW0]; go_simp
  have c4 : W0.cell? ⟨w.heap.size, 4, none⟩ = some (.int .i64 r.x.pic.h) := by rw [hW0]; go_simp
  have c5 : W0.cell? ⟨w.heap.size, 5, none⟩ = some (.slice r.A r.n r.c) := by rw [hW0]; go_simp
  have c6 : W0.cell? ⟨w.heap.size, 6, none⟩ = some (.int .i64 r.x.clip.x) := by rw [hW0]; go_simp
  have c7 : W0.cell? ⟨w.heap.size, 7, none⟩ = some (.int .i64 r.x.clip.y) := by rw [hW0]; go_simp
  have c8 : W0.cell? ⟨w.heap.size, 8, none⟩ = some (.int .i64 r.x.clip.w) := by rw [hW0]; go_simp
  have c9 : W0.cell? ⟨w.heap.size, 9, none⟩ = some (.int .i64 r.x.clip.h) := by rw [hW0]; go_simp
  have z0 : W0.heap.size = w.heap.size + 1 := by rw [hW0]; simp
  rw [← hW0]
  clear hW0
  go_wp2_with fail
  refine (Hrect.out _).mono ?_
  rintro e w1 ⟨rfl, hb⟩
  have k3 := held_cellP hb (by omega) c3
  have k4 := held_cellP hb (by omega) c4
  have k5 := held_cellP hb (by omega) c5
  have hB1 := bnext hB0 hb
  clear c0 c1 c2 c3 c4 c5 c6 c7 c8 c9 hb hB0
  by_cases hf : rectFault r.x.clip = 0
  · have hr2 := hid (show objFault r.x = picFault r.x.pic by rw [hr.out, if_pos hf])
    rw [hf]
    go_wp2_with fail
    refine (Hpic.out _ (hl.below hB1)).mono ?_
    rintro e w2 ⟨rfl, hb⟩
    have hB := bnext hB1 hb
    go_wp2_with fail
    go_ret
    exact ⟨ret_nat hr2.out.symm, hB⟩
  · obtain hf1 : rectFault r.x.clip = 1 := by omega
    have hr2 := hid (show objFault r.x = 1 by rw [hr.out, if_neg hf])
    rw [hf1]
    go_wp2_with fail
    go_ret
    exact ⟨ret_nat hr2.out.symm, hB1⟩
end Fb
