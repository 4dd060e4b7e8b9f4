/- flickerbooktop.objectFine returns what the plain law says. Conditions: none. -/
import Derived.Test.YtjbnmgobgcgjmaaObjCheck
namespace Fb
open Go Go.Proofs Go.RowKit
abbrev objV (r : FAt FObj) : Value := .agg #[.int .i64 r.x.id, .int .i64 r.x.x, .int .i64 r.x.y, .int .i64 r.x.pic.w, .int .i64 r.x.pic.h, .slice r.A r.n r.c, .int .i64 r.x.clip.x, .int .i64 r.x.clip.y, .int .i64 r.x.clip.w, .int .i64 r.x.clip.h, .bool r.x.shown]
def fineB (r : FAt FObj) : Bool := decide (r.n ≤ 80) && decide (objFault r.x = 0)
theorem fineB_fault {r : FAt FObj} (h : fineB r = true) : objFault r.x = 0 := by unfold fineB at h; simp at h; exact h.2
theorem fineB_few {r : FAt FObj} (h : fineB r = true) : r.n ≤ 80 := by unfold fineB at h; simp at h; exact h.1
theorem fineB_no {r : FAt FObj} (h : ¬ r.n ≤ 80) : fineB r = false := by unfold fineB; simp; omega
theorem fineB_bad {r : FAt FObj} (h : r.n ≤ 80) (h2 : objFault r.x ≠ 0) : fineB r = false := by unfold fineB; simp [h, h2]
theorem fineB_ok {r : FAt FObj} (h : r.n ≤ 80) (h2 : objFault r.x = 0) : fineB r = true := by unfold fineB; simp [h, h2]
set_option maxRecDepth 100000 in
set_option maxHeartbeats 1600000 in
theorem objfine_any (r : FAt FObj) (w : World) (hl : Pixs w r.A r.n r.x.pic.p) :
    Calls Try.prog 24 #[objV r] w (Ret (.bool (fineB r)) w) := by
  obtain ⟨⟨oi, ox, oy, ⟨ow, oh, ol⟩, ⟨orx, ory, orw, orh⟩, os⟩, oA, on, oc⟩ := r
  simp only at hl ⊢
  have Hl := hid hl
  clear hl
  have HN := hid (fineB_no (r := ⟨⟨oi, ox, oy, ⟨ow, oh, ol⟩, ⟨orx, ory, orw, orh⟩, os⟩, oA, on, oc⟩))
  have HB := hid (fineB_bad (r := ⟨⟨oi, ox, oy, ⟨ow, oh, ol⟩, ⟨orx, ory, orw, orh⟩, os⟩, oA, on, oc⟩))
  have HO := hid (fineB_ok (r := ⟨⟨oi, ox, oy, ⟨ow, oh, ol⟩, ⟨orx, ory, orw, orh⟩, os⟩, oA, on, oc⟩))
  have Hc := hid (fun W (hn : on ≤ 100) (hb : Below w.heap.size w W) => objcheck_any ⟨⟨oi, ox, oy, ⟨ow, oh, ol⟩, ⟨orx, ory, orw, orh⟩, os⟩, oA, on, oc⟩ W (Hl.out.below hb) hn)
  generalize fineB ⟨⟨oi, ox, oy, ⟨ow, oh, ol⟩, ⟨orx, ory, orw, orh⟩, os⟩, oA, on, oc⟩ = R at *
  generalize objFault ⟨oi, ox, oy, ⟨ow, oh, ol⟩, ⟨orx, ory, orw, orh⟩, os⟩ = F at *
  go_enter Try.func24, Try.ntmps24
  go_upto_region 1 with fail
  obtain ⟨W0, hW0⟩ : ∃ W0, W0 = w.alloc (.cells #[.int .i64 oi, .int .i64 ox, .int .i64 oy, .int .i64 ow, .int .i64 oh, .slice oA on oc, .int .i64 orx, .int .i64 ory, .int .i64 orw, .int .i64 orh, .bool os] 30) := ⟨_, rfl⟩
  have hB0 : Below w.heap.size w W0 := by rw [hW0]; exact (Below.refl w.heap.size w).alloc (Nat.le_refl _) _
  have hz : w.heap.size < W0.heap.size := by rw [hW0]; simp
  have c0 : W0.cell? ⟨w.heap.size, 0, none⟩ = some (.int .i64 oi) := by rw [hW0]; go_simp
  have c1 : W0.cell? ⟨w.heap.size, 1, none⟩ = some (.int .i64 ox) := by rw [hW0]; go_simp
  have c2 : W0.cell? ⟨w.heap.size, 2, none⟩ = some (.int .i64 oy) := by rw [hW0]; go_simp
  have c3 : W0.cell? ⟨w.heap.size, 3, none⟩ = some (.int .i64 ow) := by rw [hW0]; go_simp
  have c4 : W0.cell? ⟨w.heap.size, 4, none⟩ = some (.int .i64 oh) := by rw [hW0]; go_simp
  have c5 : W0.cell? ⟨w.heap.size, 5, none⟩ = some (.slice oA on oc) := by rw [hW0]; go_simp
  have c6 : W0.cell? ⟨w.heap.size, 6, none⟩ = some (.int .i64 orx) := by rw [hW0]; go_simp
  have c7 : W0.cell? ⟨w.heap.size, 7, none⟩ = some (.int .i64 ory) := by rw [hW0]; go_simp
  have c8 : W0.cell? ⟨w.heap.size, 8, none⟩ = some (.int .i64 orw) := by rw [hW0]; go_simp
  have c9 : W0.cell? ⟨w.heap.size, 9, none⟩ = some (.int .i64 orh) := by rw [hW0]; go_simp
  have c10 : W0.cell? ⟨w.heap.size, 10, none⟩ = some (.bool os) := by rw [hW0]; go_simp
  rw [← hW0]
  clear hW0
  go_wp2_with fail
  refine (lightpic_any ⟨⟨ow, oh, ol⟩, oA, on, oc⟩ _).mono ?_
  rintro e w1 ⟨rfl, hb⟩
  have hB1 := bnext hB0 hb
  by_cases hn : on ≤ 80
  · have hd : decide (on ≤ 80) = true := by simp [hn]
    simp only [hd]
    clear hd
    obtain ⟨hbc, hbf⟩ := bcell hb
    go_wp2_with fail
    refine (Hc.out _ (by omega) hB1).mono ?_
    rintro e w2 ⟨rfl, hb2⟩
    have hB2 := bnext hB1 hb2
    cases F with
    | zero =>
      have hr := hid (HO.out hn rfl)
      rw [errV_zero]
      clear hb hb2 hbc hbf
      go_wp2_with fail
      go_ret
      exact ⟨ret_bool hr.out.symm, hB2⟩
    | succ F =>
      have hr := hid (HB.out hn (Nat.succ_ne_zero F))
      rw [errV_pos (Nat.succ_ne_zero F)]
      clear hb hb2 hbc hbf
      go_wp2_with fail
      go_ret
      exact ⟨ret_bool hr.out.symm, hB2⟩
  · have hd : decide (on ≤ 80) = false := by simp; omega
    have hr := hid (HN.out hn)
    simp only [hd]
    go_wp2_with fail
    go_ret
    exact ⟨ret_bool hr.out.symm, hB1⟩
end Fb
