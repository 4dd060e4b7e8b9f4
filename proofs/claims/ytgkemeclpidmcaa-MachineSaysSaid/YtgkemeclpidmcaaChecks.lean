/- picture.Check returns what the plain law says. Condition: few pixels. objects.Check returns what the plain law says. Condition: few pixels. flickerbooktop.objectFine returns what the plain law says. Conditions: none. -/
import Derived.Test.YtgkemeclpidmcaaPlainB
namespace Fb
open Go Go.Proofs Go.RowKit
theorem ret_err {n m : Nat} (h : n = m) (hm : m ≠ 0) : Ending.returned (.iface 69 (.int .i64 (m : Int))) = .returned (errV n) := by subst h; rw [errV_pos hm]
theorem ret_err0 {n : Nat} (h : n = 0) : Ending.returned .nilIface = .returned (errV n) := by subst h; rfl
set_option maxRecDepth 100000 in
set_option maxHeartbeats 1600000 in
theorem piccheck_any (r : FAt FPic) (w : World) (hl : Pixs w r.A r.n r.x.p) (hn : r.n ≤ 100) :
    Calls Try.prog 70 #[.agg #[.int .i64 r.x.w, .int .i64 r.x.h, .slice r.A r.n r.c]] w (Ret (errV (picFault r.x)) w) := by
  obtain ⟨p, A, n, c⟩ := r
  simp only at hl hn ⊢
  have Hl := hid hl.1
  rcases pic_ways p with h | h | h | h | h
  iterate 4
    · have hr := hid (picFault_size (p := p) (by omega))
      clear hl
      go_enter Try.func70, Try.ntmps70
      go_wp2
      go_ret
      exact ⟨ret_err hr.out (by decide), (Below.refl _ _).alloc (Nat.le_refl _) _⟩
  obtain ⟨q1, q2, q3, q4⟩ := id h
  have hp1 : 1 * 1 ≤ p.w * p.h := Int.mul_le_mul q1 q3 (by omega) (by omega)
  have hp2 : p.w * p.h ≤ 8 * 8 := Int.mul_le_mul q2 q4 (by omega) (by omega)
  have Hh := hid h
  clear h
  have hw : IntKind.i64.wrap (p.w * p.h) = p.w * p.h := IntWalk.i64_in _ (by omega)
  by_cases hne : (p.p.length : Int) ≠ p.w * p.h
  · have hr := hid (picFault_len Hh.out hne)
    rw [Hl.out] at hne
    have hne' : ((n : Int) != p.w * p.h) = true := by simp; exact hne
    clear hl
    go_enter Try.func70, Try.ntmps70
    go_wp2
    go_ret
    exact ⟨ret_err hr.out (by decide), (Below.refl _ _).alloc (Nat.le_refl _) _⟩
  have hee : (p.p.length : Int) = p.w * p.h := by omega
  have Hee := hid hee
  rw [Hl.out] at hee
  have hne' : ((n : Int) != p.w * p.h) = false := by simp; exact hee
  obtain ⟨b, o, rfl, hb, hc⟩ := hl.open_ (by omega)
  have Hc := hid hc
  clear hl hc hne hee
  go_enter Try.func70, Try.ntmps70
  go_upto_region 1 with fail
  obtain ⟨W0, hW0⟩ : ∃ W0, W0 = w.alloc (.cells #[.int .i64 p.w, .int .i64 p.h, .slice (some ⟨b, o, none⟩) n c] 49) := ⟨_, rfl⟩
  have hB0 : Below w.heap.size w W0 := by
    rw [hW0]; exact (Below.refl w.heap.size w).alloc (Nat.le_refl _) _
  have c0 : W0.cell? ⟨w.heap.size, 0, none⟩ = some (.int .i64 p.w) := by rw [hW0]; go_simp
  have c1 : W0.cell? ⟨w.heap.size, 1, none⟩ = some (.int .i64 p.h) := by rw [hW0]; go_simp
  have c2 : W0.cell? ⟨w.heap.size, 2, none⟩ = some (.slice (some ⟨b, o, none⟩) n c) := by rw [hW0]; go_simp
  have z0 : W0.heap.size = w.heap.size + 1 := by rw [hW0]; simp
  rw [← hW0]
  clear hW0
  go_wp2_with fail
  go_loopw [37] (fun i wr => ∃ k : Nat, k ≤ n ∧ i = .int .i64 k ∧ (p.p.take k).all pxB = true ∧ Below W0.heap.size W0 wr) (fun i _ => n - (intOf i).toNat)
  case atStart => exact ⟨0, by omega, rfl, rfl, Below.refl _ _⟩
  case round =>
    obtain ⟨k, hk, rfl, ha, hbel⟩ := hrel
    have Ha := hid ha
    clear ha
    have d2 := held_cellP hbel (by omega) c2
    by_cases hlt : k < n
    · have k1 : k < p.p.length := by rw [Hl.out]; exact hlt
      obtain ⟨x0, x1⟩ := Hc.out k k1
      have y0 := held_cellP hbel (b := b) (by omega) ((hB0.cell (p := ⟨b, _, none⟩) hb).trans x0)
      have y1 := held_cellP hbel (b := b) (by omega) ((hB0.cell (p := ⟨b, _, none⟩) hb).trans x1)
      have Hbad := hid (fun e : pxB p.p[k] = false => picFault_px Hh.out Hee.out (all_badG k1 e))
      have Hst := hid (fun e : pxB p.p[k] = true => all_stepG k1 Ha.out e)
      generalize p.p[k] = px at *
      obtain ⟨pv, pa⟩ := px
      clear x0 x1
      simp only at y0 y1
      have hB := hB0.trans (hbel.mono hB0.size)
      rcases px_ways pv pa with ⟨g1, g⟩ | ⟨g1, g2, g⟩ | ⟨g1, g2, g3, g⟩ | ⟨g1, g2, g3, g4, g⟩ | ⟨g1, g2, g3, g4, g⟩
      iterate 4
        · have hr := hid (Hbad.out g)
          clear g
          go_wp2_with fail
          go_ret
          exact ⟨ret_err hr.out (by decide), hB.alloc hB.size _⟩
      have hst := hid (Hst.out g)
      clear g
      go_wp2_with fail
      go_roundw
      case rel => exact ⟨k + 1, by omega, by go_num, hst.out, hbel.alloc hbel.size _⟩
      case measure => simp [intOf]; omega
    · obtain rfl : k = n := by omega
      have hr := hid (picFault_ok Hh.out Hee.out (by have := Ha.out; rw [List.take_of_length_le (by rw [Hl.out]; omega)] at this; exact this))
      have hB := hB0.trans (hbel.mono hB0.size)
      go_wp2_with fail
      go_ret
      exact ⟨ret_err0 hr.out, hB⟩
end Fb
namespace Fb
open Go Go.Proofs Go.RowKit
theorem ret_val {n m : Nat} (h : n = m) : Ending.returned (errV n) = .returned (errV m) := by rw [h]
end Fb
namespace Fb
open Go Go.Proofs Go.RowKit
abbrev objV (r : FAt FObj) : Value := .agg #[.int .i64 r.x.id, .int .i64 r.x.x, .int .i64 r.x.y, .int .i64 r.x.pic.w, .int .i64 r.x.pic.h, .slice r.A r.n r.c, .int .i64 r.x.clip.x, .int .i64 r.x.clip.y, .int .i64 r.x.clip.w, .int .i64 r.x.clip.h, .bool r.x.shown]
def fineB (r : FAt FObj) : Bool := decide (r.n ≤ 80) && decide (objFault r.x = 0)
theorem fineB_fault {r : FAt FObj} (h : fineB r = true) : objFault r.x = 0 := by unfold fineB at h; simp at h; exact h.2
theorem fineB_few {r : FAt FObj} (h : fineB r = true) : r.n ≤ 80 := by unfold fineB at h; simp at h; exact h.1
theorem fineB_no {r : FAt FObj} (h : ¬ r.n ≤ 80) : fineB r = false := by unfold fineB; simp; omega
theorem fineB_bad {r : FAt FObj} (h : r.n ≤ 80) (h2 : objFault r.x ≠ 0) : fineB r = false := by unfold fineB; simp [h, h2]
theorem fineB_ok {r : FAt FObj} (h : r.n ≤ 80) (h2 : objFault r.x = 0) : fineB r = true := by unfold fineB; simp [h, h2]
end Fb
