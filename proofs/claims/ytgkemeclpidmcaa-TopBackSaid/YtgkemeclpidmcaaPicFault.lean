/- The reference's PictureFault and ObjectFault return what the plain laws say. Condition: few pixels. -/
import Derived.Test.YtgkemeclpidmcaaBlendLaw
import Derived.Test.YtgkemeclpidmcaaRectWalk
import Derived.Test.YtgkemeclpidmcaaLightPic
namespace Fb
open Go Go.Proofs Go.RowKit Go.Sort
def pxB (p : Px) : Bool := decide (0 ≤ p.1 ∧ p.1 ≤ 255 ∧ 0 ≤ p.2 ∧ p.2 ≤ 255)
def picFault (p : FPic) : Nat := if 1 ≤ p.w ∧ p.w ≤ 8 ∧ 1 ≤ p.h ∧ p.h ≤ 8 then (if (p.p.length : Int) = p.w * p.h then (if p.p.all pxB then 0 else 1) else 3) else 1
theorem picFault_size {p : FPic} (h : p.w < 1 ∨ 8 < p.w ∨ p.h < 1 ∨ 8 < p.h) : picFault p = 1 := by unfold picFault; rw [if_neg (by omega)]
theorem picFault_len {p : FPic} (h : 1 ≤ p.w ∧ p.w ≤ 8 ∧ 1 ≤ p.h ∧ p.h ≤ 8) (hl : (p.p.length : Int) ≠ p.w * p.h) : picFault p = 3 := by unfold picFault; rw [if_pos h, if_neg hl]
theorem picFault_px {p : FPic} (h : 1 ≤ p.w ∧ p.w ≤ 8 ∧ 1 ≤ p.h ∧ p.h ≤ 8) (hl : (p.p.length : Int) = p.w * p.h) (hp : p.p.all pxB = false) : picFault p = 1 := by unfold picFault; rw [if_pos h, if_pos hl, hp]; rfl
theorem picFault_ok {p : FPic} (h : 1 ≤ p.w ∧ p.w ≤ 8 ∧ 1 ≤ p.h ∧ p.h ≤ 8) (hl : (p.p.length : Int) = p.w * p.h) (hp : p.p.all pxB = true) : picFault p = 0 := by unfold picFault; rw [if_pos h, if_pos hl, hp]; rfl
theorem picFault_le (p : FPic) : picFault p ≤ 3 := by
  unfold picFault
  split
  · split
    · split <;> omega
    · omega
  · omega
theorem picFault_fine {p : FPic} : picFault p = 0 ↔ PicFine p := by
  unfold picFault PicFine
  constructor
  · intro h
    by_cases h1 : 1 ≤ p.w ∧ p.w ≤ 8 ∧ 1 ≤ p.h ∧ p.h ≤ 8
    · rw [if_pos h1] at h
      by_cases h2 : (p.p.length : Int) = p.w * p.h
      · rw [if_pos h2] at h
        by_cases h3 : p.p.all pxB = true
        · refine ⟨h1.1, h1.2.1, h1.2.2.1, h1.2.2.2, h2, fun q hq => ?_⟩
          have := List.all_eq_true.1 h3 q hq
          unfold pxB at this
          have t := of_decide_eq_true this
          exact t
        · rw [if_neg h3] at h; cases h
      · rw [if_neg h2] at h; cases h
    · rw [if_neg h1] at h; cases h
  · rintro ⟨h1, h2, h3, h4, h5, h6⟩
    rw [if_pos ⟨h1, h2, h3, h4⟩, if_pos h5, if_pos]
    rw [List.all_eq_true]
    intro q hq
    have h7 := h6 q hq
    unfold PxFine at h7
    exact decide_eq_true h7
theorem px_ways (v a : Int) : (v < 0 ∧ pxB (v, a) = false) ∨ (0 ≤ v ∧ 255 < v ∧ pxB (v, a) = false) ∨ (0 ≤ v ∧ v ≤ 255 ∧ a < 0 ∧ pxB (v, a) = false) ∨ (0 ≤ v ∧ v ≤ 255 ∧ 0 ≤ a ∧ 255 < a ∧ pxB (v, a) = false) ∨ (0 ≤ v ∧ v ≤ 255 ∧ 0 ≤ a ∧ a ≤ 255 ∧ pxB (v, a) = true) := by
  have e : pxB (v, a) = decide (0 ≤ v ∧ v ≤ 255 ∧ 0 ≤ a ∧ a ≤ 255) := rfl
  by_cases c1 : v < 0
  · exact .inl ⟨c1, by rw [e]; simp; omega⟩
  by_cases c2 : 255 < v
  · exact .inr (.inl ⟨by omega, c2, by rw [e]; simp; omega⟩)
  by_cases c3 : a < 0
  · exact .inr (.inr (.inl ⟨by omega, by omega, c3, by rw [e]; simp; omega⟩))
  by_cases c4 : 255 < a
  · exact .inr (.inr (.inr (.inl ⟨by omega, by omega, by omega, c4, by rw [e]; simp; omega⟩)))
  · exact .inr (.inr (.inr (.inr ⟨by omega, by omega, by omega, by omega, by rw [e]; simp; omega⟩)))
theorem pic_ways (p : FPic) : (p.w < 1) ∨ (1 ≤ p.w ∧ 8 < p.w) ∨ (1 ≤ p.w ∧ p.w ≤ 8 ∧ p.h < 1) ∨ (1 ≤ p.w ∧ p.w ≤ 8 ∧ 1 ≤ p.h ∧ 8 < p.h) ∨ (1 ≤ p.w ∧ p.w ≤ 8 ∧ 1 ≤ p.h ∧ p.h ≤ 8) := by omega
/-- a cell of an old block reads as before -/
theorem held_cellP {w w' : World} {B : Nat} (hb : Below B w w') {b o : Nat} {v : Value} (h : b < B) (hc : w.cell? ⟨b, o, none⟩ = some v) : w'.cell? ⟨b, o, none⟩ = some v := (hb.cell (p := ⟨b, o, none⟩) h).trans hc
theorem ret_nat {a b : Nat} (h : a = b) : Ending.returned (.int .i64 (a : Int)) = .returned (.int .i64 (b : Int)) := by rw [h]
set_option maxRecDepth 100000 in
set_option maxHeartbeats 1600000 in
theorem rpicfault_any (r : FAt FPic) (w : World) (hl : Pixs w r.A r.n r.x.p) (hn : r.n ≤ 100) :
    Calls Try.prog 51 #[.agg #[.int .i64 r.x.w, .int .i64 r.x.h, .slice r.A r.n r.c]] w (Ret (.int .i64 (picFault r.x)) w) := by
  obtain ⟨p, A, n, c⟩ := r
  simp only at hl hn ⊢
  have Hl := hid hl.1
  rcases pic_ways p with h | h | h | h | h
  iterate 4
    · have hr := hid (picFault_size (p := p) (by omega))
      clear hl
      go_enter Try.func51, Try.ntmps51
      go_wp2
      go_ret
      exact ⟨ret_nat hr.out.symm, (Below.refl _ _).alloc (Nat.le_refl _) _⟩
  obtain ⟨q1, q2, q3, q4⟩ := id h
  have hp1 : 1 * 1 ≤ p.w * p.h := Int.mul_le_mul q1 q3 (by omega) (by omega)
  have hp2 : p.w * p.h ≤ 8 * 8 := Int.mul_le_mul q2 q4 (by omega) (by omega)
  have Hh := hid h
  clear h
  have hw : IntKind.i64.wrap (p.w * p.h) = p.w * p.h := IntWalk.i64_in _ (by omega)
  by_cases hne : (p.p.length : Int) ≠ p.w * p.h
  · have hr := hid (picFault_len Hh.out hne)
    rw [Hl.out] at hne
    have hne' : ((n : Int) != p.w * p.h) = true := by simp; exact hne
    clear hl
    go_enter Try.func51, Try.ntmps51
    go_wp2
    go_ret
    exact ⟨ret_nat hr.out.symm, (Below.refl _ _).alloc (Nat.le_refl _) _⟩
  have hee : (p.p.length : Int) = p.w * p.h := by omega
  have Hee := hid hee
  rw [Hl.out] at hee
  have hne' : ((n : Int) != p.w * p.h) = false := by simp; exact hee
  obtain ⟨b, o, rfl, hb, hc⟩ := hl.open_ (by omega)
  have Hc := hid hc
  clear hl hc hne hee
  go_enter Try.func51, Try.ntmps51
  go_upto_region 1 with fail
  obtain ⟨W0, hW0⟩ : ∃ W0, W0 = w.alloc (.cells #[.int .i64 p.w, .int .i64 p.h, .slice (some ⟨b, o, none⟩) n c] 49) := ⟨_, rfl⟩
  have hB0 : Below w.heap.size w W0 := by
    rw [hW0]; exact (Below.refl w.heap.size w).alloc (Nat.le_refl _) _
  have c0 : W0.cell? ⟨w.heap.size, 0, none⟩ = some (.int .i64 p.w) := by rw [hW0]; go_simp
  have c1 : W0.cell? ⟨w.heap.size, 1, none⟩ = some (.int .i64 p.h) := by rw [hW0]; go_simp
  have c2 : W0.cell? ⟨w.heap.size, 2, none⟩ = some (.slice (some ⟨b, o, none⟩) n c) := by rw [hW0]; go_simp
  have z0 : W0.heap.size = w.heap.size + 1 := by rw [hW0]; simp
  rw [← hW0]
  clear hW0
  go_wp2_with fail
  go_loopw [3] (fun i wr => ∃ k : Nat, k ≤ n ∧ i = .int .i64 k ∧ (p.p.take k).all pxB = true ∧ Below W0.heap.size W0 wr) (fun i _ => n - (intOf i).toNat)
  case atStart => exact ⟨0, by omega, rfl, rfl, Below.refl _ _⟩
  case round =>
    obtain ⟨k, hk, rfl, ha, hbel⟩ := hrel
    have Ha := hid ha
    clear ha
    have d2 := held_cellP hbel (by omega) c2
    by_cases hlt : k < n
    · have k1 : k < p.p.length := by rw [Hl.out]; exact hlt
      obtain ⟨x0, x1⟩ := Hc.out k k1
      have y0 := held_cellP hbel (b := b) (by omega) ((hB0.cell (p := ⟨b, _, none⟩) hb).trans x0)
      have y1 := held_cellP hbel (b := b) (by omega) ((hB0.cell (p := ⟨b, _, none⟩) hb).trans x1)
      have Hbad := hid (fun e : pxB p.p[k] = false => picFault_px Hh.out Hee.out (all_badG k1 e))
      have Hst := hid (fun e : pxB p.p[k] = true => all_stepG k1 Ha.out e)
      generalize p.p[k] = px at *
      obtain ⟨pv, pa⟩ := px
      clear x0 x1
      simp only at y0 y1
      have hB := hB0.trans (hbel.mono hB0.size)
      rcases px_ways pv pa with ⟨g1, g⟩ | ⟨g1, g2, g⟩ | ⟨g1, g2, g3, g⟩ | ⟨g1, g2, g3, g4, g⟩ | ⟨g1, g2, g3, g4, g⟩
      iterate 4
        · have hr := hid (Hbad.out g)
          clear g
          go_wp2_with fail
          go_ret
          exact ⟨ret_nat hr.out.symm, hB.alloc hB.size _⟩
      have hst := hid (Hst.out g)
      clear g
      go_wp2_with fail
      go_roundw
      case rel => exact ⟨k + 1, by omega, by go_num, hst.out, hbel.alloc hbel.size _⟩
      case measure => simp [intOf]; omega
    · obtain rfl : k = n := by omega
      have hr := hid (picFault_ok Hh.out Hee.out (by have := Ha.out; rw [List.take_of_length_le (by rw [Hl.out]; omega)] at this; exact this))
      have hB := hB0.trans (hbel.mono hB0.size)
      go_wp2_with fail
      go_ret
      exact ⟨ret_nat hr.out.symm, hB⟩
end Fb
