/- The reference's PictureFault and ObjectFault return what the plain laws say. Condition: few pixels. Ops, in plain Lean: which parts an op has, and what is wrong with it. Conditions: those of each lemma. Ops, in plain Lean: the numbers' bounds as two lists. Conditions: a kind that there is. The reference's ObjectFault returns what the plain law says. Condition: few pixels. Objects by numbers that rise, in plain Lean: found, laid, done with. Conditions: those of each lemma. Books in plain Lean: what may be a book, which loops are open where, where each is closed; slices of ops. Conditions: those of each lemma. -/
import Derived.Test.YtgkemeclpidmcaaPlainA
import Derived.Test.YtgkemeclpidmcaaWalksA
namespace Fb
open Go Go.Proofs Go.RowKit Go.Sort
def pxB (p : Px) : Bool := decide (0 ≤ p.1 ∧ p.1 ≤ 255 ∧ 0 ≤ p.2 ∧ p.2 ≤ 255)
def picFault (p : FPic) : Nat := if 1 ≤ p.w ∧ p.w ≤ 8 ∧ 1 ≤ p.h ∧ p.h ≤ 8 then (if (p.p.length : Int) = p.w * p.h then (if p.p.all pxB then 0 else 1) else 3) else 1
theorem picFault_size {p : FPic} (h : p.w < 1 ∨ 8 < p.w ∨ p.h < 1 ∨ 8 < p.h) : picFault p = 1 := by unfold picFault; rw [if_neg (by omega)]
theorem picFault_len {p : FPic} (h : 1 ≤ p.w ∧ p.w ≤ 8 ∧ 1 ≤ p.h ∧ p.h ≤ 8) (hl : (p.p.length : Int) ≠ p.w * p.h) : picFault p = 3 := by unfold picFault; rw [if_pos h, if_neg hl]
theorem picFault_px {p : FPic} (h : 1 ≤ p.w ∧ p.w ≤ 8 ∧ 1 ≤ p.h ∧ p.h ≤ 8) (hl : (p.p.length : Int) = p.w * p.h) (hp : p.p.all pxB = false) : picFault p = 1 := by unfold picFault; rw [if_pos h, if_pos hl, hp]; rfl
theorem picFault_ok {p : FPic} (h : 1 ≤ p.w ∧ p.w ≤ 8 ∧ 1 ≤ p.h ∧ p.h ≤ 8) (hl : (p.p.length : Int) = p.w * p.h) (hp : p.p.all pxB = true) : picFault p = 0 := by unfold picFault; rw [if_pos h, if_pos hl, hp]; rfl
theorem picFault_le (p : FPic) : picFault p ≤ 3 := by
  unfold picFault
  split
  · split
    · split <;> omega
    · omega
  · omega
theorem picFault_fine {p : FPic} : picFault p = 0 ↔ PicFine p := by
  unfold picFault PicFine
  constructor
  · intro h
    by_cases h1 : 1 ≤ p.w ∧ p.w ≤ 8 ∧ 1 ≤ p.h ∧ p.h ≤ 8
    · rw [if_pos h1] at h
      by_cases h2 : (p.p.length : Int) = p.w * p.h
      · rw [if_pos h2] at h
        by_cases h3 : p.p.all pxB = true
        · refine ⟨h1.1, h1.2.1, h1.2.2.1, h1.2.2.2, h2, fun q hq => ?_⟩
          have := List.all_eq_true.1 h3 q hq
          unfold pxB at this
          have t := of_decide_eq_true this
          exact t
        · rw [if_neg h3] at h; cases h
      · rw [if_neg h2] at h; cases h
    · rw [if_neg h1] at h; cases h
  · rintro ⟨h1, h2, h3, h4, h5, h6⟩
    rw [if_pos ⟨h1, h2, h3, h4⟩, if_pos h5, if_pos]
    rw [List.all_eq_true]
    intro q hq
    have h7 := h6 q hq
    unfold PxFine at h7
    exact decide_eq_true h7
theorem px_ways (v a : Int) : (v < 0 ∧ pxB (v, a) = false) ∨ (0 ≤ v ∧ 255 < v ∧ pxB (v, a) = false) ∨ (0 ≤ v ∧ v ≤ 255 ∧ a < 0 ∧ pxB (v, a) = false) ∨ (0 ≤ v ∧ v ≤ 255 ∧ 0 ≤ a ∧ 255 < a ∧ pxB (v, a) = false) ∨ (0 ≤ v ∧ v ≤ 255 ∧ 0 ≤ a ∧ a ≤ 255 ∧ pxB (v, a) = true) := by
  have e : pxB (v, a) = decide (0 ≤ v ∧ v ≤ 255 ∧ 0 ≤ a ∧ a ≤ 255) := rfl
  by_cases c1 : v < 0
  · exact .inl ⟨c1, by rw [e]; simp; omega⟩
  by_cases c2 : 255 < v
  · exact .inr (.inl ⟨by omega, c2, by rw [e]; simp; omega⟩)
  by_cases c3 : a < 0
  · exact .inr (.inr (.inl ⟨by omega, by omega, c3, by rw [e]; simp; omega⟩))
  by_cases c4 : 255 < a
  · exact .inr (.inr (.inr (.inl ⟨by omega, by omega, by omega, c4, by rw [e]; simp; omega⟩)))
  · exact .inr (.inr (.inr (.inr ⟨by omega, by omega, by omega, by omega, by rw [e]; simp; omega⟩)))
theorem pic_ways (p : FPic) : (p.w < 1) ∨ (1 ≤ p.w ∧ 8 < p.w) ∨ (1 ≤ p.w ∧ p.w ≤ 8 ∧ p.h < 1) ∨ (1 ≤ p.w ∧ p.w ≤ 8 ∧ 1 ≤ p.h ∧ 8 < p.h) ∨ (1 ≤ p.w ∧ p.w ≤ 8 ∧ 1 ≤ p.h ∧ p.h ≤ 8) := by omega
/-- a cell of an old block reads as before -/
theorem held_cellP {w w' : World} {B : Nat} (hb : Below B w w') {b o : Nat} {v : Value} (h : b < B) (hc : w.cell? ⟨b, o, none⟩ = some v) : w'.cell? ⟨b, o, none⟩ = some v := (hb.cell (p := ⟨b, o, none⟩) h).trans hc
theorem ret_nat {a b : Nat} (h : a = b) : Ending.returned (.int .i64 (a : Int)) = .returned (.int .i64 (b : Int)) := by rw [h]
set_option maxRecDepth 100000 in
set_option maxHeartbeats 1600000 in
theorem rpicfault_any (r : FAt FPic) (w : World) (hl : Pixs w r.A r.n r.x.p) (hn : r.n ≤ 100) :
    Calls Try.prog 51 #[.agg #[.int .i64 r.x.w, .int .i64 r.x.h, .slice r.A r.n r.c]] w (Ret (.int .i64 (picFault r.x)) w) := by
  obtain ⟨p, A, n, c⟩ := r
  simp only at hl hn ⊢
  have Hl := hid hl.1
  rcases pic_ways p with h | h | h | h | h
  iterate 4
    · have hr := hid (picFault_size (p := p) (by omega))
      clear hl
      go_enter Try.func51, Try.ntmps51
      go_wp2
      go_ret
      exact ⟨ret_nat hr.out.symm, (Below.refl _ _).alloc (Nat.le_refl _) _⟩
  obtain ⟨q1, q2, q3, q4⟩ := id h
  have hp1 : 1 * 1 ≤ p.w * p.h := Int.mul_le_mul q1 q3 (by omega) (by omega)
  have hp2 : p.w * p.h ≤ 8 * 8 := Int.mul_le_mul q2 q4 (by omega) (by omega)
  have Hh := hid h
  clear h
  have hw : IntKind.i64.wrap (p.w * p.h) = p.w * p.h := IntWalk.i64_in _ (by omega)
  by_cases hne : (p.p.length : Int) ≠ p.w * p.h
  · have hr := hid (picFault_len Hh.out hne)
    rw [Hl.out] at hne
    have hne' : ((n : Int) != p.w * p.h) = true := by simp; exact hne
    clear hl
    go_enter Try.func51, Try.ntmps51
    go_wp2
    go_ret
    exact ⟨ret_nat hr.out.symm, (Below.refl _ _).alloc (Nat.le_refl _) _⟩
  have hee : (p.p.length : Int) = p.w * p.h := by omega
  have Hee := hid hee
  rw [Hl.out] at hee
  have hne' : ((n : Int) != p.w * p.h) = false := by simp; exact hee
  obtain ⟨b, o, rfl, hb, hc⟩ := hl.open_ (by omega)
  have Hc := hid hc
  clear hl hc hne hee
  go_enter Try.func51, Try.ntmps51
  go_upto_region 1 with fail
  obtain ⟨W0, hW0⟩ : ∃ W0, W0 = w.alloc (.cells #[.int .i64 p.w, .int .i64 p.h, .slice (some ⟨b, o, none⟩) n c] 49) := ⟨_, rfl⟩
  have hB0 : Below w.heap.size w W0 := by
    rw [hW0]; exact (Below.refl w.heap.size w).alloc (Nat.le_refl _) _
  have c0 : W0.cell? ⟨w.heap.size, 0, none⟩ = some (.int .i64 p.w) := by rw [hW0]; go_simp
  have c1 : W0.cell? ⟨w.heap.size, 1, none⟩ = some (.int .i64 p.h) := by rw [hW0]; go_simp
  have c2 : W0.cell? ⟨w.heap.size, 2, none⟩ = some (.slice (some ⟨b, o, none⟩) n c) := by rw [hW0]; go_simp
  have z0 : W0.heap.size = w.heap.size + 1 := by rw [hW0]; simp
  rw [← hW0]
  clear hW0
  go_wp2_with fail
  go_loopw [3] (fun i wr => ∃ k : Nat, k ≤ n ∧ i = .int .i64 k ∧ (p.p.take k).all pxB = true ∧ Below W0.heap.size W0 wr) (fun i _ => n - (intOf i).toNat)
  case atStart => exact ⟨0, by omega, rfl, rfl, Below.refl _ _⟩
  case round =>
    obtain ⟨k, hk, rfl, ha, hbel⟩ := hrel
    have Ha := hid ha
    clear ha
    have d2 := held_cellP hbel (by omega) c2
    by_cases hlt : k < n
    · have k1 : k < p.p.length := by rw [Hl.out]; exact hlt
      obtain ⟨x0, x1⟩ := Hc.out k k1
      have y0 := held_cellP hbel (b := b) (by omega) ((hB0.cell (p := ⟨b, _, none⟩) hb).trans x0)
      have y1 := held_cellP hbel (b := b) (by omega) ((hB0.cell (p := ⟨b, _, none⟩) hb).trans x1)
      have Hbad := hid (fun e : pxB p.p[k] = false => picFault_px Hh.out Hee.out (all_badG k1 e))
      have Hst := hid (fun e : pxB p.p[k] = true => all_stepG k1 Ha.out e)
      generalize p.p[k] = px at *
      obtain ⟨pv, pa⟩ := px
      clear x0 x1
      simp only at y0 y1
      have hB := hB0.trans (hbel.mono hB0.size)
      rcases px_ways pv pa with ⟨g1, g⟩ | ⟨g1, g2, g⟩ | ⟨g1, g2, g3, g⟩ | ⟨g1, g2, g3, g4, g⟩ | ⟨g1, g2, g3, g4, g⟩
      iterate 4
        · have hr := hid (Hbad.out g)
          clear g
          go_wp2_with fail
          go_ret
          exact ⟨ret_nat hr.out.symm, hB.alloc hB.size _⟩
      have hst := hid (Hst.out g)
      clear g
      go_wp2_with fail
      go_roundw
      case rel => exact ⟨k + 1, by omega, by go_num, hst.out, hbel.alloc hbel.size _⟩
      case measure => simp [intOf]; omega
    · obtain rfl : k = n := by omega
      have hr := hid (picFault_ok Hh.out Hee.out (by have := Ha.out; rw [List.take_of_length_le (by rw [Hl.out]; omega)] at this; exact this))
      have hB := hB0.trans (hbel.mono hB0.size)
      go_wp2_with fail
      go_ret
      exact ⟨ret_nat hr.out.symm, hB⟩
end Fb
namespace Fb
def hasId (k : Int) : Bool := decide (2 ≤ k ∧ k ≤ 9)
def hasPic (k : Int) : Bool := decide (k = 2 ∨ k = 8 ∨ k = 9)
/-- how many numbers an op of this kind has -/
def manyN (k : Int) : Nat := [0, 2, 0, 2, 4, 1, 1, 0, 2, 2, 2, 1, 1, 0, 0, 0, 0].getD k.toNat 0
theorem manyN_le (k : Int) : manyN k ≤ 4 := by
  unfold manyN
  by_cases h : k.toNat < 17
  · have : ∀ i, i < 17 → ([0, 2, 0, 2, 4, 1, 1, 0, 2, 2, 2, 1, 1, 0, 0, 0, 0] : List Nat).getD i 0 ≤ 4 := by decide
    exact this _ h
  · rw [List.getD_eq_getElem?_getD, List.getElem?_eq_none (by simp; omega)]; simp
def inB (n low high : Int) : Bool := decide (low ≤ n ∧ n ≤ high)
def opNums (o : FOp) : List Int := [o.a, o.b, o.c, o.d]
def boundB (o : FOp) : Bool :=
  if o.kind = 1 then inB o.a 1 8 && inB o.b 1 8
  else if o.kind = 3 ∨ o.kind = 8 ∨ o.kind = 9 then inB o.a (-20) 20 && inB o.b (-20) 20
  else if o.kind = 4 then decide (rectFault ⟨o.a, o.b, o.c, o.d⟩ = 0)
  else if o.kind = 5 then inB o.a 0 1
  else if o.kind = 6 then inB o.a 1 6
  else if o.kind = 10 then inB o.a 0 255 && inB o.b 0 255
  else if o.kind = 11 then inB o.a 0 99
  else if o.kind = 12 then inB o.a 0 9
  else true
def picEmpty (p : FPic) : Bool := decide (p.w = 0 ∧ p.h = 0 ∧ p.p.length = 0)
/-- its parts: none that it hasn't -/
def shapeB (o : FOp) : Bool := (hasId o.kind || decide (o.id = 0)) && (((opNums o).drop (manyN o.kind)).all (fun n => decide (n = 0)) && (hasPic o.kind || picEmpty o.pic))
def opFault (o : FOp) : Nat :=
  if 1 ≤ o.kind ∧ o.kind ≤ 16 then
    if shapeB o then
      if (!hasId o.kind || inB o.id 1 6) && boundB o then (if hasPic o.kind then picFault o.pic else 0)
      else 1
    else 3
  else 3
theorem opFault_kind {o : FOp} (h : ¬ (1 ≤ o.kind ∧ o.kind ≤ 16)) : opFault o = 3 := by unfold opFault; rw [if_neg h]
theorem opFault_shape {o : FOp} (h : 1 ≤ o.kind ∧ o.kind ≤ 16) (hs : shapeB o = false) : opFault o = 3 := by unfold opFault; rw [if_pos h, hs]; rfl
theorem opFault_bound {o : FOp} (h : 1 ≤ o.kind ∧ o.kind ≤ 16) (hs : shapeB o = true) (hb : ((!hasId o.kind || inB o.id 1 6) && boundB o) = false) : opFault o = 1 := by unfold opFault; rw [if_pos h, hs, hb]; rfl
theorem opFault_pic {o : FOp} (h : 1 ≤ o.kind ∧ o.kind ≤ 16) (hs : shapeB o = true) (hb : ((!hasId o.kind || inB o.id 1 6) && boundB o) = true) (hp : hasPic o.kind = true) : opFault o = picFault o.pic := by unfold opFault; rw [if_pos h, hs, hb, hp]; rfl
theorem opFault_none {o : FOp} (h : 1 ≤ o.kind ∧ o.kind ≤ 16) (hs : shapeB o = true) (hb : ((!hasId o.kind || inB o.id 1 6) && boundB o) = true) (hp : hasPic o.kind = false) : opFault o = 0 := by unfold opFault; rw [if_pos h, hs, hb, hp]; rfl
theorem opFault_le (o : FOp) : opFault o ≤ 3 := by
  unfold opFault
  split
  · split
    · split
      · split
        · exact picFault_le _
        · omega
      · omega
    · omega
  · omega
/-- an op that may be -/
theorem opFault_fine {o : FOp} (h : opFault o = 0) : (1 ≤ o.kind ∧ o.kind ≤ 16) ∧ shapeB o = true ∧ (hasId o.kind = true → 1 ≤ o.id ∧ o.id ≤ 6) ∧ boundB o = true ∧ (hasPic o.kind = true → picFault o.pic = 0) := by
  by_cases h1 : 1 ≤ o.kind ∧ o.kind ≤ 16
  · cases h2 : shapeB o
    · rw [opFault_shape h1 h2] at h; cases h
    · cases h3 : ((!hasId o.kind || inB o.id 1 6) && boundB o)
      · rw [opFault_bound h1 h2 h3] at h; cases h
      · simp only [Bool.and_eq_true] at h3
        refine ⟨h1, rfl, fun hi => ?_, h3.2, fun hp => ?_⟩
        · have := h3.1
          rw [hi] at this
          simp [inB] at this
          exact this
        · rw [opFault_pic h1 h2 (by simp only [Bool.and_eq_true]; exact h3) hp] at h; exact h
  · rw [opFault_kind h1] at h; cases h
end Fb
namespace Fb
def lows (k : Int) : List Int := if k = 1 then [1, 1, 0, 0] else if k = 3 ∨ k = 8 ∨ k = 9 ∨ k = 4 then [-20, -20, 0, 0] else if k = 6 then [1, 0, 0, 0] else [0, 0, 0, 0]
def highs (k : Int) : List Int := if k = 1 then [8, 8, 0, 0] else if k = 3 ∨ k = 8 ∨ k = 9 then [20, 20, 0, 0] else if k = 4 then [20, 20, 20, 20] else if k = 5 then [1, 0, 0, 0] else if k = 6 then [6, 0, 0, 0] else if k = 10 then [255, 255, 0, 0] else if k = 11 then [99, 0, 0, 0] else if k = 12 then [9, 0, 0, 0] else [0, 0, 0, 0]
/-- number j of an op lies between the bounds -/
def inJ (o : FOp) (j : Nat) : Prop := (lows o.kind).getD j 0 ≤ (opNums o).getD j 0 ∧ (opNums o).getD j 0 ≤ (highs o.kind).getD j 0
theorem all_four {M : Nat} (hM : M ≤ 4) {p : Nat → Prop} : (∀ j, j < M → p j) ↔ (0 < M → p 0) ∧ (1 < M → p 1) ∧ (2 < M → p 2) ∧ (3 < M → p 3) := by
  constructor
  · intro h; exact ⟨h 0, h 1, h 2, h 3⟩
  · rintro ⟨h0, h1, h2, h3⟩ j hj
    match j, hj with
    | 0, hj => exact h0 hj
    | 1, hj => exact h1 hj
    | 2, hj => exact h2 hj
    | 3, hj => exact h3 hj
    | j + 4, hj => omega
theorem boundB_iff {o : FOp} (h1 : 1 ≤ o.kind) (h2 : o.kind ≤ 16) : boundB o = true ↔ ∀ j, j < manyN o.kind → inJ o j := by
  rw [all_four (manyN_le _)]
  obtain ⟨k, i, a, b, c, d, p⟩ := o
  simp only at h1 h2
  rcases (show k = 1 ∨ k = 2 ∨ k = 3 ∨ k = 4 ∨ k = 5 ∨ k = 6 ∨ k = 7 ∨ k = 8 ∨ k = 9 ∨ k = 10 ∨ k = 11 ∨ k = 12 ∨ k = 13 ∨ k = 14 ∨ k = 15 ∨ k = 16 by omega) with rfl | rfl | rfl | rfl | rfl | rfl | rfl | rfl | rfl | rfl | rfl | rfl | rfl | rfl | rfl | rfl
  all_goals
    simp [boundB, manyN, inJ, lows, highs, opNums, inB, rectFault]
  all_goals (try omega)
end Fb
namespace Fb
open Go Go.Proofs Go.RowKit Go.Sort
def objFault (o : FObj) : Nat := if 1 ≤ o.id ∧ o.id ≤ 6 ∧ -20 ≤ o.x ∧ o.x ≤ 20 ∧ -20 ≤ o.y ∧ o.y ≤ 20 then (if rectFault o.clip = 0 then picFault o.pic else 1) else 1
theorem objFault_le (o : FObj) : objFault o ≤ 3 := by
  have := picFault_le o.pic
  unfold objFault
  split
  · split <;> omega
  · omega
/-- an object that may be -/
def ObjFine (o : FObj) : Prop := (1 ≤ o.id ∧ o.id ≤ 6 ∧ -20 ≤ o.x ∧ o.x ≤ 20 ∧ -20 ≤ o.y ∧ o.y ≤ 20) ∧ rectFault o.clip = 0 ∧ PicFine o.pic
theorem objFault_fine {o : FObj} : objFault o = 0 ↔ ObjFine o := by
  unfold objFault ObjFine
  constructor
  · intro h
    by_cases h1 : 1 ≤ o.id ∧ o.id ≤ 6 ∧ -20 ≤ o.x ∧ o.x ≤ 20 ∧ -20 ≤ o.y ∧ o.y ≤ 20
    · rw [if_pos h1] at h
      by_cases h2 : rectFault o.clip = 0
      · rw [if_pos h2] at h
        exact ⟨h1, h2, picFault_fine.1 h⟩
      · rw [if_neg h2] at h; cases h
    · rw [if_neg h1] at h; cases h
  · rintro ⟨h1, h2, h3⟩
    rw [if_pos h1, if_pos h2]
    exact picFault_fine.2 h3
theorem obj_ways (i x y : Int) : (i < 1) ∨ (1 ≤ i ∧ 6 < i) ∨ (1 ≤ i ∧ i ≤ 6 ∧ x < -20) ∨ (1 ≤ i ∧ i ≤ 6 ∧ -20 ≤ x ∧ 20 < x) ∨ (1 ≤ i ∧ i ≤ 6 ∧ -20 ≤ x ∧ x ≤ 20 ∧ y < -20) ∨ (1 ≤ i ∧ i ≤ 6 ∧ -20 ≤ x ∧ x ≤ 20 ∧ -20 ≤ y ∧ 20 < y) ∨
    (1 ≤ i ∧ i ≤ 6 ∧ -20 ≤ x ∧ x ≤ 20 ∧ -20 ≤ y ∧ y ≤ 20) := by omega
end Fb
namespace Fb
/-- the numbers rise -/
def Rise (l : List FObj) : Prop := l.Pairwise (fun a b => a.id < b.id)
def getP (id : Int) (l : List FObj) : Option FObj := l.find? (fun o => decide (o.id = id))
def setP (o : FObj) : List FObj → List FObj
  | [] => [o]
  | r :: rs => if r.id < o.id then r :: setP o rs else if r.id = o.id then o :: rs else o :: r :: rs
def dropP (id : Int) (l : List FObj) : List FObj := l.filter (fun o => decide (o.id ≠ id))
def freshP (id : Int) (p : FPic) : FObj := ⟨id, 0, 0, p, ⟨0, 0, 20, 20⟩, true⟩
/-- what an op makes of its object -/
def turnP (o : FObj) (x : FOp) : FObj :=
  if x.kind = 3 then { o with x := x.a, y := x.b } else if x.kind = 4 then { o with clip := ⟨x.a, x.b, x.c, x.d⟩ } else if x.kind = 5 then { o with shown := decide (x.a = 1) }
  else if x.kind = 6 then { o with id := x.a } else if x.kind = 8 then { o with pic := changeP addP o.pic x.pic x.a x.b } else { o with pic := changeP putP o.pic x.pic x.a x.b }
def doP (l : List FObj) (x : FOp) : List FObj × Nat :=
  if x.kind = 2 then (setP (freshP x.id x.pic) l, 0) else
  match getP x.id l with
  | none => ([], 5)
  | some o => if x.kind = 7 then (dropP x.id l, 0) else (setP (turnP o x) l, 0)

theorem rise_at {l : List FObj} (h : Rise l) {i j : Nat} (hij : i < j) (hj : j < l.length) : l[i].id < l[j].id := by
  unfold Rise at h
  rw [List.pairwise_iff_getElem] at h
  exact h i j (by omega) hj hij
theorem rise_at_le {l : List FObj} (h : Rise l) {i j : Nat} (hij : i ≤ j) (hj : j < l.length) : l[i].id ≤ l[j].id := by
  rcases Nat.lt_or_eq_of_le hij with h1 | rfl
  · exact Int.le_of_lt (rise_at h h1 hj)
  · exact Int.le_refl _
/-- laid at its place, where one of its number is -/
theorem set_is {o : FObj} : ∀ {l : List FObj} {i : Nat} (_ : i < l.length) (_ : ∀ k (hk : k < l.length), k < i → l[k].id < o.id) (_ : l[i].id = o.id), setP o l = l.set i o
  | [], i, h, _, _ => absurd h (by simp)
  | r :: rs, 0, _, _, h2 => by
    simp only [List.getElem_cons_zero] at h2
    unfold setP
    rw [if_neg (by omega), if_pos h2]; rfl
  | r :: rs, i + 1, h, h1, h2 => by
    have h0 := h1 0 (by simp) (by omega)
    simp only [List.getElem_cons_zero] at h0
    simp only [List.getElem_cons_succ] at h2
    unfold setP
    rw [if_pos h0, List.set_cons_succ, set_is (i := i) (by simpa using h) (fun k hk hki => by have := h1 (k + 1) (by simpa using hk) (by omega); simpa using this) h2]
/-- laid at its place, where none of its number is -/
theorem set_new {o : FObj} : ∀ {l : List FObj} {i : Nat} (_ : i ≤ l.length) (_ : ∀ k (hk : k < l.length), k < i → l[k].id < o.id) (_ : ∀ (hk : i < l.length), o.id < l[i].id), setP o l = l.take i ++ o :: l.drop i
  | [], i, h, _, _ => by
    simp at h; subst h; rfl
  | r :: rs, 0, _, _, h2 => by
    have := h2 (by simp)
    simp only [List.getElem_cons_zero] at this
    unfold setP
    rw [if_neg (by omega), if_neg (by omega)]; rfl
  | r :: rs, i + 1, h, h1, h2 => by
    have h0 := h1 0 (by simp) (by omega)
    simp only [List.getElem_cons_zero] at h0
    unfold setP
    rw [if_pos h0, List.take_succ_cons, List.drop_succ_cons, List.cons_append,
      set_new (i := i) (by simpa using h) (fun k hk hki => by have := h1 (k + 1) (by simpa using hk) (by omega); simpa using this) (fun hk => by have := h2 (by simpa using hk); simpa using this)]
theorem get_is {id : Int} {l : List FObj} (hr : Rise l) {i : Nat} (h : i < l.length) (h2 : l[i].id = id) : getP id l = some l[i] := by
  unfold getP
  rw [List.find?_eq_some_iff_getElem]
  refine ⟨by simpa using h2, i, h, rfl, fun j hj => ?_⟩
  have := rise_at hr hj h
  simp
  omega
theorem get_none {id : Int} {l : List FObj} (h : ∀ k (hk : k < l.length), l[k].id ≠ id) : getP id l = none := by
  unfold getP
  rw [List.find?_eq_none]
  intro o ho
  obtain ⟨k, hk, rfl⟩ := List.getElem_of_mem ho
  simpa using h k hk
theorem get_mem {id : Int} {l : List FObj} {o : FObj} (h : getP id l = some o) : o ∈ l ∧ o.id = id := by
  unfold getP at h
  exact ⟨List.mem_of_find?_eq_some h, by have := List.find?_some h; simpa using this⟩
theorem get_no {id : Int} {l : List FObj} (h : getP id l = none) : ∀ o ∈ l, o.id ≠ id := by
  intro o ho
  unfold getP at h
  rw [List.find?_eq_none] at h
  simpa using h o ho
/-! ## one element more -/
theorem set_snoc_low {o : FObj} (a : FObj) : ∀ {l : List FObj} (_ : ∀ r ∈ l, r.id < o.id), setP o (l ++ [a]) = l ++ (if a.id < o.id then [a, o] else if a.id = o.id then [o] else [o, a])
  | [], _ => by simp only [List.nil_append]; unfold setP; repeat' split
                all_goals (first | rfl | skip)
  | r :: rs, h => by
    have h0 := h r (by simp)
    rw [List.cons_append]
    unfold setP
    rw [if_pos h0, set_snoc_low a (fun q hq => h q (by simp [hq])), List.cons_append]
theorem set_snoc_laid {o : FObj} (a : FObj) : ∀ {l : List FObj} (_ : ∃ r ∈ l, o.id ≤ r.id), setP o (l ++ [a]) = setP o l ++ [a]
  | [], h => by obtain ⟨r, hr, _⟩ := h; simp at hr
  | r :: rs, h => by
    rw [List.cons_append]
    unfold setP
    split
    · rename_i hlt
      rw [set_snoc_laid a (by
        obtain ⟨q, hq, hle⟩ := h
        rcases List.mem_cons.1 hq with rfl | hq
        · omega
        · exact ⟨q, hq, hle⟩)]
      rfl
    · split <;> simp
theorem set_end {o : FObj} : ∀ {l : List FObj} (_ : ∀ r ∈ l, r.id < o.id), setP o l = l ++ [o]
  | [], _ => rfl
  | r :: rs, h => by
    unfold setP
    rw [if_pos (h r (by simp)), set_end (fun q hq => h q (by simp [hq]))]; rfl
/-! ## what is kept -/
theorem set_mem {o q : FObj} : ∀ {l : List FObj}, q ∈ setP o l → q = o ∨ q ∈ l
  | [], h => by unfold setP at h; simp at h; exact Or.inl h
  | r :: rs, h => by
    unfold setP at h
    split at h
    · rcases List.mem_cons.1 h with rfl | h
      · exact Or.inr (by simp)
      · rcases set_mem h with h | h
        · exact Or.inl h
        · exact Or.inr (by simp [h])
    · split at h
      · rcases List.mem_cons.1 h with rfl | h
        · exact Or.inl rfl
        · exact Or.inr (by simp [h])
      · rcases List.mem_cons.1 h with rfl | h
        · exact Or.inl rfl
        · exact Or.inr h
theorem set_rise {o : FObj} : ∀ {l : List FObj}, Rise l → Rise (setP o l)
  | [], _ => by unfold setP Rise; simp
  | r :: rs, h => by
    unfold Rise at h
    rw [List.pairwise_cons] at h
    unfold setP
    split
    · rename_i hlt
      unfold Rise
      rw [List.pairwise_cons]
      refine ⟨fun q hq => ?_, set_rise h.2⟩
      rcases set_mem hq with rfl | hq
      · exact hlt
      · exact h.1 q hq
    · split
      · rename_i he
        unfold Rise
        rw [List.pairwise_cons]
        exact ⟨fun q hq => by rw [← he]; exact h.1 q hq, h.2⟩
      · unfold Rise
        rw [List.pairwise_cons, List.pairwise_cons]
        refine ⟨fun q hq => ?_, h⟩
        rcases List.mem_cons.1 hq with rfl | hq
        · omega
        · have := h.1 q hq; omega
theorem drop_rise {id : Int} {l : List FObj} (h : Rise l) : Rise (dropP id l) := List.Pairwise.filter _ h
theorem drop_mem {id : Int} {l : List FObj} {q : FObj} (h : q ∈ dropP id l) : q ∈ l ∧ q.id ≠ id := by
  unfold dropP at h
  rw [List.mem_filter] at h
  exact ⟨h.1, by simpa using h.2⟩
theorem get_set {o : FObj} {id : Int} : ∀ {l : List FObj}, getP id (setP o l) = if o.id = id then some o else getP id l
  | [] => by
    unfold setP getP
    rw [List.find?_cons]
    by_cases h : o.id = id
    · simp [h]
    · simp [h]
  | r :: rs => by
    have ih := get_set (o := o) (id := id) (l := rs)
    unfold getP at ih ⊢
    unfold setP
    by_cases h : o.id = id
    · rw [if_pos h] at ih ⊢
      split
      · rename_i hlt
        rw [List.find?_cons, ih]
        have : decide (r.id = id) = false := by simp; omega
        rw [this]
      · split
        · rw [List.find?_cons]; simp [h]
        · rw [List.find?_cons]; simp [h]
    · rw [if_neg h] at ih ⊢
      split
      · rw [List.find?_cons, List.find?_cons, ih]
      · split
        · rename_i he
          rw [List.find?_cons, List.find?_cons]
          have h1 : decide (o.id = id) = false := by simpa using h
          have h2 : decide (r.id = id) = false := by simp; omega
          rw [h1, h2]
        · rw [List.find?_cons]
          have h1 : decide (o.id = id) = false := by simpa using h
          rw [h1]
theorem get_drop {i id : Int} (h : i ≠ id) : ∀ {l : List FObj}, getP id (dropP i l) = getP id l
  | [] => rfl
  | r :: rs => by
    have ih := get_drop h (l := rs)
    unfold getP dropP at ih ⊢
    by_cases hr : r.id = i
    · have h1 : decide (r.id ≠ i) = false := by simpa using hr
      have h2 : decide (r.id = id) = false := by simp; omega
      rw [List.filter_cons, h1, List.find?_cons, h2]
      simpa using ih
    · have h1 : decide (r.id ≠ i) = true := by simpa using hr
      rw [List.filter_cons, h1, if_pos rfl, List.find?_cons, List.find?_cons, ih]
/-- rising numbers from a to b are few -/
theorem rise_few {b : Int} : ∀ {l : List FObj} {a : Int}, Rise l → (∀ o ∈ l, a ≤ o.id ∧ o.id ≤ b) → l ≠ [] → (l.length : Int) ≤ b - a + 1
  | [], _, _, _, h => absurd rfl h
  | [r], a, _, h, _ => by have := h r (by simp); simp; omega
  | r :: q :: rs, a, hr, h, _ => by
    unfold Rise at hr
    rw [List.pairwise_cons] at hr
    have h0 := h r (by simp)
    have := rise_few (a := a + 1) (b := b) (l := q :: rs) hr.2 (fun o ho => by
      have h1 := hr.1 o ho
      have h2 := h o (by simp only [List.mem_cons] at ho ⊢; exact Or.inr ho)
      omega) (by simp)
    simp only [List.length_cons] at this ⊢
    omega
/-- objects that may be, rising -/
def ObjsFine (l : List FObj) : Prop := Rise l ∧ ∀ o ∈ l, ObjFine o
theorem objs_few {l : List FObj} (h : ObjsFine l) : l.length ≤ 6 := by
  by_cases he : l = []
  · subst he; simp
  · have := rise_few (a := 1) (b := 6) h.1 (fun o ho => by have := (h.2 o ho).1; omega) he
    omega
theorem set_fine {o : FObj} {l : List FObj} (h : ObjsFine l) (ho : ObjFine o) : ObjsFine (setP o l) :=
  ⟨set_rise h.1, fun q hq => (set_mem hq).elim (fun e => e ▸ ho) (fun hq => h.2 q hq)⟩
theorem drop_fine {id : Int} {l : List FObj} (h : ObjsFine l) : ObjsFine (dropP id l) := ⟨drop_rise h.1, fun q hq => h.2 q (drop_mem hq).1⟩
theorem nil_fine : ObjsFine [] := ⟨by unfold Rise; simp, by simp⟩
end Fb
namespace Fb
def opAt (l : List FOp) (i : Nat) : FOp := l.getD i noOp
theorem opAt_get {l : List FOp} {i : Nat} (h : i < l.length) : opAt l i = l[i] := by unfold opAt; rw [List.getD_eq_getElem?_getD, List.getElem?_eq_getElem h]; rfl
/-- the rest of the check: the op number i of n comes next, so deep is it -/
def bookGo (n : Nat) : List FOp → Nat → Nat → Nat
  | [], _, deep => if 0 < deep then 3 else 0
  | o :: r, i, deep =>
    if opFault o ≠ 0 then opFault o
    else if (o.kind = 1 ∧ 0 < i) ∨ (o.kind = 16 ∧ i + 1 < n) then 3
    else if o.kind = 12 then (if 3 ≤ deep then 2 else bookGo n r (i + 1) (deep + 1))
    else if o.kind = 13 then (if deep = 0 then 3 else bookGo n r (i + 1) (deep - 1))
    else bookGo n r (i + 1) deep
def bookFault (l : List FOp) : Nat :=
  if l.length < 2 ∨ (opAt l 0).kind ≠ 1 ∨ (opAt l (l.length - 1)).kind ≠ 16 then 3 else if 60 < l.length then 2 else bookGo l.length l 0 0
theorem bookGo_le (n : Nat) : ∀ (l : List FOp) (i d : Nat), bookGo n l i d ≤ 3
  | [], _, d => by unfold bookGo; split <;> omega
  | o :: r, i, d => by
    unfold bookGo
    repeat' split
    all_goals (first | exact opFault_le _ | exact bookGo_le n r _ _ | omega)
theorem bookFault_le (l : List FOp) : bookFault l ≤ 3 := by
  unfold bookFault
  repeat' split
  all_goals (first | exact bookGo_le _ _ _ _ | omega)
/-! ## which loops are open -/
def openStep (s : List Nat) (i : Nat) (k : Int) : List Nat := if k = 12 then s ++ [i] else if k = 13 then s.dropLast else s
def openAt (l : List FOp) : Nat → List Nat
  | 0 => []
  | p + 1 => openStep (openAt l p) p (opAt l p).kind
theorem openAt_succ (l : List FOp) (p : Nat) : openAt l (p + 1) = openStep (openAt l p) p (opAt l p).kind := rfl
/-- What a book that may be is. -/
structure BookFine (l : List FOp) : Prop where
  two : 2 ≤ l.length
  few : l.length ≤ 60
  head : (opAt l 0).kind = 1
  last : (opAt l (l.length - 1)).kind = 16
  ops : ∀ i, i < l.length → opFault (opAt l i) = 0
  heads : ∀ i, i < l.length → (opAt l i).kind = 1 → i = 0
  ends : ∀ i, i < l.length → (opAt l i).kind = 16 → i + 1 = l.length
  deep : ∀ p, p ≤ l.length → (openAt l p).length ≤ 3
  next : ∀ p, p < l.length → (opAt l p).kind = 13 → openAt l p ≠ []
  shut : openAt l l.length = []
theorem openStep_len {s : List Nat} {i : Nat} {k : Int} : (openStep s i k).length = if k = 12 then s.length + 1 else if k = 13 then s.length - 1 else s.length := by
  unfold openStep
  split
  · simp
  · split <;> simp
theorem bookGo_zero {l : List FOp} : ∀ (r : List FOp) (i d : Nat), l.drop i = r → i ≤ l.length → (openAt l i).length = d → d ≤ 3 → bookGo l.length r i d = 0 →
    (∀ j, i ≤ j → j < l.length → opFault (opAt l j) = 0 ∧ ((opAt l j).kind = 1 → j = 0) ∧ ((opAt l j).kind = 16 → j + 1 = l.length) ∧ ((opAt l j).kind = 13 → openAt l j ≠ [])) ∧ (∀ j, i ≤ j → j ≤ l.length → (openAt l j).length ≤ 3) ∧ openAt l l.length = []
  | [], i, d, hr, hi, hd, h3, h => by
    have hlen : l.length ≤ i := List.drop_eq_nil_iff.1 hr
    obtain rfl : i = l.length := by omega
    unfold bookGo at h
    have hd0 : d = 0 := by split at h <;> omega
    refine ⟨fun j h1 h2 => absurd h2 (by omega), fun j h1 h2 => ?_, ?_⟩
    · obtain rfl : j = l.length := by omega
      omega
    · exact List.eq_nil_of_length_eq_zero (by omega)
  | o :: r, i, d, hr, hi, hd, h3, h => by
    have hil : i < l.length := by
      have := congrArg List.length hr
      simp at this
      omega
    have ho : opAt l i = o := by
      rw [opAt_get hil]
      have := List.drop_eq_getElem_cons hil
      rw [this] at hr
      exact (List.cons.inj hr).1
    have hr' : l.drop (i + 1) = r := by
      have := List.drop_eq_getElem_cons hil
      rw [this] at hr
      exact (List.cons.inj hr).2
    unfold bookGo at h
    have hop : opFault o = 0 := by
      by_cases hh : opFault o = 0
      · exact hh
      · rw [if_pos hh] at h; exact absurd h hh
    rw [if_neg (by simpa using hop)] at h
    have hnk : ¬ ((o.kind = 1 ∧ 0 < i) ∨ (o.kind = 16 ∧ i + 1 < l.length)) := by
      intro hh
      rw [if_pos hh] at h
      omega
    rw [if_neg hnk] at h
    have hstep := openAt_succ l i
    rw [ho] at hstep
    have hlen := openStep_len (s := openAt l i) (i := i) (k := o.kind)
    rw [← hstep] at hlen
    have key : ∀ d', (openAt l (i + 1)).length = d' → d' ≤ 3 → bookGo l.length r (i + 1) d' = 0 → (o.kind = 13 → openAt l i ≠ []) →
        (∀ j, i ≤ j → j < l.length → opFault (opAt l j) = 0 ∧ ((opAt l j).kind = 1 → j = 0) ∧ ((opAt l j).kind = 16 → j + 1 = l.length) ∧ ((opAt l j).kind = 13 → openAt l j ≠ [])) ∧ (∀ j, i ≤ j → j ≤ l.length → (openAt l j).length ≤ 3) ∧ openAt l l.length = [] := by
      intro d' e1 e2 e3 e4
      obtain ⟨k1, k2, k3⟩ := bookGo_zero r (i + 1) d' hr' hil e1 e2 e3
      refine ⟨fun j h1 h2 => ?_, fun j h1 h2 => ?_, k3⟩
      · by_cases hj : j = i
        · subst hj
          rw [ho]
          refine ⟨hop, fun hk => ?_, fun hk => ?_, e4⟩
          · have := hnk; omega
          · have := hnk; omega
        · exact k1 j (by omega) h2
      · by_cases hj : j = i
        · subst hj; omega
        · exact k2 j (by omega) h2
    by_cases h12 : o.kind = 12
    · rw [if_pos h12] at h hlen
      by_cases hd3 : 3 ≤ d
      · rw [if_pos hd3] at h; omega
      · rw [if_neg hd3] at h
        exact key (d + 1) (by omega) (by omega) h (fun h13 => by omega)
    · rw [if_neg h12] at h hlen
      by_cases h13 : o.kind = 13
      · rw [if_pos h13] at h hlen
        by_cases hd0 : d = 0
        · rw [if_pos hd0] at h; omega
        · rw [if_neg hd0] at h
          refine key (d - 1) (by omega) (by omega) h (fun _ he => ?_)
          rw [he] at hd
          simp at hd
          omega
      · rw [if_neg h13] at h hlen
        exact key d (by omega) h3 h (fun hh => absurd hh h13)
theorem book_fine {l : List FOp} (h : bookFault l = 0) : BookFine l := by
  unfold bookFault at h
  by_cases h1 : l.length < 2 ∨ (opAt l 0).kind ≠ 1 ∨ (opAt l (l.length - 1)).kind ≠ 16
  · rw [if_pos h1] at h; omega
  rw [if_neg h1] at h
  by_cases h2 : 60 < l.length
  · rw [if_pos h2] at h; omega
  rw [if_neg h2] at h
  obtain ⟨k1, k2, k3⟩ := bookGo_zero l 0 0 rfl (by omega) rfl (by omega) h
  have h4 : 2 ≤ l.length ∧ (opAt l 0).kind = 1 ∧ (opAt l (l.length - 1)).kind = 16 := by
    refine ⟨?_, ?_, ?_⟩
    · by_cases hh : l.length < 2
      · exact absurd (Or.inl hh) h1
      · omega
    · by_cases hh : (opAt l 0).kind = 1
      · exact hh
      · exact absurd (Or.inr (Or.inl hh)) h1
    · by_cases hh : (opAt l (l.length - 1)).kind = 16
      · exact hh
      · exact absurd (Or.inr (Or.inr hh)) h1
  exact ⟨h4.1, by omega, h4.2.1, h4.2.2, fun i hi => (k1 i (by omega) hi).1, fun i hi => (k1 i (by omega) hi).2.1, fun i hi => (k1 i (by omega) hi).2.2.1, fun p hp => k2 p (by omega) hp, fun p hp => (k1 p (by omega) hp).2.2.2, k3⟩
/-- .. and whatever is so may be a book -/
theorem bookGo_of {l : List FOp} (hf : BookFine l) : ∀ (r : List FOp) (i : Nat), l.drop i = r → i ≤ l.length → bookGo l.length r i (openAt l i).length = 0
  | [], i, hr, hi => by
    have hlen : l.length ≤ i := List.drop_eq_nil_iff.1 hr
    obtain rfl : i = l.length := by omega
    unfold bookGo
    rw [hf.shut]
    simp
  | o :: r, i, hr, hi => by
    have hil : i < l.length := by
      have := congrArg List.length hr
      simp at this
      omega
    have ho : opAt l i = o := by
      rw [opAt_get hil]
      have := List.drop_eq_getElem_cons hil
      rw [this] at hr
      exact (List.cons.inj hr).1
    have hr' : l.drop (i + 1) = r := by
      have := List.drop_eq_getElem_cons hil
      rw [this] at hr
      exact (List.cons.inj hr).2
    have ih := bookGo_of hf r (i + 1) hr' hil
    have hlen := openStep_len (s := openAt l i) (i := i) (k := o.kind)
    have hstep := openAt_succ l i
    rw [ho] at hstep
    rw [← hstep] at hlen
    have hop := hf.ops i hil
    have hhe := hf.heads i hil
    have hen := hf.ends i hil
    have hne := hf.next i hil
    have hd := hf.deep (i + 1) hil
    rw [ho] at hop hhe hen hne
    unfold bookGo
    rw [if_neg (by simpa using hop), if_neg (by
      rintro (⟨h1, h2⟩ | ⟨h1, h2⟩)
      · have := hhe h1; omega
      · have := hen h1; omega)]
    by_cases h12 : o.kind = 12
    · rw [if_pos h12] at hlen ⊢
      rw [if_neg (by omega), ← hlen]
      exact ih
    · rw [if_neg h12] at hlen ⊢
      by_cases h13 : o.kind = 13
      · rw [if_pos h13] at hlen ⊢
        have : (openAt l i).length ≠ 0 := fun e => hne h13 (List.eq_nil_of_length_eq_zero e)
        rw [if_neg this, ← hlen]
        exact ih
      · rw [if_neg h13] at hlen ⊢
        rw [← hlen]
        exact ih
theorem book_of {l : List FOp} (hf : BookFine l) : bookFault l = 0 := by
  unfold bookFault
  have h1 := hf.two
  have h2 := hf.few
  rw [if_neg (by
    rintro (h | h | h)
    · omega
    · exact h hf.head
    · exact h hf.last), if_neg (by omega)]
  exact bookGo_of hf l 0 rfl (by omega)
/-! ## the stack of open loops -/
theorem openAt_lt (l : List FOp) : ∀ (p : Nat), ∀ i ∈ openAt l p, i < p ∧ (opAt l i).kind = 12
  | 0, i, h => by simp [openAt] at h
  | p + 1, i, h => by
    rw [openAt_succ] at h
    unfold openStep at h
    split at h
    · rename_i hk
      rcases List.mem_append.1 h with h | h
      · have := openAt_lt l p i h; exact ⟨by omega, this.2⟩
      · simp at h; subst h; exact ⟨by omega, hk⟩
    · split at h
      · have := openAt_lt l p i (List.dropLast_subset _ h); exact ⟨by omega, this.2⟩
      · have := openAt_lt l p i h; exact ⟨by omega, this.2⟩
/-- what lies beneath a loop that is open is what was open at it -/
theorem openAt_under (l : List FOp) : ∀ (p : Nat) (s t : List Nat) (i : Nat), openAt l p = s ++ i :: t → openAt l i = s
  | 0, s, t, i, h => by simp [openAt] at h
  | p + 1, s, t, i, h => by
    rw [openAt_succ] at h
    unfold openStep at h
    split at h
    · rcases List.eq_nil_or_concat t with ht | ⟨t', x, ht⟩
      · subst ht
        obtain ⟨h1, h2⟩ := List.append_inj' h rfl
        simp at h2
        subst h2
        exact h1
      · subst ht
        rw [List.concat_eq_append, ← List.cons_append, ← List.append_assoc] at h
        have := List.append_inj' h rfl
        exact openAt_under l p s t' i this.1
    · split at h
      · have hne : openAt l p ≠ [] := fun e => by rw [e] at h; simp at h
        obtain ⟨x, hx⟩ : ∃ x, openAt l p = (openAt l p).dropLast ++ [x] := ⟨_, (List.dropLast_concat_getLast hne).symm⟩
        rw [h] at hx
        exact openAt_under l p s (t ++ [x]) i (by rw [hx]; simp)
      · exact openAt_under l p s t i h
/-! ## where a loop is closed -/
def endGo (n : Nat) : List FOp → Nat → Nat → Nat
  | [], _, _ => n - 1
  | o :: r, k, deep => if o.kind = 12 then endGo n r (k + 1) (deep + 1) else if o.kind = 13 then (if deep ≤ 1 then k else endGo n r (k + 1) (deep - 1)) else endGo n r (k + 1) deep
def endP (l : List FOp) (i : Nat) : Nat := endGo l.length (l.drop i) i 0
/-- a loop's end: the loop is the inmost one that is open there, and is open all the way -/
structure EndAt (l : List FOp) (i j : Nat) : Prop where
  lt : i < j
  len : j + 1 < l.length
  kind : (opAt l j).kind = 13
  open_ : openAt l j = openAt l i ++ [i]
  shut : openAt l (j + 1) = openAt l i
  between : ∀ p, i < p → p ≤ j → ∃ t, openAt l p = openAt l i ++ i :: t
theorem endGo_spec {l : List FOp} (hf : BookFine l) {i : Nat} : ∀ (r : List FOp) (k : Nat) (t : List Nat), l.drop k = r → k ≤ l.length → i < k → openAt l k = openAt l i ++ i :: t → (∀ p, i < p → p ≤ k → ∃ t, openAt l p = openAt l i ++ i :: t) →
    EndAt l i (endGo l.length r k (t.length + 1))
  | [], k, t, hr, hk, hik, ho, hb => by
    have hlen : l.length ≤ k := List.drop_eq_nil_iff.1 hr
    obtain rfl : k = l.length := by omega
    rw [hf.shut] at ho
    simp at ho
  | o :: r, k, t, hr, hk, hik, ho, hb => by
    have hil : k < l.length := by
      have := congrArg List.length hr
      simp at this
      omega
    have hok : opAt l k = o := by
      rw [opAt_get hil]
      have := List.drop_eq_getElem_cons hil
      rw [this] at hr
      exact (List.cons.inj hr).1
    have hr' : l.drop (k + 1) = r := by
      have := List.drop_eq_getElem_cons hil
      rw [this] at hr
      exact (List.cons.inj hr).2
    have hstep := openAt_succ l k
    rw [hok, ho] at hstep
    unfold openStep at hstep
    have hbk : ∀ t', openAt l (k + 1) = openAt l i ++ i :: t' → ∀ p, i < p → p ≤ k + 1 → ∃ t, openAt l p = openAt l i ++ i :: t := by
      intro t' ht' p h1 h2
      by_cases hp : p = k + 1
      · subst hp; exact ⟨t', ht'⟩
      · exact hb p h1 (by omega)
    unfold endGo
    by_cases h12 : o.kind = 12
    · rw [if_pos h12] at hstep ⊢
      rw [List.append_assoc, List.cons_append] at hstep
      have ih := endGo_spec hf r (k + 1) (t ++ [k]) hr' hil (by omega) hstep (hbk _ hstep)
      rw [List.length_append] at ih
      exact ih
    · rw [if_neg h12] at hstep ⊢
      by_cases h13 : o.kind = 13
      · rw [if_pos h13] at hstep ⊢
        cases t with
        | nil =>
          rw [if_pos (by simp)]
          rw [List.dropLast_concat] at hstep
          refine ⟨hik, ?_, by rw [hok]; exact h13, ho, hstep, hb⟩
          by_cases hkl : k + 1 < l.length
          · exact hkl
          · have hh := hf.last
            rw [show l.length - 1 = k by omega, hok] at hh
            omega
        | cons x t =>
          rw [if_neg (by simp)]
          have hx : (openAt l i ++ i :: x :: t).dropLast = openAt l i ++ i :: (x :: t).dropLast := by
            rw [List.dropLast_append_of_ne_nil (by simp)]
            rfl
          rw [hx] at hstep
          have ih := endGo_spec hf r (k + 1) (x :: t).dropLast hr' hil (by omega) hstep (hbk _ hstep)
          rw [List.length_dropLast] at ih
          exact ih
      · rw [if_neg h13] at hstep ⊢
        exact endGo_spec hf r (k + 1) t hr' hil (by omega) hstep (hbk _ hstep)
theorem endP_spec {l : List FOp} (hf : BookFine l) {i : Nat} (hi : i < l.length) (hk : (opAt l i).kind = 12) : EndAt l i (endP l i) := by
  have hd : l.drop i = opAt l i :: l.drop (i + 1) := by rw [opAt_get hi]; exact List.drop_eq_getElem_cons hi
  have hs : openAt l (i + 1) = openAt l i ++ i :: [] := by rw [openAt_succ, hk]; rfl
  unfold endP
  rw [hd]
  unfold endGo
  rw [if_pos hk]
  exact endGo_spec hf _ (i + 1) [] rfl (by omega) (by omega) hs (fun p h1 h2 => by
    obtain rfl : p = i + 1 := by omega
    exact ⟨[], hs⟩)
/-- one end alone -/
theorem endAt_one {l : List FOp} {i j j' : Nat} (h : EndAt l i j) (h' : EndAt l i j') : j = j' := by
  have key : ∀ {j j'}, EndAt l i j → EndAt l i j' → ¬ j < j' := by
    intro j j' h h' hlt
    obtain ⟨t, ht⟩ := h'.between (j + 1) (by have := h.lt; omega) hlt
    rw [h.shut] at ht
    have := congrArg List.length ht
    simp at this
  have h1 := key h h'
  have h2 := key h' h
  omega
/-- each Next closes the inmost loop -/
theorem next_ends {l : List FOp} (hf : BookFine l) {j : Nat} (hj : j < l.length) (hk : (opAt l j).kind = 13) : ∃ s i, openAt l j = s ++ [i] ∧ i < j ∧ (opAt l i).kind = 12 ∧ endP l i = j := by
  have hne := hf.next j hj hk
  have hx := List.dropLast_concat_getLast hne
  obtain ⟨i, hi⟩ : ∃ i, (openAt l j).getLast hne = i := ⟨_, rfl⟩
  obtain ⟨s, hs⟩ : ∃ s, (openAt l j).dropLast = s := ⟨_, rfl⟩
  rw [hi, hs] at hx
  have hm : i ∈ openAt l j := by rw [← hx]; simp
  have hlt := openAt_lt l j i hm
  have hsp := endP_spec hf (show i < l.length by omega) hlt.2
  refine ⟨s, i, hx.symm, hlt.1, hlt.2, ?_⟩
  have hu := openAt_under l j s [] i hx.symm
  -- the end lies neither before nor behind j
  have h1 : ¬ endP l i < j := by
    intro hh
    -- from the end on the loop i is shut for good: nothing below p is opened at i again
    have key : ∀ p, endP l i + 1 ≤ p → p ≤ j → i ∉ openAt l p := by
      intro p
      induction p with
      | zero => intro h; omega
      | succ p ih =>
        intro h1 h2
        by_cases hp : p = endP l i
        · rw [hp, hsp.shut, hu]
          intro hm'
          have := openAt_lt l i i (by rw [hu]; exact hm')
          omega
        · have := ih (by omega) (by omega)
          rw [openAt_succ]
          unfold openStep
          split
          · intro hm'
            rcases List.mem_append.1 hm' with hm' | hm'
            · exact this hm'
            · simp at hm'; have := hsp.lt; omega
          · split
            · exact fun hm' => this (List.dropLast_subset _ hm')
            · exact this
    exact key j hh (Nat.le_refl _) hm
  have h2 : ¬ j < endP l i := by
    intro hh
    obtain ⟨t, ht⟩ := hsp.between (j + 1) (by omega) hh
    rw [openAt_succ, hk, ← hx, hu] at ht
    have : openStep (s ++ [i]) j 13 = s := by unfold openStep; rw [if_neg (by decide), if_pos rfl, List.dropLast_concat]
    rw [this] at ht
    have := congrArg List.length ht
    simp at this
  omega
end Fb
namespace Fb
open Go Go.Proofs Go.RowKit Go.Sort
def datO (rs : List (FAt FOp)) : List FOp := rs.map (·.x)
theorem datO_len (rs : List (FAt FOp)) : (datO rs).length = rs.length := by simp [datO]
theorem datO_at {rs : List (FAt FOp)} {k : Nat} (h : k < rs.length) : opAt (datO rs) k = rs[k].x := by
  rw [opAt_get (by rw [datO_len]; exact h)]
  simp [datO]
theorem datO_drop {rs : List (FAt FOp)} {k : Nat} (h : k < rs.length) : (datO rs).drop k = rs[k].x :: (datO rs).drop (k + 1) := by
  rw [List.drop_eq_getElem_cons (by rw [datO_len]; exact h)]
  simp [datO]
/-- the cells of one op -/
def OpCells (w : World) (b o : Nat) (r : FAt FOp) : Prop := w.cell? ⟨b, o, none⟩ = some (.int .i64 r.x.kind) ∧ w.cell? ⟨b, o + 1, none⟩ = some (.int .i64 r.x.id) ∧ w.cell? ⟨b, o + 2, none⟩ = some (.int .i64 r.x.a) ∧ w.cell? ⟨b, o + 3, none⟩ = some (.int .i64 r.x.b) ∧ w.cell? ⟨b, o + 4, none⟩ = some (.int .i64 r.x.c) ∧
  w.cell? ⟨b, o + 5, none⟩ = some (.int .i64 r.x.d) ∧ w.cell? ⟨b, o + 6, none⟩ = some (.int .i64 r.x.pic.w) ∧ w.cell? ⟨b, o + 7, none⟩ = some (.int .i64 r.x.pic.h) ∧ w.cell? ⟨b, o + 8, none⟩ = some (.slice r.A r.n r.c)
def OpsAt (w : World) (b off : Nat) (rs : List (FAt FOp)) : Prop := ∀ k (h : k < rs.length), OpCells w b (off + k * 9) rs[k]
theorem Ops.open_ {w : World} {A : Option Addr} {n : Nat} {rs : List (FAt FOp)} (h : Ops w A n rs) (hn : 0 < n) : ∃ b off, A = some ⟨b, off, none⟩ ∧ b < w.heap.size ∧ OpsAt w b off rs := by
  obtain ⟨b, off, e, hb, hc⟩ := h.2.1.2 hn
  refine ⟨b, off, e, hb, fun k hk => ?_⟩
  have e0 : rs[k]? = some rs[k] := List.getElem?_eq_getElem hk
  have f := fun j hj => flat_at (enc := opCells) (size := 9) (fun _ => rfl) rs k j _ e0 hj
  refine ⟨?_, ?_, ?_, ?_, ?_, ?_, ?_, ?_, ?_⟩
  · have := hc (k * 9 + 0) _ (f 0 (by omega)); simpa using this
  · have := hc (k * 9 + 1) _ (f 1 (by omega)); simpa [Nat.add_assoc] using this
  · have := hc (k * 9 + 2) _ (f 2 (by omega)); simpa [Nat.add_assoc] using this
  · have := hc (k * 9 + 3) _ (f 3 (by omega)); simpa [Nat.add_assoc] using this
  · have := hc (k * 9 + 4) _ (f 4 (by omega)); simpa [Nat.add_assoc] using this
  · have := hc (k * 9 + 5) _ (f 5 (by omega)); simpa [Nat.add_assoc] using this
  · have := hc (k * 9 + 6) _ (f 6 (by omega)); simpa [Nat.add_assoc] using this
  · have := hc (k * 9 + 7) _ (f 7 (by omega)); simpa [Nat.add_assoc] using this
  · have := hc (k * 9 + 8) _ (f 8 (by omega)); simpa [Nat.add_assoc] using this
theorem Ops.below {w w' : World} {A : Option Addr} {n : Nat} {rs : List (FAt FOp)} (h : Ops w A n rs) (hb : Below w.heap.size w w') : Ops w' A n rs :=
  ⟨h.1, h.2.1.below hb, fun r hr => (h.2.2 r hr).below hb⟩
theorem OpCells.below {w w' : World} {B b o : Nat} {r : FAt FOp} (h : OpCells w b o r) (hb : Below B w w') (hB : b < B) : OpCells w' b o r := by
  obtain ⟨c0, c1, c2, c3, c4, c5, c6, c7, c8⟩ := h
  have f : ∀ o v, w.cell? ⟨b, o, none⟩ = some v → w'.cell? ⟨b, o, none⟩ = some v := fun o v hv => (hb.cell (p := ⟨b, o, none⟩) hB).trans hv
  exact ⟨f _ _ c0, f _ _ c1, f _ _ c2, f _ _ c3, f _ _ c4, f _ _ c5, f _ _ c6, f _ _ c7, f _ _ c8⟩
/-! ## the law of books, step by step -/
theorem bookFault_head {l : List FOp} (h : l.length < 2 ∨ (opAt l 0).kind ≠ 1 ∨ (opAt l (l.length - 1)).kind ≠ 16) : bookFault l = 3 := by unfold bookFault; rw [if_pos h]
theorem bookFault_many {l : List FOp} (h : ¬ (l.length < 2 ∨ (opAt l 0).kind ≠ 1 ∨ (opAt l (l.length - 1)).kind ≠ 16)) (h2 : 60 < l.length) : bookFault l = 2 := by unfold bookFault; rw [if_neg h, if_pos h2]
theorem bookFault_go {l : List FOp} (h : ¬ (l.length < 2 ∨ (opAt l 0).kind ≠ 1 ∨ (opAt l (l.length - 1)).kind ≠ 16)) (h2 : ¬ 60 < l.length) : bookFault l = bookGo l.length l 0 0 := by unfold bookFault; rw [if_neg h, if_neg h2]
theorem bookGo_op {n i d : Nat} {o : FOp} {r : List FOp} (h : opFault o ≠ 0) : bookGo n (o :: r) i d = opFault o := by
  rw [bookGo, if_pos h]
theorem bookGo_place {n i d : Nat} {o : FOp} {r : List FOp} (h : opFault o = 0) (h2 : (o.kind = 1 ∧ 0 < i) ∨ (o.kind = 16 ∧ i + 1 < n)) : bookGo n (o :: r) i d = 3 := by
  rw [bookGo, if_neg (by simpa using h), if_pos h2]
theorem bookGo_rest {n i d : Nat} {o : FOp} {r : List FOp} (h : opFault o = 0) (h2 : ¬ ((o.kind = 1 ∧ 0 < i) ∨ (o.kind = 16 ∧ i + 1 < n))) :
    bookGo n (o :: r) i d = if o.kind = 12 then (if 3 ≤ d then 2 else bookGo n r (i + 1) (d + 1)) else if o.kind = 13 then (if d = 0 then 3 else bookGo n r (i + 1) (d - 1)) else bookGo n r (i + 1) d := by
  rw [bookGo, if_neg (by simpa using h), if_neg h2]
theorem bookGo_deep {n i d : Nat} {o : FOp} {r : List FOp} (h : opFault o = 0) (hk : o.kind = 12) (hd : d = 3) : bookGo n (o :: r) i d = 2 := by rw [bookGo_rest h (by omega), if_pos hk, if_pos (by omega)]
theorem bookGo_low {n i d : Nat} {o : FOp} {r : List FOp} (h : opFault o = 0) (hk : o.kind = 13) (hd : d = 0) : bookGo n (o :: r) i d = 3 := by rw [bookGo_rest h (by omega), if_neg (by omega), if_pos hk, if_pos hd]
theorem bookGo_in {n i d : Nat} {o : FOp} {r : List FOp} (h : opFault o = 0) (hk : o.kind = 12) (hd : d < 3) : bookGo n (o :: r) i d = bookGo n r (i + 1) (d + 1) := by rw [bookGo_rest h (by omega), if_pos hk, if_neg (by omega)]
theorem bookGo_out {n i d : Nat} {o : FOp} {r : List FOp} (h : opFault o = 0) (hk : o.kind = 13) (hd : 0 < d) : bookGo n (o :: r) i d = bookGo n r (i + 1) (d - 1) := by rw [bookGo_rest h (by omega), if_neg (by omega), if_pos hk, if_neg (by omega)]
theorem bookGo_next {n i d : Nat} {o : FOp} {r : List FOp} (h : opFault o = 0) (h2 : ¬ ((o.kind = 1 ∧ 0 < i) ∨ (o.kind = 16 ∧ i + 1 < n))) (h3 : o.kind ≠ 12) (h4 : o.kind ≠ 13) : bookGo n (o :: r) i d = bookGo n r (i + 1) d := by rw [bookGo_rest h h2, if_neg h3, if_neg h4]
theorem bookGo_end {n i d : Nat} : bookGo n [] i d = if 0 < d then 3 else 0 := by rw [bookGo]
/-- the ways of one round: the answer, or how deep it goes on -/
theorem book_ways (k : Int) (i n d : Nat) (hd : d ≤ 3) : (k = 1 ∧ 0 < i) ∨ (k = 16 ∧ i + 1 < n) ∨ (k = 12 ∧ d = 3) ∨ (k = 13 ∧ d = 0) ∨ (k = 12 ∧ d < 3) ∨ (k = 13 ∧ 0 < d) ∨ (k = 1 ∧ i = 0) ∨ (k = 16 ∧ n ≤ i + 1) ∨ (k ≠ 1 ∧ k ≠ 16 ∧ k ≠ 12 ∧ k ≠ 13) := by omega
end Fb
