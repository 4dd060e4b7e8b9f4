/- The law OpSays: it returns true. Condition: the two variables hold the names (by the row), and the arguments' shape. -/
import Derived.Test.YtlhbdaiocolfeaaDoorROpOf
import Derived.Test.YtlhbdaiocolfeaaDoorSameWalk
import Derived.Test.YtlhbdaiocolfeaaDoorLightPic
import Derived.Test.YtlhbdaiocolfeaaDoorOpen2
import Derived.Test.YtlhbdaiocolfeaaDoorRows
namespace Fb
open Go Go.Proofs Go.RowKit Go.Sort
attribute [local go_sem ↓] Go.wp_at_zero Go.wp_at_succ
theorem chunk_move : opChunkV ⟨3, 2, -1, 3, 0, 0, ⟨0, 0, []⟩⟩ = .tuple #[.agg #[.string ⟨#[77, 79, 86, 69]⟩, .string ⟨#[2, 127, 0, 131, 0]⟩], .nilIface] := by rw [opChunkV_ok (by decide)]; rfl
/-- the row's condition: the variables hold the names -/
theorem names_both {W : World} (h : laidMetH Tryd.prog Go.Proofs.YtlhbdaiocolfeaaDoor.Rows.opSaysRow.laid W) : NamesAt 0 W ∧ NamesAt 1 W := by
  rw [MakeChecks.laidMetH_plain _ _ _ (by kernel_rfl)] at h
  obtain ⟨ps, ⟨g0, t0, cs0, f0, p0, q0, hg0, ht0, hv0, hd0, ⟨g1, t1, cs1, f1, p1, q1, hg1, ht1, hv1, hd1, -⟩, -⟩, -⟩ := h
  obtain rfl := Option.some.inj ((show Tryd.prog.globalNamed "flickerbook/flickerbookref.names" = some 1 by kernel_rfl).symm.trans hg0)
  obtain rfl := Option.some.inj ((show (Tryd.prog.globals[1]?).map (·.type) = some 72 by kernel_rfl).symm.trans ht0)
  obtain rfl := Option.some.inj ((show Tryd.prog.globalNamed "flickerbook/op.names" = some 0 by kernel_rfl).symm.trans hg1)
  obtain rfl := Option.some.inj ((show (Tryd.prog.globals[0]?).map (·.type) = some 72 by kernel_rfl).symm.trans ht1)
  exact ⟨namesAt_of (fun _ => rfl) hg1 Tryd.underlying72 Tryd.underlying9 (by kernel_rfl) hv1 hd1, namesAt_of (fun _ => rfl) hg0 Tryd.underlying72 Tryd.underlying9 (by kernel_rfl) hv0 hd0⟩
theorem unpackGo_errO : ∀ (n : Nat) (L B : List UInt8) (most : Int), L.length ≤ n → (unpackGo L B most).2 ≤ 4
  | _, [], B, most, _ => by simp [unpackGo]
  | _, [_], B, most, _ => by simp [unpackGo]
  | 0, a :: b :: l, B, most, hn => by simp at hn
  | n + 1, a :: b :: l, B, most, hn => by
    unfold unpackGo
    split
    · exact Nat.le_refl _
    · split
      · show 2 ≤ 4; omega
      · exact unpackGo_errO n l _ most (by simp at hn; omega)
theorem unpack_errO (L : List UInt8) (most : Int) : (unpack L most).2 ≤ 4 := by
  unfold unpack
  split
  · exact Nat.le_refl _
  · exact unpackGo_errO _ L [] most (Nat.le_refl _)
theorem picOf_fault (s : List UInt8) : (picOf s).2 ≤ 100 := by
  unfold picOf
  split
  · simp
  · split
    · simp
    · have he := unpack_errO (s.drop 2) (((s.getD 1 0).toNat * (1 + 2 * (s.getD 0 0).toNat) : Nat) : Int)
      simp only
      split
      · show _ ≤ 100; omega
      · split
        · simp
        · split <;> simp
theorem opEnd_sm {o : FOp} (h : o.pic.p.length ≤ 100) : (opEnd o).1.pic.p.length ≤ 100 ∧ (opEnd o).2 ≤ 100 := by
  unfold opEnd
  have := opFault_le o
  split
  · exact ⟨h, by simp⟩
  · exact ⟨by simp [noOp], by show opFault o ≤ 100; omega⟩
theorem opOf_sm (N D : List UInt8) : (opOf N D).1.pic.p.length ≤ 100 ∧ (opOf N D).2 ≤ 100 := by
  unfold opOf
  have h1 := picOf_sm (s := D.drop (headN (kindOf N) + 2 * manyN (kindOf N)))
  have h2 := picOf_fault (D.drop (headN (kindOf N) + 2 * manyN (kindOf N)))
  repeat' split
  · exact ⟨Nat.zero_le _, by show 5 ≤ 100; omega⟩
  · exact ⟨Nat.zero_le _, by show 4 ≤ 100; omega⟩
  · exact opEnd_sm h1
  · exact ⟨Nat.zero_le _, h2⟩
  · exact opEnd_sm (Nat.zero_le _)
set_option maxRecDepth 100000 in
set_option maxHeartbeats 2000000 in
theorem ops_any (w : World) (hN : NamesAt 0 w) : Calls Tryd.prog 6 #[] w (Ret (.bool true) w) := by
  have HN := hid hN
  clear hN
  go_enter Tryd.func6, Tryd.ntmps6
  go_wp2_with fail
  refine (opchunk_any 3 2 (-1) 3 0 0 0 0 [] none 0 0 w ⟨rfl, Row.none_ _ _ _⟩ (by omega) HN.out).mono ?_
  rintro e w1 ⟨rfl, hb1⟩
  rw [chunk_move]
  go_upto_region 2 with fail
  obtain ⟨W2, hW2⟩ : ∃ W2, W2 = w1.alloc (.cells #[.string ⟨#[77, 79, 86, 69]⟩, .string ⟨#[2, 127, 0, 131, 0]⟩] 30) := ⟨_, rfl⟩
  have hb2 : Below w1.heap.size w1 W2 := by rw [hW2]; exact (Below.refl _ _).alloc (Nat.le_refl _) _
  have hB2 := bnext hb1 hb2
  have hC2 : W2.heap[w1.heap.size]? = some (.cells #[.string ⟨#[77, 79, 86, 69]⟩, .string ⟨#[2, 127, 0, 131, 0]⟩] 30) := by rw [hW2]; exact heap_alloc_new w1 _
  rw [← hW2]
  obtain ⟨g, hg⟩ : ∃ g, g = w1.heap.size := ⟨_, rfl⟩
  rw [← hg] at hC2 ⊢
  clear hW2 hg hb2
  go_wp2_with fail
  refine (same_any 0 0 W2 (by omega)).mono ?_
  rintro e w3 ⟨rfl, hb3⟩
  rw [show sameB 0 0 = true from rfl]
  have hC3 := blk_keep hC2 hb3
  have hB3 := bnext hB2 hb3
  have c0 := opblk_cell hC3 0 _ rfl
  have c1 := opblk_cell hC3 1 _ rfl
  clear hC2 hC3 hb3 hB2
  go_wp2_with fail
  go_ret
  exact ⟨rfl, hB3⟩
theorem rsameop_selfA (k i a b c d pw ph : Int) (pl : List Px) (A B : Option Addr) (cp cq : Nat) (w : World) (h1 : Pixs w A pl.length pl) (h2 : Pixs w B pl.length pl) (hn : pl.length ≤ 1000) :
    Calls Tryd.prog 15 #[.agg #[.int .i64 k, .int .i64 i, .int .i64 a, .int .i64 b, .int .i64 c, .int .i64 d, .int .i64 pw, .int .i64 ph, .slice A pl.length cp], .agg #[.int .i64 k, .int .i64 i, .int .i64 a, .int .i64 b, .int .i64 c, .int .i64 d, .int .i64 pw, .int .i64 ph, .slice B pl.length cq]] w (Ret (.bool true) w) :=
  rsameop_self k i a b c d pw ph pl A B pl.length cp pl.length cq w h1 h2 hn
set_option maxRecDepth 100000 in
set_option maxHeartbeats 4000000 in
theorem opSays_walk (k i a b c d pw ph : Int) (pl : List Px) (A : Option Addr) (n cp : Nat) (N D : List UInt8) (w : World) (hl : Pixs w A n pl) (hN : NamesAt 0 w) (hM : NamesAt 1 w) :
    Calls Tryd.prog 3 #[.agg #[.int .i64 k, .int .i64 i, .int .i64 a, .int .i64 b, .int .i64 c, .int .i64 d, .int .i64 pw, .int .i64 ph, .slice A n cp], .string (strOf N), .string (strOf D)] w (Ret (.bool true) w) := by
  have HL := hid hl
  have HN := hid hN
  have HM := hid hM
  clear hl hN hM
  go_enter Tryd.func3, Tryd.ntmps3
  go_upto_region 1 with fail
  obtain ⟨W0, hW0⟩ : ∃ W0, W0 = w.alloc (.cells #[.int .i64 k, .int .i64 i, .int .i64 a, .int .i64 b, .int .i64 c, .int .i64 d, .int .i64 pw, .int .i64 ph, .slice A n cp] 26) := ⟨_, rfl⟩
  have hB0 : Below w.heap.size w W0 := by rw [hW0]; exact (Below.refl w.heap.size w).alloc (Nat.le_refl _) _
  have HP0 := hid (show OpBoxAt w.heap.size k i a b c d pw ph A n cp W0 by rw [hW0]; exact heap_alloc_new w _)
  have z0 : w.heap.size + 1 ≤ W0.heap.size := by rw [hW0]; simp
  rw [← hW0]
  clear hW0
  go_wp2_with fail
  refine (ops_any W0 (HN.out.below hB0)).mono ?_
  rintro e w1 ⟨rfl, hb1⟩
  have HP1 := hid (blk_keep HP0.out hb1)
  have hB1 := bnext hB0 hb1
  clear HP0 hb1 hB0 z0
  obtain ⟨c0, c1, c2, c3, c4, c5, c6, c7, c8⟩ := OpBoxAt.cells HP1.out
  go_wp2_with fail
  refine (lightpic_any ⟨⟨pw, ph, pl⟩, A, n, cp⟩ _).mono ?_
  rintro e w2 ⟨rfl, hb2⟩
  have HP2 := hid (blk_keep HP1.out hb2)
  have hB2 := bnext hB1 hb2
  clear c0 c1 c2 c3 c4 c5 c6 c7 c8 HP1 hb2 hB1
  obtain ⟨c0, c1, c2, c3, c4, c5, c6, c7, c8⟩ := OpBoxAt.cells HP2.out
  cases hC : decide (n ≤ 80)
  case false => (go_wp2_with fail; go_ret; exact ⟨rfl, hB2⟩)
  have nC := of_decide_eq_true hC
  clear hC
  have hsN := strOf_size N
  by_cases hN10 : 10 < N.length
  · have hq : (10 : Int) < ((strOf N).size : Int) := by omega
    clear hsN
    go_wp2_with fail
    go_ret
    exact ⟨rfl, hB2⟩
  have q1 : ¬ (10 : Int) < ((strOf N).size : Int) := by omega
  have hsD := strOf_size D
  by_cases hD5 : 500 < D.length
  · have hq : (500 : Int) < ((strOf D).size : Int) := by omega
    clear hsN hsD
    go_wp2_with fail
    go_ret
    exact ⟨rfl, hB2⟩
  have q2 : ¬ (500 : Int) < ((strOf D).size : Int) := by omega
  clear hsN hsD
  go_upto_region 4 with fail
  clear q1 q2
  go_wp2_with fail
  refine (opchunk_any k i a b c d pw ph pl A n cp w2 (HL.out.below hB2) (by omega) (HN.out.below hB2)).mono ?_
  rintro e w3 ⟨rfl, hb3⟩
  have HP3 := hid (blk_keep HP2.out hb3)
  have hB3 := bnext hB2 hb3
  have CN := hid (fun W (hw : Below w.heap.size w W) => ropchunk_any k i a b c d pw ph pl A n cp W (HL.out.below hw) (by omega) (HM.out.below hw))
  have OC := hid (fun W (hw : Below w.heap.size w W) => opcheck_any ⟨⟨k, i, a, b, c, d, ⟨pw, ph, pl⟩⟩, A, n, cp⟩ W (HL.out.below hw) (by show n ≤ 100; omega))
  have OF := hid (fun W (hw : Below w.heap.size w W) => ropfault_any ⟨⟨k, i, a, b, c, d, ⟨pw, ph, pl⟩⟩, A, n, cp⟩ W (HL.out.below hw) (by show n ≤ 100; omega))
  unfold opV at OC OF
  unfold opChunkN at CN
  unfold opChunkV
  simp only at OC OF
  have hle := opFault_le ⟨k, i, a, b, c, d, ⟨pw, ph, pl⟩⟩
  generalize opName (⟨k, i, a, b, c, d, ⟨pw, ph, pl⟩⟩ : FOp).kind = on at *
  generalize opData ⟨k, i, a, b, c, d, ⟨pw, ph, pl⟩⟩ = od at *
  generalize opFault ⟨k, i, a, b, c, d, ⟨pw, ph, pl⟩⟩ = F at *
  generalize strOf (if F = 0 then on else []) = S1 at *
  generalize strOf (if F = 0 then od else []) = S2 at *
  clear c0 c1 c2 c3 c4 c5 c6 c7 c8 HP2 hb3 hB2
  go_upto_region 5 with fail
  obtain ⟨W4, hW4⟩ : ∃ W4, W4 = w3.alloc (.cells #[.string S1, .string S2] 30) := ⟨_, rfl⟩
  have hb4 : Below w3.heap.size w3 W4 := by rw [hW4]; exact (Below.refl _ _).alloc (Nat.le_refl _) _
  have HC4 : Hid (W4.heap[w3.heap.size]? = some (.cells #[.string S1, .string S2] 30)) := hid (by rw [hW4]; exact heap_alloc_new w3 _)
  obtain ⟨gc, hgc⟩ : ∃ g, g = w3.heap.size := ⟨_, rfl⟩
  rw [← hgc] at HC4
  rw [← hW4, ← hgc]
  have HP4 := hid (blk_keep HP3.out hb4)
  have hB4 := bnext hB3 hb4
  clear hW4 hgc hb4 HP3 hB3
  obtain ⟨c0, c1, c2, c3, c4, c5, c6, c7, c8⟩ := OpBoxAt.cells HP4.out
  go_wp2_with fail
  refine (CN.out W4 hB4).mono ?_
  rintro e w5 ⟨rfl, hb5⟩
  have HP5 := hid (blk_keep HP4.out hb5)
  have HC5 := hid (blk_keep HC4.out hb5)
  have hB5 := bnext hB4 hb5
  clear c0 c1 c2 c3 c4 c5 c6 c7 c8 HP4 HC4 hb5 hB4
  go_wp2_with fail
  refine (opparse_any N D w5 (by omega) (HN.out.below hB5)).mono ?_
  rintro e w6 ⟨XA, xcap, rfl, hx, -, hb6⟩
  have RO := hid (fun W (hw : Below w.heap.size w W) => ropof_any N D W (by omega) (HM.out.below hw))
  unfold RetOpN at RO
  have hsm := opOf_sm N D
  obtain ⟨⟨⟨xk, xi, xa, xb, xc, xd, ⟨xw, xh, xl⟩⟩, xf⟩, hX⟩ : ∃ X, opOf N D = X := ⟨_, rfl⟩
  simp only [hX] at RO hx hsm ⊢
  clear hX
  have HX := hid hx
  have HP6 := hid (blk_keep HP5.out hb6)
  have HC6 := hid (blk_keep HC5.out hb6)
  have hB6 := bnext hB5 hb6
  clear hx HP5 HC5 hb6 hB5
  go_upto_region 7 with fail
  obtain ⟨W7, hW7⟩ : ∃ W7, W7 = w6.alloc (.cells #[.int .i64 xk, .int .i64 xi, .int .i64 xa, .int .i64 xb, .int .i64 xc, .int .i64 xd, .int .i64 xw, .int .i64 xh, .slice XA xl.length xcap] 26) := ⟨_, rfl⟩
  have hb7 : Below w6.heap.size w6 W7 := by rw [hW7]; exact (Below.refl _ _).alloc (Nat.le_refl _) _
  have HQ7 : Hid (OpBoxAt w6.heap.size xk xi xa xb xc xd xw xh XA xl.length xcap W7) := hid (by rw [hW7]; exact heap_alloc_new w6 _)
  obtain ⟨gx, hgx⟩ : ∃ g, g = w6.heap.size := ⟨_, rfl⟩
  rw [← hgx] at HQ7
  rw [← hW7, ← hgx]
  have HP7 := hid (blk_keep HP6.out hb7)
  have HC7 := hid (blk_keep HC6.out hb7)
  have HX7 := hid (HX.out.below hb7)
  have hB7 := bnext hB6 hb7
  clear hW7 hgx hb7 HP6 HC6 hB6 HX
  go_wp2_with fail
  refine (RO.out W7 hB7).mono ?_
  rintro e w8 ⟨YA, ycap, rfl, hy, -, hb8⟩
  have HY8 := hid hy
  have HP8 := hid (blk_keep HP7.out hb8)
  have HC8 := hid (blk_keep HC7.out hb8)
  have HQ8 := hid (blk_keep HQ7.out hb8)
  have HX8 := hid (HX7.out.below hb8)
  have hB8 := bnext hB7 hb8
  clear hy HP7 HC7 HQ7 HX7 hb8 hB7
  go_upto_region 8 with fail
  obtain ⟨W9, hW9⟩ : ∃ W9, W9 = w8.alloc (.cells #[.int .i64 xk, .int .i64 xi, .int .i64 xa, .int .i64 xb, .int .i64 xc, .int .i64 xd, .int .i64 xw, .int .i64 xh, .slice YA xl.length ycap] 26) := ⟨_, rfl⟩
  have hb9 : Below w8.heap.size w8 W9 := by rw [hW9]; exact (Below.refl _ _).alloc (Nat.le_refl _) _
  have HR9 : Hid (OpBoxAt w8.heap.size xk xi xa xb xc xd xw xh YA xl.length ycap W9) := hid (by rw [hW9]; exact heap_alloc_new w8 _)
  obtain ⟨gy, hgy⟩ : ∃ g, g = w8.heap.size := ⟨_, rfl⟩
  rw [← hgy] at HR9
  rw [← hW9, ← hgy]
  have HP9 := hid (blk_keep HP8.out hb9)
  have HC9 := hid (blk_keep HC8.out hb9)
  have HQ9 := hid (blk_keep HQ8.out hb9)
  have HX9 := hid (HX8.out.below hb9)
  have HY9 := hid (HY8.out.below hb9)
  have hB9 := bnext hB8 hb9
  clear hW9 hgy hb9 HP8 HC8 HQ8 HX8 HY8 hB8
  obtain ⟨c0, c1, c2, c3, c4, c5, c6, c7, c8⟩ := OpBoxAt.cells HP9.out
  obtain ⟨x0, x1, x2, x3, x4, x5, x6, x7, x8⟩ := OpBoxAt.cells HQ9.out
  obtain ⟨y0, y1, y2, y3, y4, y5, y6, y7, y8⟩ := OpBoxAt.cells HR9.out
  have u0 := opblk_cell HC9.out 0 _ rfl
  have u1 := opblk_cell HC9.out 1 _ rfl
  have zp : w.heap.size < W9.heap.size := (Array.getElem?_eq_some_iff.1 HP9.out).1
  have zc : gc < W9.heap.size := (Array.getElem?_eq_some_iff.1 HC9.out).1
  have zx : gx < W9.heap.size := (Array.getElem?_eq_some_iff.1 HQ9.out).1
  have zy : gy < W9.heap.size := (Array.getElem?_eq_some_iff.1 HR9.out).1
  have C0 := cell_all2 zp c0
  have C1 := cell_all2 zp c1
  have C2 := cell_all2 zp c2
  have C3 := cell_all2 zp c3
  have C4 := cell_all2 zp c4
  have C5 := cell_all2 zp c5
  have C6 := cell_all2 zp c6
  have C7 := cell_all2 zp c7
  have C8 := cell_all2 zp c8
  have X0 := cell_all2 zx x0
  have X1 := cell_all2 zx x1
  have X2 := cell_all2 zx x2
  have X3 := cell_all2 zx x3
  have X4 := cell_all2 zx x4
  have X5 := cell_all2 zx x5
  have X6 := cell_all2 zx x6
  have X7 := cell_all2 zx x7
  have X8 := cell_all2 zx x8
  have Y0 := cell_all2 zy y0
  have Y1 := cell_all2 zy y1
  have Y2 := cell_all2 zy y2
  have Y3 := cell_all2 zy y3
  have Y4 := cell_all2 zy y4
  have Y5 := cell_all2 zy y5
  have Y6 := cell_all2 zy y6
  have Y7 := cell_all2 zy y7
  have Y8 := cell_all2 zy y8
  have U0 := cell_all2 zc u0
  have U1 := cell_all2 zc u1
  have hbr := fun dd os => below_regrown W9 dd os
  have r1 := fun dd os => Ret.regrown (OC.out (grow (redrawn W9 dd) os) (bnext hB9 (hbr dd os)))
  have r2 := fun dd os => Ret.regrown (OF.out (grow (redrawn W9 dd) os) (bnext hB9 (hbr dd os)))
  have r3 := fun dd os => Ret.regrown (same_any F (F : Int) (grow (redrawn W9 dd) os) (by omega))
  have r4 := fun dd os => Ret.regrown (rsameop_selfA xk xi xa xb xc xd xw xh xl XA YA xcap ycap (grow (redrawn W9 dd) os) (HX9.out.below (hbr dd os)) (HY9.out.below (hbr dd os)) (by omega))
  have r5 := fun dd os => Ret.regrown (same_any xf (xf : Int) (grow (redrawn W9 dd) os) hsm.2)
  rw [sameB_self] at r3 r5
  have HBK := hid hB9
  clear hbr c0 c1 c2 c3 c4 c5 c6 c7 c8 x0 x1 x2 x3 x4 x5 x6 x7 x8 y0 y1 y2 y3 y4 y5 y6 y7 y8 u0 u1 hN10 hD5 hle hsm hB9 nC
  refine wp_region_quiet_below (by kernel_rfl) (by kernel_rfl) ?_
  iterate 1 (quiet_step (fail))
  quiet_step (exact r1 _ _)
  iterate 1 (quiet_step (fail))
  quiet_step (exact r2 _ _)
  quiet_step (exact r3 _ _)
  iterate 15 (quiet_step (fail))
  quiet_step (exact r3 _ _)
  iterate 4 (quiet_step (fail))
  quiet_step (exact r4 _ _)
  iterate 4 (quiet_step (fail))
  quiet_step (exact r5 _ _)
  iterate 2 (quiet_step (fail))
  (refine wpQuiet_nil ?_; intro _ hw'; obtain ⟨⟨dq, osq⟩, hw''⟩ := hw'; subst hw'')
  have hbQ := bnext HBK.out (below_regrown W9 dq osq)
  go_wp2_with fail
  go_ret
  exact ⟨rfl, hbQ⟩
theorem opSays_row (w : World) (x : FAt FOp) (hx : OpOk w x) (s : ByteArray) (_hs : s.size ≤ maxLen) (t : ByteArray) (_ht : t.size ≤ maxLen) (hN : NamesAt 0 w ∧ NamesAt 1 w) :
    Calls Tryd.prog 3 #[.agg #[.int .i64 x.x.kind, .int .i64 x.x.id, .int .i64 x.x.a, .int .i64 x.x.b, .int .i64 x.x.c, .int .i64 x.x.d, .int .i64 x.x.pic.w, .int .i64 x.x.pic.h, .slice x.A x.n x.c], .string s, .string t] w (Ret (.bool true) w) := by
  have h := opSays_walk x.x.kind x.x.id x.x.a x.x.b x.x.c x.x.d x.x.pic.w x.x.pic.h x.x.pic.p x.A x.n x.c s.data.toList t.data.toList w hx.1 hN.1 hN.2
  have e : ∀ b : ByteArray, strOf b.data.toList = b := fun b => by unfold strOf; simp
  rw [e, e] at h
  exact h
end Fb
