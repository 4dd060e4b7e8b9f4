/- The law TopOp: it returns true. Condition: the variable op.names holds the names (by the row), and the argument's shape. -/
import Derived.Test.YtlhbdaiocolfeaaDoorOpParseW
import Derived.Test.YtlhbdaiocolfeaaDoorSameWalk
import Derived.Test.YtlhbdaiocolfeaaDoorLightPic
import Derived.Test.YtlhbdaiocolfeaaDoorOpen2
import Derived.Test.YtlhbdaiocolfeaaDoorRows
namespace Fb
open Go Go.Proofs Go.RowKit Go.Sort
attribute [local go_sem ↓] Go.wp_at_zero Go.wp_at_succ
theorem chunk_save : opChunkV ⟨14, 0, 0, 0, 0, 0, ⟨0, 0, []⟩⟩ = .tuple #[.agg #[.string ⟨#[83, 65, 86, 69]⟩, .string ⟨#[]⟩], .nilIface] := by rw [opChunkV_ok (by decide)]; rfl
def ChunkAt (g : Nat) (N D : ByteArray) (W : World) : Prop := W.heap[g]? = some (.cells #[.string N, .string D] 30)
theorem ChunkAt.parts {g : Nat} {N D : ByteArray} {W : World} (h : ChunkAt g N D W) : W.cell? ⟨g, 0, none⟩ = some (.string N) ∧ W.cell? ⟨g, 1, none⟩ = some (.string D) ∧ W.frozen? ⟨g, 0, none⟩ = false ∧ W.frozen? ⟨g, 1, none⟩ = false :=
  ⟨opblk_cell h 0 _ rfl, opblk_cell h 1 _ rfl, opblk_free h 0, opblk_free h 1⟩
theorem ChunkAt.set {g : Nat} {N D : ByteArray} {W : World} (h : ChunkAt g N D W) (N' D' : ByteArray) : ChunkAt g N' D' ((W.setCell ⟨g, 0, none⟩ (.string N')).setCell ⟨g, 1, none⟩ (.string D')) := by
  unfold ChunkAt at h ⊢
  have h0 : (W.setCell ⟨g, 0, none⟩ (.string N')).heap[g]? = some (.cells #[.string N', .string D] 30) := by
    rw [setCell_eq_setRow W g 0 _ _ (0, 0) _ h, setRow_heap _ _ _ _ _ _ h]; rfl
  rw [setCell_eq_setRow _ g 1 _ _ (0, 0) _ h0, setRow_heap _ _ _ _ _ _ h0]; rfl
theorem blk_other {W : World} {g h o : Nat} {v : Value} {ob : Go.Obj} (hb : W.heap[h]? = some ob) (hne : h ≠ g) : (W.setCell ⟨g, o, none⟩ v).heap[h]? = some ob := (Below.heap_setCell W ⟨g, o, none⟩ v h hne).trans hb
theorem tailB_le {o : FOp} (h : opFault o = 0) : (tailB o).length ≤ 300 := by
  unfold tailB
  split
  · rename_i hp
    have := (opFault_fine h).2.2.2.2 hp
    have fp := picFault_fine.1 this
    have h1 := picBytes_len fp
    obtain ⟨f1, f2, f3, f4, -, -⟩ := fp
    have hmb : 2 * o.pic.h * (1 + 2 * o.pic.w) ≤ 16 * 17 := Int.mul_le_mul (by omega) (by omega) (by omega) (by omega)
    omega
  · simp
theorem opData_sm {o : FOp} (h : opFault o = 0) : (opData o).length ≤ 1000 := by
  rw [data_len]
  have h1 := tailB_le h
  have h2 := manyN_le o.kind
  have h3 : headN o.kind ≤ 1 := by unfold headN; split <;> omega
  omega
/-- the row's condition: the variable holds the names -/
theorem names_laid {W : World} (h : laidMetH Tryd.prog Go.Proofs.YtlhbdaiocolfeaaDoor.Rows.topOpRow.laid W) : NamesAt 0 W := by
  rw [MakeChecks.laidMetH_plain _ _ _ (by kernel_rfl)] at h
  obtain ⟨ps, ⟨g0, t0, cs0, f0, p0, q0, hg0, ht0, hv0, hd0, -⟩, -, -⟩ := h
  obtain rfl := Option.some.inj ((show Tryd.prog.globalNamed "flickerbook/op.names" = some 0 by kernel_rfl).symm.trans hg0)
  obtain rfl := Option.some.inj ((show (Tryd.prog.globals[0]?).map (·.type) = some 72 by kernel_rfl).symm.trans ht0)
  exact namesAt_of (fun _ => rfl) hg0 Tryd.underlying72 Tryd.underlying9 (by kernel_rfl) hv0 hd0
set_option maxRecDepth 100000 in
set_option maxHeartbeats 4000000 in
theorem topOp_walk (k i a b c d pw ph : Int) (pl : List Px) (A : Option Addr) (n cp : Nat) (w : World) (hl : Pixs w A n pl) (hN : NamesAt 0 w) :
    Calls Tryd.prog 5 #[.agg #[.int .i64 k, .int .i64 i, .int .i64 a, .int .i64 b, .int .i64 c, .int .i64 d, .int .i64 pw, .int .i64 ph, .slice A n cp]] w (Ret (.bool true) w) := by
  have HL := hid hl
  have HN := hid hN
  clear hl hN
  go_enter Tryd.func5, Tryd.ntmps5
  go_upto_region 1 with fail
  obtain ⟨W0, hW0⟩ : ∃ W0, W0 = w.alloc (.cells #[.int .i64 k, .int .i64 i, .int .i64 a, .int .i64 b, .int .i64 c, .int .i64 d, .int .i64 pw, .int .i64 ph, .slice A n cp] 26) := ⟨_, rfl⟩
  have hB0 : Below w.heap.size w W0 := by rw [hW0]; exact (Below.refl w.heap.size w).alloc (Nat.le_refl _) _
  have P0 : OpBoxAt w.heap.size k i a b c d pw ph A n cp W0 := by rw [hW0]; exact heap_alloc_new w _
  have z0 : w.heap.size + 1 ≤ W0.heap.size := by rw [hW0]; simp
  rw [← hW0]
  clear hW0
  have HP0 := hid P0
  clear P0
  go_wp2_with fail
  refine (opchunk_any 14 0 0 0 0 0 0 0 [] none 0 0 W0 ⟨rfl, Row.none_ _ _ _⟩ (by omega) (HN.out.below hB0)).mono ?_
  rintro e w1 ⟨rfl, hb1⟩
  rw [chunk_save]
  have HP1 := hid (blk_keep HP0.out hb1)
  have hB1 := bnext hB0 hb1
  have z1 : w.heap.size + 1 ≤ w1.heap.size := Nat.le_trans z0 hb1.size
  clear HP0 hb1 hB0 z0
  go_upto_region 2 with fail
  obtain ⟨W2, hW2⟩ : ∃ W2, W2 = w1.alloc (.cells #[.string ⟨#[83, 65, 86, 69]⟩, .string ⟨#[]⟩] 30) := ⟨_, rfl⟩
  rw [← hW2]
  have hB2 : Below w.heap.size w W2 := by rw [hW2]; exact hB1.alloc (by omega) _
  have C2 : ChunkAt w1.heap.size ⟨#[83, 65, 86, 69]⟩ ⟨#[]⟩ W2 := by rw [hW2]; exact heap_alloc_new w1 _
  have HP2 := hid (show OpBoxAt w.heap.size k i a b c d pw ph A n cp W2 by rw [hW2]; exact blk_keep HP1.out ((Below.refl _ _).alloc (Nat.le_refl _) _))
  obtain ⟨g, hg⟩ : ∃ g, g = w1.heap.size := ⟨_, rfl⟩
  rw [← hg] at C2 z1 ⊢
  have HC2 := hid C2
  clear hW2 hg HP1 hB1 C2
  obtain ⟨c0, c1, c2, c3, c4, c5, c6, c7, c8⟩ := OpBoxAt.cells HP2.out
  obtain ⟨x0, x1, f0, f1⟩ := ChunkAt.parts HC2.out
  go_wp2_with fail
  refine (lightpic_any ⟨⟨pw, ph, pl⟩, A, n, cp⟩ _).mono ?_
  rintro e w3 ⟨rfl, hb3⟩
  have HP3 := hid (blk_keep HP2.out hb3)
  have HC3 := hid (blk_keep HC2.out hb3)
  have hB3 := bnext hB2 hb3
  clear c0 c1 c2 c3 c4 c5 c6 c7 c8 x0 x1 f0 f1 HP2 HC2 hb3 hB2
  obtain ⟨c0, c1, c2, c3, c4, c5, c6, c7, c8⟩ := OpBoxAt.cells HP3.out
  obtain ⟨x0, x1, f0, f1⟩ := ChunkAt.parts HC3.out
  cases hC : decide (n ≤ 80)
  case false => (go_wp2_with fail; go_ret; exact ⟨rfl, hB3⟩)
  have nC := of_decide_eq_true hC
  clear hC
  go_wp2_with fail
  refine (opchunk_any k i a b c d pw ph pl A n cp w3 (HL.out.below hB3) (by omega) (HN.out.below hB3)).mono ?_
  rintro e w4 ⟨rfl, hb4⟩
  have HP4 := hid (blk_keep HP3.out hb4)
  have HC4 := hid (blk_keep HC3.out hb4)
  have hB4 := bnext hB3 hb4
  clear c0 c1 c2 c3 c4 c5 c6 c7 c8 x0 x1 f0 f1 HP3 HC3 hb4 hB3
  obtain ⟨c0, c1, c2, c3, c4, c5, c6, c7, c8⟩ := OpBoxAt.cells HP4.out
  obtain ⟨x0, x1, f0, f1⟩ := ChunkAt.parts HC4.out
  have hgne : g ≠ w.heap.size := by omega
  by_cases hf : opFault ⟨k, i, a, b, c, d, ⟨pw, ph, pl⟩⟩ = 0
  case neg =>
    have hle := opFault_le ⟨k, i, a, b, c, d, ⟨pw, ph, pl⟩⟩
    rw [opChunkV_bad hf]
    have OC := hid (fun W (hw : Pixs W A n pl) => opcheck_any ⟨⟨k, i, a, b, c, d, ⟨pw, ph, pl⟩⟩, A, n, cp⟩ W hw (by show n ≤ 100; omega))
    unfold opV at OC
    simp only at OC
    have hev := hid (errV_pos hf)
    generalize opFault ⟨k, i, a, b, c, d, ⟨pw, ph, pl⟩⟩ = F at *
    go_upto_region 8 with fail
    obtain ⟨W5, hW5⟩ : ∃ W5, W5 = (w4.setCell ⟨g, 0, none⟩ (.string ⟨#[]⟩)).setCell ⟨g, 1, none⟩ (.string ⟨#[]⟩) := ⟨_, rfl⟩
    rw [← hW5]
    have hB5 : Below w.heap.size w W5 := by rw [hW5]; exact (hB4.setCell (by show w.heap.size ≤ g; omega) _).setCell (by show w.heap.size ≤ g; omega) _
    have HC5 := hid (show ChunkAt g ⟨#[]⟩ ⟨#[]⟩ W5 by rw [hW5]; exact ChunkAt.set HC4.out _ _)
    have HP5 := hid (show OpBoxAt w.heap.size k i a b c d pw ph A n cp W5 by rw [hW5]; exact blk_other (blk_other HP4.out (Ne.symm hgne)) (Ne.symm hgne))
    clear c0 c1 c2 c3 c4 c5 c6 c7 c8 x0 x1 f0 f1 HP4 HC4 hW5 hB4
    obtain ⟨c0, c1, c2, c3, c4, c5, c6, c7, c8⟩ := OpBoxAt.cells HP5.out
    obtain ⟨x0, x1, f0, f1⟩ := ChunkAt.parts HC5.out
    go_wp2_with fail
    refine (OC.out _ (HL.out.below hB5)).mono ?_
    rintro e w6 ⟨rfl, hb6⟩
    have hB6 := bnext hB5 hb6
    go_wp2_with fail
    refine (number_any F _ (by omega)).mono ?_
    rintro e w7 ⟨rfl, hb7⟩
    have hB7 := bnext hB6 hb7
    rw [← hev.out]
    go_wp2_with fail
    refine (number_any F _ (by omega)).mono ?_
    rintro e w8 ⟨rfl, hb8⟩
    have hB8 := bnext hB7 hb8
    go_wp2_with fail
    go_ret
    exact ⟨rfl, hB8⟩
  rw [opChunkV_ok hf]
  have hbk := op_back hf
  have hsm := opData_sm hf
  simp only at hbk
  obtain ⟨N, hNN⟩ : ∃ X, opName k = X := ⟨_, rfl⟩
  obtain ⟨D, hDD⟩ : ∃ X, opData ⟨k, i, a, b, c, d, ⟨pw, ph, pl⟩⟩ = X := ⟨_, rfl⟩
  simp only [hNN, hDD] at hbk hsm ⊢
  have CP := hid (fun W hh => opparse_any N D W hsm hh)
  simp only [hbk] at CP
  clear hNN hDD hbk hsm hf
  go_upto_region 9 with fail
  obtain ⟨W5, hW5⟩ : ∃ W5, W5 = (w4.setCell ⟨g, 0, none⟩ (.string (strOf N))).setCell ⟨g, 1, none⟩ (.string (strOf D)) := ⟨_, rfl⟩
  rw [← hW5]
  have hB5 : Below w.heap.size w W5 := by rw [hW5]; exact (hB4.setCell (by show w.heap.size ≤ g; omega) _).setCell (by show w.heap.size ≤ g; omega) _
  have HC5 := hid (show ChunkAt g (strOf N) (strOf D) W5 by rw [hW5]; exact ChunkAt.set HC4.out _ _)
  have HP5 := hid (show OpBoxAt w.heap.size k i a b c d pw ph A n cp W5 by rw [hW5]; exact blk_other (blk_other HP4.out (Ne.symm hgne)) (Ne.symm hgne))
  clear c0 c1 c2 c3 c4 c5 c6 c7 c8 x0 x1 f0 f1 HP4 HC4 hW5 hB4
  obtain ⟨c0, c1, c2, c3, c4, c5, c6, c7, c8⟩ := OpBoxAt.cells HP5.out
  obtain ⟨x0, x1, f0, f1⟩ := ChunkAt.parts HC5.out
  go_wp2_with fail
  refine (CP.out _ (HN.out.below hB5)).mono ?_
  rintro e w6 ⟨A', cq, rfl, hl6, -, hb6⟩
  have HP6 := hid (blk_keep HP5.out hb6)
  have hB6 := bnext hB5 hb6
  have HL6 := hid hl6
  rw [errV_zero]
  clear c0 c1 c2 c3 c4 c5 c6 c7 c8 x0 x1 f0 f1 HP5 HC5 hb6 hB5 hl6
  go_upto_region 10 with fail
  obtain ⟨W7, hW7⟩ : ∃ W7, W7 = w6.alloc (.cells #[.int .i64 k, .int .i64 i, .int .i64 a, .int .i64 b, .int .i64 c, .int .i64 d, .int .i64 pw, .int .i64 ph, .slice A' pl.length cq] 26) := ⟨_, rfl⟩
  rw [← hW7]
  have hb7 : Below w6.heap.size w6 W7 := by rw [hW7]; exact (Below.refl _ _).alloc (Nat.le_refl _) _
  have Q7 : OpBoxAt w6.heap.size k i a b c d pw ph A' pl.length cq W7 := by rw [hW7]; exact heap_alloc_new w6 _
  have HP7 := hid (blk_keep HP6.out hb7)
  have hB7 := bnext hB6 hb7
  have HL7 := hid (HL6.out.below hb7)
  obtain ⟨x, hx⟩ : ∃ x, x = w6.heap.size := ⟨_, rfl⟩
  rw [← hx] at Q7 ⊢
  clear hW7 hb7 hx HP6 hB6 HL6
  have HQ7 := hid Q7
  clear Q7
  obtain ⟨c0, c1, c2, c3, c4, c5, c6, c7, c8⟩ := OpBoxAt.cells HP7.out
  obtain ⟨x0, x1, x2, x3, x4, x5, x6, x7, x8⟩ := OpBoxAt.cells HQ7.out
  have hnl : pl.length ≤ 1000 := by have := HL.out.1; omega
  go_wp2_with fail
  refine (rsameop_self k i a b c d pw ph pl A' A pl.length cq n cp _ HL7.out (HL.out.below hB7) hnl).mono ?_
  rintro e w8 ⟨rfl, hb8⟩
  have hB8 := bnext hB7 hb8
  go_wp2_with fail
  go_ret
  exact ⟨rfl, hB8⟩
theorem topOp_row (w : World) (x : FAt FOp) (hx : OpOk w x) (hN : NamesAt 0 w) :
    Calls Tryd.prog 5 #[.agg #[.int .i64 x.x.kind, .int .i64 x.x.id, .int .i64 x.x.a, .int .i64 x.x.b, .int .i64 x.x.c, .int .i64 x.x.d, .int .i64 x.x.pic.w, .int .i64 x.x.pic.h, .slice x.A x.n x.c]] w (Ret (.bool true) w) :=
  topOp_walk x.x.kind x.x.id x.x.a x.x.b x.x.c x.x.d x.x.pic.w x.x.pic.h x.x.pic.p x.A x.n x.c w hx.1 hN
end Fb
