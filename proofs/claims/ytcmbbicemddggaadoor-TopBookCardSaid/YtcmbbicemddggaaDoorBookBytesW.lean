/- book.Bytes: it returns what the plain law of books says. Conditions: few pixels an op; the variable holds the names. -/
import Derived.Test.YtcmbbicemddggaaDoorBookCheck
import Derived.Test.YtcmbbicemddggaaDoorBookRead
set_option linter.unusedSimpArgs false
set_option linter.unusedVariables false
namespace Fb
open Go Go.Proofs Go.RowKit Go.Sort
attribute [local go_sem ↓] Go.wp_at_zero Go.wp_at_succ
def opBytes (o : FOp) : List UInt8 := chunkS (opName o.kind) (opData o)
def bookB (l : List FOp) : List UInt8 := if bookFault l = 0 then l.flatMap opBytes else []
def bookBV (l : List FOp) : Value := .tuple #[.string (strOf (bookB l)), errV (bookFault l)]
def bookBN (l : List FOp) : Value := .tuple #[.string (strOf (bookB l)), .int .i64 (bookFault l)]
theorem bookBV_bad {l : List FOp} (h : bookFault l ≠ 0) : bookBV l = .tuple #[.string ⟨#[]⟩, .iface 63 (.int .i64 (bookFault l))] := by unfold bookBV bookB; rw [if_neg h, errV_pos h]; rfl
theorem bookBN_bad {l : List FOp} (h : bookFault l ≠ 0) : bookBN l = .tuple #[.string ⟨#[]⟩, .int .i64 (bookFault l)] := by unfold bookBN bookB; rw [if_neg h]; rfl
theorem opName_fine (k : Int) (h1 : 1 ≤ k) (h2 : k ≤ 16) : nameB (opName k) = true ∧ (opName k).length = 4 := by
  rcases (show k = 1 ∨ k = 2 ∨ k = 3 ∨ k = 4 ∨ k = 5 ∨ k = 6 ∨ k = 7 ∨ k = 8 ∨ k = 9 ∨ k = 10 ∨ k = 11 ∨ k = 12 ∨ k = 13 ∨ k = 14 ∨ k = 15 ∨ k = 16 by omega) with rfl | rfl | rfl | rfl | rfl | rfl | rfl | rfl | rfl | rfl | rfl | rfl | rfl | rfl | rfl | rfl <;> decide
theorem tailB_sm {o : FOp} (h : opFault o = 0) : (tailB o).length ≤ 300 := by
  unfold tailB
  split
  · rename_i hp
    have := (opFault_fine h).2.2.2.2 hp
    have fp := picFault_fine.1 this
    have h1 := picBytes_len fp
    obtain ⟨f1, f2, f3, f4, -, -⟩ := fp
    have hmb : 2 * o.pic.h * (1 + 2 * o.pic.w) ≤ 16 * 17 := Int.mul_le_mul (by omega) (by omega) (by omega) (by omega)
    omega
  · simp
theorem opData_few {o : FOp} (h : opFault o = 0) : (opData o).length ≤ 309 := by
  rw [data_len]
  have h1 := tailB_sm h
  have h2 := manyN_le o.kind
  have h3 : headN o.kind ≤ 1 := by unfold headN; split <;> omega
  omega
theorem op_chunkF {o : FOp} (h : opFault o = 0) : chunkF (opName o.kind) (opData o) = 0 := by
  obtain ⟨⟨h1, h2⟩, -⟩ := opFault_fine h
  have hl := opData_few h
  unfold chunkF
  rw [(opName_fine _ h1 h2).1, if_neg (by simp), if_neg (by omega)]
theorem op_chunkV {o : FOp} (h : opFault o = 0) : chunkV (opName o.kind) (opData o) = .tuple #[.string (strOf (opBytes o)), .nilIface] := by
  unfold chunkV opBytes
  rw [op_chunkF h, chunkB_ok (op_chunkF h), errV_zero]
theorem op_chunkN {o : FOp} (h : opFault o = 0) : chunkN (opName o.kind) (opData o) = .tuple #[.string (strOf (opBytes o)), .int .i64 0] := by
  unfold chunkN opBytes
  rw [op_chunkF h, chunkB_ok (op_chunkF h)]
  rfl
theorem opBytes_len {o : FOp} (h : opFault o = 0) : (opBytes o).length ≤ 400 ∧ opBytes o ≠ [] := by
  obtain ⟨⟨h1, h2⟩, -⟩ := opFault_fine h
  have hl := opData_few h
  have h4 := (opName_fine _ h1 h2).2
  unfold opBytes chunkS bodyL
  constructor
  · simp; omega
  · simp
/-- the bytes of the first k ops -/
def toldB (l : List FOp) (k : Nat) : List UInt8 := (l.take k).flatMap opBytes
theorem toldB_succ {l : List FOp} {k : Nat} (h : k < l.length) : toldB l (k + 1) = toldB l k ++ opBytes (opAt l k) := by
  unfold toldB
  rw [opAt_get h, List.take_add_one, List.getElem?_eq_getElem h, List.flatMap_append]
  simp
theorem toldB_len {l : List FOp} (hf : ∀ i, i < l.length → opFault (opAt l i) = 0) : ∀ k, k ≤ l.length → (toldB l k).length ≤ 400 * k
  | 0, _ => by simp [toldB]
  | k + 1, h => by
    rw [toldB_succ (by omega), List.length_append]
    have h1 := toldB_len hf k (by omega)
    have h2 := (opBytes_len (hf k (by omega))).1
    omega
theorem toldB_all (l : List FOp) : toldB l l.length = l.flatMap opBytes := by unfold toldB; rw [List.take_length]
theorem bookBV_ok {l : List FOp} (h : bookFault l = 0) : bookBV l = .tuple #[.string (strOf (toldB l l.length)), .nilIface] := by unfold bookBV bookB; rw [if_pos h, h, toldB_all, errV_zero]
theorem bookBN_ok {l : List FOp} (h : bookFault l = 0) : bookBN l = .tuple #[.string (strOf (toldB l l.length)), .int .i64 0] := by unfold bookBN bookB; rw [if_pos h, h, toldB_all]; rfl
set_option maxRecDepth 100000 in
set_option maxHeartbeats 4000000 in
theorem bookbytes_any (A : Option Addr) (n c : Nat) (rs : List (FAt FOp)) (w : World) (h : Ops w A n rs) (hs : ∀ r ∈ rs, r.n ≤ 100) (hn : n ≤ 1000000) (hN : NamesAt 0 w) :
    Calls Tryd.prog 7 #[.slice A n c] w (Ret (bookBV (datO rs)) w) := by
  have H := hid h
  have HS := hid hs
  have HN := hid hN
  have hlen := h.1
  clear h hs hN
  go_enter Tryd.func7, Tryd.ntmps7
  go_wp2_with fail
  refine (bookcheck_any A n c rs w H.out HS.out hn).mono ?_
  rintro e w1 ⟨rfl, hb1⟩
  by_cases hf : bookFault (datO rs) = 0
  case neg =>
    have hV := hid (bookBV_bad hf)
    rw [errV_pos hf]
    clear hf
    generalize bookFault (datO rs) = F at *
    go_wp2_with fail
    go_ret2
    exact ⟨ret_eq' hV.out, hb1⟩
  have hfine := book_fine hf
  have hV := hid (bookBV_ok hf)
  rw [hf, errV_zero]
  clear hf
  obtain ⟨h2, h60, -, -, hops, -, -, -, -, -⟩ := hfine
  have hdl := datO_len rs
  rw [hdl] at h2 h60 hops
  have HOps := hid hops
  have HTl := hid (toldB_len (l := datO rs) (fun i hi => hops i (by rw [← hdl]; exact hi)))
  clear hops
  obtain ⟨b, off, rfl, hb, hat⟩ := Ops.open_ H.out (by omega)
  have HA := hid hat
  clear hat
  go_upto_region 5 with fail
  have hbl := Bld.fresh w1
  obtain ⟨W2, hW2⟩ : ∃ W2, W2 = w1.alloc (.cells #[.pointer none, .slice none 0 0] 57) := ⟨_, rfl⟩
  rw [← hW2] at hbl ⊢
  have hb2 : Below w1.heap.size w1 W2 := by rw [hW2]; exact (Below.refl _ _).alloc (Nat.le_refl _) _
  have hz2 : w1.heap.size < W2.heap.size := by rw [hW2]; simp
  have HBL := hid hbl
  have HB2 := hid hb2
  clear hW2 hbl hb2
  go_wp2_with fail
  go_loopw [18] (fun iv wr => ∃ k : Nat, k ≤ n ∧ iv = .int .i64 k ∧ Hid (Bld w1.heap.size w1.heap.size (toldB (datO rs) k) wr) ∧ Hid (Below w1.heap.size w1 wr) ∧ w1.heap.size < wr.heap.size) (fun iv _ => n - (intOf iv).toNat)
  case atStart => exact ⟨0, by omega, rfl, HBL, HB2, hz2⟩
  case round =>
    clear HBL HB2 hz2
    obtain ⟨k, hk, rfl, HBd, HBr, hzr⟩ := hrel
    by_cases hlt : k < n
    · have hkr : k < rs.length := by omega
      have hbw := bnext hb1 HBr.out
      have hc := OpCells.below (HA.out k hkr) hbw hb
      have hpx := (H.out.2.2 _ (List.getElem_mem hkr)).below hbw
      have hps := HS.out _ (List.getElem_mem hkr)
      have hof := HOps.out k hkr
      have hsu := toldB_succ (l := datO rs) (k := k) (by omega)
      have hlk := HTl.out k (by omega)
      rw [datO_at hkr] at hof hsu
      obtain ⟨⟨⟨kk, i, a, bb, cc, dd, ⟨pw, ph, pl⟩⟩, qA, qn, qc⟩, hr⟩ : ∃ r, rs[k] = r := ⟨_, rfl⟩
      rw [hr] at hof hsu hc hpx hps
      obtain ⟨c0, c1, c2, c3, c4, c5, c6, c7, c8⟩ := hc
      simp only at c0 c1 c2 c3 c4 c5 c6 c7 c8 hpx hps hof hsu
      have hck := hid (opChunkV_ok hof)
      have hcb := hid (op_chunkV hof)
      have hbs := (opBytes_len hof).1
      have hd3 := opData_few hof
      have hn4 := (opName_fine _ (opFault_fine hof).1.1 (opFault_fine hof).1.2).2
      simp only at hn4
      have HSU := hid hsu
      have HPX := hid hpx
      have i1 : (0 : Int) ≤ (k : Int) := by omega
      have i2 : (k : Int) < (n : Int) := by omega
      clear hr hof hsu hpx
      go_upto_region 8 with fail
      obtain ⟨W3, hW3⟩ : ∃ W3, W3 = wr.alloc (.cells #[.int .i64 kk, .int .i64 i, .int .i64 a, .int .i64 bb, .int .i64 cc, .int .i64 dd, .int .i64 pw, .int .i64 ph, .slice qA qn qc] 48) := ⟨_, rfl⟩
      have hb3 : Below wr.heap.size wr W3 := by rw [hW3]; exact (Below.refl _ _).alloc (Nat.le_refl _) _
      have HO3 : Hid (OpBoxAt wr.heap.size kk i a bb cc dd pw ph qA qn qc W3) := hid (by rw [hW3]; exact heap_alloc_new wr _)
      obtain ⟨g, hg⟩ : ∃ g, g = wr.heap.size := ⟨_, rfl⟩
      rw [← hg] at HO3
      rw [← hW3, ← hg]
      have HBd3 := hid (HBd.out.below hb3)
      have HBr3 := hid (bnext HBr.out hb3)
      have HPX3 := hid (HPX.out.below hb3)
      have hz3 : w1.heap.size < W3.heap.size := Nat.lt_of_lt_of_le hzr hb3.size
      clear hW3 hg hb3 c0 c1 c2 c3 c4 c5 c6 c7 c8 HBd HBr HPX hzr hbw
      obtain ⟨c0, c1, c2, c3, c4, c5, c6, c7, c8⟩ := OpBoxAt.cells HO3.out
      have CC := hid (opchunk_any kk i a bb cc dd pw ph pl qA qn qc W3 HPX3.out hps (HN.out.below (bnext hb1 HBr3.out)))
      rw [hck.out] at CC
      go_wp2_with fail
      refine CC.out.mono ?_
      rintro e w4 ⟨rfl, hb4⟩
      have HBd4 := hid (HBd3.out.below hb4)
      have HBr4 := hid (bnext HBr3.out hb4)
      have hz4 : w1.heap.size < w4.heap.size := Nat.lt_of_lt_of_le hz3 hb4.size
      clear c0 c1 c2 c3 c4 c5 c6 c7 c8 HO3 HBd3 HBr3 HPX3 hb4 hz3 CC
      go_upto_region 9 with fail
      obtain ⟨W5, hW5⟩ : ∃ W5, W5 = w4.alloc (.cells #[.string (strOf (opName kk)), .string (strOf (opData ⟨kk, i, a, bb, cc, dd, ⟨pw, ph, pl⟩⟩))] 37) := ⟨_, rfl⟩
      have hb5 : Below w4.heap.size w4 W5 := by rw [hW5]; exact (Below.refl _ _).alloc (Nat.le_refl _) _
      have HC5 : Hid (W5.heap[w4.heap.size]? = some (.cells #[.string (strOf (opName kk)), .string (strOf (opData ⟨kk, i, a, bb, cc, dd, ⟨pw, ph, pl⟩⟩))] 37)) := hid (by rw [hW5]; exact heap_alloc_new w4 _)
      obtain ⟨gc, hgc⟩ : ∃ g, g = w4.heap.size := ⟨_, rfl⟩
      rw [← hgc] at HC5
      rw [← hW5, ← hgc]
      have HBd5 := hid (HBd4.out.below hb5)
      have HBr5 := hid (bnext HBr4.out hb5)
      have hz5 : w1.heap.size < W5.heap.size := Nat.lt_of_lt_of_le hz4 hb5.size
      clear hW5 hgc hb5 HBd4 HBr4 hz4
      have u0 := opblk_cell HC5.out 0 _ rfl
      have u1 := opblk_cell HC5.out 1 _ rfl
      have CB := hid (cbytes_any (opName kk) (opData ⟨kk, i, a, bb, cc, dd, ⟨pw, ph, pl⟩⟩) W5 (by unfold maxLen; omega) (by unfold maxLen; omega))
      rw [hcb.out] at CB
      go_wp2_with fail
      refine CB.out.mono ?_
      rintro e w6 ⟨rfl, hb6⟩
      have HBd6 := hid (HBd5.out.below hb6)
      have HBr6 := hid (bnext HBr5.out hb6)
      have hz6 : w1.heap.size < w6.heap.size := Nat.lt_of_lt_of_le hz5 hb6.size
      clear u0 u1 HC5 HBd5 HBr5 hb6 hz5 CB
      go_wp2_with fail
      refine (wstring_any w1.heap.size w1.heap.size (toldB (datO rs) k) (opBytes ⟨kk, i, a, bb, cc, dd, ⟨pw, ph, pl⟩⟩) w6 HBd6.out (by omega) (by omega)).mono ?_
      rintro e w7 ⟨rfl, hwr⟩
      have HBr7 := hid (HBr6.out.trans hwr.2.1)
      have HBd7 := hid hwr.bld
      rw [← HSU.out] at HBd7
      have hz7 : w1.heap.size < w7.heap.size := Nat.lt_of_lt_of_le hz6 hwr.2.1.size
      clear hwr HBd6 HBr6 hz6
      go_wp2_with fail
      go_roundw
      case rel => exact ⟨k + 1, by omega, by go_num, HBd7, HBr7, hz7⟩
      case measure => simp [intOf]; omega
    · obtain rfl : k = n := by omega
      have hne : toldB (datO rs) k ≠ [] := by
        obtain ⟨j, rfl⟩ : ∃ j, k = j + 1 := ⟨k - 1, by omega⟩
        rw [toldB_succ (by omega)]
        have hj : j < rs.length := by omega
        have := (opBytes_len (HOps.out j hj)).2
        intro hh
        exact this (List.append_eq_nil_iff.1 hh).2
      have hV2 := hid (show bookBV (datO rs) = .tuple #[.string (strOf (toldB (datO rs) k)), .nilIface] by rw [hV.out, hdl, hlen])
      go_wp2_with fail
      refine (bstring_any _ _ _ wr wr HBd.out (Below.refl _ _) hne).mono ?_
      rintro e w8 ⟨rfl, hb8, -, -⟩
      have HB8 := hid (bnext hb1 (HBr.out.trans hb8))
      go_wp2_with fail
      go_ret2
      exact ⟨ret_eq' hV2.out, HB8.out⟩
end Fb
