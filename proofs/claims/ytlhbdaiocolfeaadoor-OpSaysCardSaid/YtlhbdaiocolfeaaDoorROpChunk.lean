/- ref.OpChunk: it returns the name and the bytes that the plain law of ops' chunks says. Conditions: few pixels; the variable holds the names. -/
import Derived.Test.YtlhbdaiocolfeaaDoorOpFault
import Derived.Test.YtlhbdaiocolfeaaDoorOpParseW
import Derived.Test.YtlhbdaiocolfeaaDoorRPicParse
namespace Fb
open Go Go.Proofs Go.RowKit Go.Sort
attribute [local go_sem ↓] Go.wp_at_zero Go.wp_at_succ
def opChunkN (o : FOp) : Value := .tuple #[.string (strOf (if opFault o = 0 then opName o.kind else [])), .string (strOf (if opFault o = 0 then opData o else [])), .int .i64 (opFault o)]
theorem opChunkN_bad {o : FOp} (h : opFault o ≠ 0) : opChunkN o = .tuple #[.string ⟨#[]⟩, .string ⟨#[]⟩, .int .i64 (opFault o)] := by unfold opChunkN; rw [if_neg h, if_neg h]; rfl
theorem opChunkN_ok {o : FOp} (h : opFault o = 0) : opChunkN o = .tuple #[.string (strOf (opName o.kind)), .string (strOf (opData o)), .int .i64 0] := by unfold opChunkN; rw [if_pos h, if_pos h, h]; rfl
theorem blk_other {W : World} {g h o : Nat} {v : Value} {ob : Go.Obj} (hb : W.heap[h]? = some ob) (hne : h ≠ g) : (W.setCell ⟨g, o, none⟩ v).heap[h]? = some ob := (Below.heap_setCell W ⟨g, o, none⟩ v h hne).trans hb
theorem numB_two {x : Int} (h1 : -20 ≤ x) (h2 : x ≤ 255) : ∃ q0 q1 : UInt8, numB x = [q0, q1] ∧ (x + 128) % 256 = (q0.toNat : Int) ∧ (x + 128) / 256 = (q1.toNat : Int) :=
  ⟨_, _, rfl, by rw [UInt8.toNat_ofNat']; omega, by rw [UInt8.toNat_ofNat']; omega⟩
set_option maxRecDepth 100000 in
set_option maxHeartbeats 4000000 in
theorem ropchunk_any (k i a b c d pw ph : Int) (pl : List Px) (A : Option Addr) (n cp : Nat) (w : World) (hl : Pixs w A n pl) (hn : n ≤ 100) (hN : NamesAt 1 w) :
    Calls Tryd.prog 9 #[.agg #[.int .i64 k, .int .i64 i, .int .i64 a, .int .i64 b, .int .i64 c, .int .i64 d, .int .i64 pw, .int .i64 ph, .slice A n cp]] w (Ret (opChunkN ⟨k, i, a, b, c, d, ⟨pw, ph, pl⟩⟩) w) := by
  have HL := hid hl
  have HN := hid hN
  clear hl hN
  go_enter Tryd.func9, Tryd.ntmps9
  go_upto_region 1 with fail
  obtain ⟨W0, hW0⟩ : ∃ W0, W0 = w.alloc (.cells #[.int .i64 k, .int .i64 i, .int .i64 a, .int .i64 b, .int .i64 c, .int .i64 d, .int .i64 pw, .int .i64 ph, .slice A n cp] 26) := ⟨_, rfl⟩
  have hB0 : Below w.heap.size w W0 := by rw [hW0]; exact (Below.refl w.heap.size w).alloc (Nat.le_refl _) _
  have P0 : OpBoxAt w.heap.size k i a b c d pw ph A n cp W0 := by rw [hW0]; exact heap_alloc_new w _
  have z0 : w.heap.size + 1 ≤ W0.heap.size := by rw [hW0]; simp
  rw [← hW0]
  clear hW0
  have HP0 := hid P0
  clear P0
  obtain ⟨c0, c1, c2, c3, c4, c5, c6, c7, c8⟩ := OpBoxAt.cells HP0.out
  have OC := hid (ropfault_any ⟨⟨k, i, a, b, c, d, ⟨pw, ph, pl⟩⟩, A, n, cp⟩ W0 (HL.out.below hB0) hn)
  unfold opV at OC
  simp only at OC
  go_wp2_with fail
  refine OC.out.mono ?_
  rintro e w1 ⟨rfl, hb1⟩
  have HP1 := hid (blk_keep HP0.out hb1)
  have hB1 : Below w.heap.size w w1 := bnext hB0 hb1
  have z1 : w.heap.size + 1 ≤ w1.heap.size := Nat.le_trans z0 hb1.size
  clear c0 c1 c2 c3 c4 c5 c6 c7 c8 HP0 hb1 hB0 z0 OC
  obtain ⟨c0, c1, c2, c3, c4, c5, c6, c7, c8⟩ := OpBoxAt.cells HP1.out
  by_cases hf : opFault ⟨k, i, a, b, c, d, ⟨pw, ph, pl⟩⟩ = 0
  case neg =>
    have hV := hid (opChunkN_bad hf)
    have hpos : (0 : Int) < ((opFault ⟨k, i, a, b, c, d, ⟨pw, ph, pl⟩⟩ : Nat) : Int) := by omega
    generalize opFault ⟨k, i, a, b, c, d, ⟨pw, ph, pl⟩⟩ = F at *
    go_wp2_with fail
    go_ret3
    exact ⟨ret_eq' hV.out, hB1⟩
  have hfi := opFault_fine hf
  simp only at hfi
  obtain ⟨⟨k1, k2⟩, -, hidB, -, hpB⟩ := hfi
  have hV := hid (opChunkN_ok hf)
  have hnums := hid (op_nums hf)
  rw [hf]
  clear hf
  go_wp2_with fail
  refine (rparts_any k w1 k1 k2).mono ?_
  rintro e w2 ⟨rfl, rfl⟩
  unfold hasV
  obtain ⟨I, hI⟩ : ∃ X, hasId k = X := ⟨_, rfl⟩
  obtain ⟨M, hM⟩ : ∃ X, manyN k = X := ⟨_, rfl⟩
  obtain ⟨P, hP⟩ : ∃ X, hasPic k = X := ⟨_, rfl⟩
  have hM4 := manyN_le k
  rw [hI] at hidB
  rw [hP] at hpB
  rw [hM] at hM4
  have hhead : headB ⟨k, i, a, b, c, d, ⟨pw, ph, pl⟩⟩ = if I = true then [UInt8.ofNat (i % 256).toNat] else [] := by unfold headB; simp only [hI]
  have htail : tailB ⟨k, i, a, b, c, d, ⟨pw, ph, pl⟩⟩ = if P = true then picBytes ⟨pw, ph, pl⟩ else [] := by unfold tailB; simp only [hP]
  have hnumsB : numsB ⟨k, i, a, b, c, d, ⟨pw, ph, pl⟩⟩ = ([a, b, c, d].take M).flatMap numB := by unfold numsB opNums; simp only [hM]
  simp only [hI, hM, hP]
  simp only [hM] at hnums
  have HD := hid hhead
  have HT := hid htail
  have HNB := hid hnumsB
  clear hI hM hP hhead htail hnumsB
  obtain ⟨HB, hHB⟩ : ∃ X, (if I = true then [UInt8.ofNat (i % 256).toNat] else []) = X := ⟨_, rfl⟩
  rw [hHB] at HD
  have HHB := hid hHB
  clear hHB
  have HPB := hid hpB
  clear hpB
  go_upto_if 26 with fail
  go_cut [9] (fun v wi => v = .string (strOf HB) ∧ Below w1.heap.size w1 wi)
  case first =>
    cases I with
    | false =>
      have h := HHB.out
      rw [if_neg (by decide)] at h
      subst h
      go_wp2_with fail
      go_meet
      exact ⟨rfl, Below.refl _ _⟩
    | true =>
      have h := HHB.out
      rw [if_pos rfl] at h
      subst h
      have hq : i % 256 = ((UInt8.ofNat (i % 256).toNat).toNat : Int) := by rw [UInt8.toNat_ofNat']; omega
      generalize UInt8.ofNat (i % 256).toNat = q at *
      have hcv := conv_one q
      go_wp2_with fail
      go_meet
      exact ⟨rfl, (Below.refl _ _).alloc (Nat.le_refl _) _⟩
  case rest =>
    obtain ⟨rfl, hbel⟩ := hcut
    have HP2 := hid (blk_keep HP1.out hbel)
    have hB2 := bnext hB1 hbel
    have hHBl : HB.length ≤ 1 := by
      have := HHB.out
      rw [← this]; split <;> simp
    clear c0 c1 c2 c3 c4 c5 c6 c7 c8 HP1 hbel hB1
    obtain ⟨c0, c1, c2, c3, c4, c5, c6, c7, c8⟩ := OpBoxAt.cells HP2.out
    go_upto_region 9 with fail
    obtain ⟨W3, hW3⟩ : ∃ W3, W3 = wc.alloc (.cells #[.int .i64 a, .int .i64 b, .int .i64 c, .int .i64 d] 3) := ⟨_, rfl⟩
    have hb3 : Below wc.heap.size wc W3 := by rw [hW3]; exact (Below.refl _ _).alloc (Nat.le_refl _) _
    have G3 : W3.heap[wc.heap.size]? = some (.cells #[.int .i64 a, .int .i64 b, .int .i64 c, .int .i64 d] 3) := by rw [hW3]; exact heap_alloc_new wc _
    rw [← hW3]
    have HP3 := hid (blk_keep HP2.out hb3)
    have hB3 := bnext hB2 hb3
    obtain ⟨g4, hg4⟩ : ∃ g, g = wc.heap.size := ⟨_, rfl⟩
    rw [← hg4] at G3 ⊢
    have HG3 := hid G3
    clear hW3 G3 hg4 hb3 c0 c1 c2 c3 c4 c5 c6 c7 c8 HP2 hB2
    go_wp2_with fail
    go_loopw [9, 11] (fun sv iv wr => ∃ j : Nat, j ≤ M ∧ iv = .int .i64 j ∧ sv = .string (strOf (dataTo HB [a, b, c, d] j)) ∧ Below W3.heap.size W3 wr) (fun _ iv _ => M - (intOf iv).toNat)
    case atStart => exact ⟨0, by omega, rfl, by simp [dataTo], Below.refl _ _⟩
    case round =>
      obtain ⟨j, hj, rfl, rfl, hbr⟩ := hrel
      by_cases hlt : j < M
      · obtain ⟨x, hx, hx2, hx3, hx4⟩ := four_at hlt hM4 hnums.out
        have HG := hid (blk_keep HG3.out hbr)
        have hc := opblk_cell HG.out j _ hx2
        have q1 : (0 : Int) ≤ (j : Int) := by omega
        have q2 : (j : Int) < (M : Int) := by omega
        have q3 : (j : Int) < 4 := by omega
        have q4 : (0 : Int) ≤ x + 128 := by omega
        have HS := hid (dataTo_succ (HB := HB) hx)
        obtain ⟨u0, u1, hnb, hu0, hu1⟩ := numB_two hx3 hx4
        have hcv := conv_two u0 u1
        have hlen : (dataTo HB [a, b, c, d] j).length ≤ 9 := by
          unfold dataTo
          rw [List.length_append, flat_numB, List.length_take]
          have : min j [a, b, c, d].length ≤ 4 := Nat.min_le_right _ _
          omega
        rw [hnb] at HS
        obtain ⟨D, hD⟩ : ∃ D, dataTo HB [a, b, c, d] j = D := ⟨_, rfl⟩
        rw [hD] at HS hlen ⊢
        have happ := strOf_append
        have hsz : (strOf D).size + (strOf [u0, u1]).size ≤ 1000 := by rw [strOf_size, strOf_size]; simp; omega
        clear hD hx hx2 hnb
        go_upto_region 12 with fail
        go_region
        all_goals
          clear hcv
          go_wp2_with fail
          go_roundw
          case rel => exact ⟨j + 1, by omega, by go_num, by rw [HS.out], by have hB := hbr; (repeat (first | with_reducible exact hB | with_reducible refine Below.alloc ?_ (by have := hB.size; simp; try omega) _ | with_reducible refine Below.setCell ?_ (by have := hB.size; simp; try omega) _ | with_reducible refine below_drewN ?_ _ | with_reducible refine Below.drew ?_))⟩
          case measure => simp [intOf]; omega
      · obtain rfl : j = M := by omega
        have hdd : dataTo HB [a, b, c, d] j = headB ⟨k, i, a, b, c, d, ⟨pw, ph, pl⟩⟩ ++ numsB ⟨k, i, a, b, c, d, ⟨pw, ph, pl⟩⟩ := by unfold dataTo; rw [HD.out, HNB.out]
        rw [hdd]
        have hFL : (headB ⟨k, i, a, b, c, d, ⟨pw, ph, pl⟩⟩ ++ numsB ⟨k, i, a, b, c, d, ⟨pw, ph, pl⟩⟩).length ≤ 9 := by
          rw [front_len]
          have h9 := manyN_le k
          have h8 : headN k ≤ 1 := by unfold headN; split <;> omega
          show headN k + 2 * manyN k ≤ 9
          omega
        have hdat : opData ⟨k, i, a, b, c, d, ⟨pw, ph, pl⟩⟩ = (headB ⟨k, i, a, b, c, d, ⟨pw, ph, pl⟩⟩ ++ numsB ⟨k, i, a, b, c, d, ⟨pw, ph, pl⟩⟩) ++ tailB ⟨k, i, a, b, c, d, ⟨pw, ph, pl⟩⟩ := rfl
        obtain ⟨FR, hFR⟩ : ∃ X, headB ⟨k, i, a, b, c, d, ⟨pw, ph, pl⟩⟩ ++ numsB ⟨k, i, a, b, c, d, ⟨pw, ph, pl⟩⟩ = X := ⟨_, rfl⟩
        rw [hFR] at hFL hdat ⊢
        have HDat := hid hdat
        have HP9 := hid (blk_keep HP3.out hbr)
        have HB9 := bnext hB3 hbr
        have kk1 : (0 : Int) ≤ k := by omega
        have kk2 : k < 17 := by omega
        have hnm := hid (name_at k1 k2)
        clear hdd hFR hdat hbr
        cases P with
        | false =>
          have ht : tailB ⟨k, i, a, b, c, d, ⟨pw, ph, pl⟩⟩ = [] := by rw [HT.out]; rfl
          obtain ⟨c0, c1, c2, c3, c4, c5, c6, c7, c8⟩ := OpBoxAt.cells HP9.out
          obtain ⟨nb, noff, nc, n0, n1, n2, n3⟩ := HN.out.below HB9
          obtain ⟨kl, hk⟩ := hnm.out
          have n4 := n3 k.toNat kl
          rw [hk] at n4
          have hV2 : opChunkN ⟨k, i, a, b, c, d, ⟨pw, ph, pl⟩⟩ = .tuple #[.string (strOf (opName k)), .string (strOf FR), .int .i64 0] := by rw [hV.out, HDat.out, ht]; simp
          have HV2 := hid hV2
          clear hk n3 ht hV2
          go_wp2_with fail
          go_ret3
          exact ⟨ret_eq' HV2.out, HB9⟩
        | true =>
          have ht : tailB ⟨k, i, a, b, c, d, ⟨pw, ph, pl⟩⟩ = picBytes ⟨pw, ph, pl⟩ := by rw [HT.out]; rfl
          obtain ⟨c0, c1, c2, c3, c4, c5, c6, c7, c8⟩ := OpBoxAt.cells HP9.out
          go_wp2_with fail
          refine (rpbytes_any ⟨⟨pw, ph, pl⟩, A, n, cp⟩ _ (HL.out.below HB9) hn).mono ?_
          rintro e w10 ⟨rfl, hb10⟩
          rw [picBN_ok (HPB.out (by first | exact rfl | trivial))]
          have HP10 := hid (blk_keep HP9.out hb10)
          have HB10 := bnext HB9 hb10
          clear c0 c1 c2 c3 c4 c5 c6 c7 c8 hb10
          obtain ⟨c0, c1, c2, c3, c4, c5, c6, c7, c8⟩ := OpBoxAt.cells HP10.out
          obtain ⟨nb, noff, nc, n0, n1, n2, n3⟩ := HN.out.below HB10
          obtain ⟨kl, hk⟩ := hnm.out
          have n4 := n3 k.toNat kl
          rw [hk] at n4
          have happ := strOf_append
          have hpl := picBytes_lt (picFault_fine.1 (HPB.out (by first | exact rfl | trivial)))
          have hsz2 : (strOf FR).size + (strOf (picBytes ⟨pw, ph, pl⟩)).size ≤ 1000000 := by rw [strOf_size, strOf_size]; omega
          obtain ⟨PB, hPB⟩ : ∃ X, picBytes ⟨pw, ph, pl⟩ = X := ⟨_, rfl⟩
          rw [hPB] at ht hsz2 ⊢
          have hV2 : opChunkN ⟨k, i, a, b, c, d, ⟨pw, ph, pl⟩⟩ = .tuple #[.string (strOf (opName k)), .string (strOf (FR ++ PB)), .int .i64 0] := by rw [hV.out, HDat.out, ht]
          have HV2 := hid hV2
          clear hk n3 hpl ht hV2 hPB
          go_wp2_with fail
          go_ret3
          exact ⟨ret_eq' HV2.out, HB10⟩
end Fb
