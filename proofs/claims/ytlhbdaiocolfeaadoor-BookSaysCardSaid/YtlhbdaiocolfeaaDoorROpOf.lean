/- ref.OpChunk: it returns the name and the bytes that the plain law of ops' chunks says. Conditions: few pixels; the variable holds the names. ref.OpOf: it returns what the plain law of reading an op says. Conditions: the bytes are few; the variable holds the names. -/
import Derived.Test.YtlhbdaiocolfeaaDoorOpFault
import Derived.Test.YtlhbdaiocolfeaaDoorOpParseW
import Derived.Test.YtlhbdaiocolfeaaDoorRPicParse
import Derived.BigRegion
namespace Fb
open Go Go.Proofs Go.RowKit Go.Sort
attribute [local go_sem ↓] Go.wp_at_zero Go.wp_at_succ
def opChunkN (o : FOp) : Value := .tuple #[.string (strOf (if opFault o = 0 then opName o.kind else [])), .string (strOf (if opFault o = 0 then opData o else [])), .int .i64 (opFault o)]
theorem opChunkN_bad {o : FOp} (h : opFault o ≠ 0) : opChunkN o = .tuple #[.string ⟨#[]⟩, .string ⟨#[]⟩, .int .i64 (opFault o)] := by unfold opChunkN; rw [if_neg h, if_neg h]; rfl
theorem opChunkN_ok {o : FOp} (h : opFault o = 0) : opChunkN o = .tuple #[.string (strOf (opName o.kind)), .string (strOf (opData o)), .int .i64 0] := by unfold opChunkN; rw [if_pos h, if_pos h, h]; rfl
theorem blk_other {W : World} {g h o : Nat} {v : Value} {ob : Go.Obj} (hb : W.heap[h]? = some ob) (hne : h ≠ g) : (W.setCell ⟨g, o, none⟩ v).heap[h]? = some ob := (Below.heap_setCell W ⟨g, o, none⟩ v h hne).trans hb
theorem numB_two {x : Int} (h1 : -20 ≤ x) (h2 : x ≤ 255) : ∃ q0 q1 : UInt8, numB x = [q0, q1] ∧ (x + 128) % 256 = (q0.toNat : Int) ∧ (x + 128) / 256 = (q1.toNat : Int) :=
  ⟨_, _, rfl, by rw [UInt8.toNat_ofNat']; omega, by rw [UInt8.toNat_ofNat']; omega⟩
set_option maxRecDepth 100000 in
set_option maxHeartbeats 4000000 in
theorem ropchunk_any (k i a b c d pw ph : Int) (pl : List Px) (A : Option Addr) (n cp : Nat) (w : World) (hl : Pixs w A n pl) (hn : n ≤ 100) (hN : NamesAt 1 w) :
    Calls Tryd.prog 9 #[.agg #[.int .i64 k, .int .i64 i, .int .i64 a, .int .i64 b, .int .i64 c, .int .i64 d, .int .i64 pw, .int .i64 ph, .slice A n cp]] w (Ret (opChunkN ⟨k, i, a, b, c, d, ⟨pw, ph, pl⟩⟩) w) := by
  have HL := hid hl
  have HN := hid hN
  clear hl hN
  go_enter Tryd.func9, Tryd.ntmps9
  go_upto_region 1 with fail
  obtain ⟨W0, hW0⟩ : ∃ W0, W0 = w.alloc (.cells #[.int .i64 k, .int .i64 i, .int .i64 a, .int .i64 b, .int .i64 c, .int .i64 d, .int .i64 pw, .int .i64 ph, .slice A n cp] 26) := ⟨_, rfl⟩
  have hB0 : Below w.heap.size w W0 := by rw [hW0]; exact (Below.refl w.heap.size w).alloc (Nat.le_refl _) _
  have P0 : OpBoxAt w.heap.size k i a b c d pw ph A n cp W0 := by rw [hW0]; exact heap_alloc_new w _
  have z0 : w.heap.size + 1 ≤ W0.heap.size := by rw [hW0]; simp
  rw [← hW0]
  clear hW0
  have HP0 := hid P0
  clear P0
  obtain ⟨c0, c1, c2, c3, c4, c5, c6, c7, c8⟩ := OpBoxAt.cells HP0.out
  have OC := hid (ropfault_any ⟨⟨k, i, a, b, c, d, ⟨pw, ph, pl⟩⟩, A, n, cp⟩ W0 (HL.out.below hB0) hn)
  unfold opV at OC
  simp only at OC
  go_wp2_with fail
  refine OC.out.mono ?_
  rintro e w1 ⟨rfl, hb1⟩
  have HP1 := hid (blk_keep HP0.out hb1)
  have hB1 : Below w.heap.size w w1 := bnext hB0 hb1
  have z1 : w.heap.size + 1 ≤ w1.heap.size := Nat.le_trans z0 hb1.size
  clear c0 c1 c2 c3 c4 c5 c6 c7 c8 HP0 hb1 hB0 z0 OC
  obtain ⟨c0, c1, c2, c3, c4, c5, c6, c7, c8⟩ := OpBoxAt.cells HP1.out
  by_cases hf : opFault ⟨k, i, a, b, c, d, ⟨pw, ph, pl⟩⟩ = 0
  case neg =>
    have hV := hid (opChunkN_bad hf)
    have hpos : (0 : Int) < ((opFault ⟨k, i, a, b, c, d, ⟨pw, ph, pl⟩⟩ : Nat) : Int) := by omega
    generalize opFault ⟨k, i, a, b, c, d, ⟨pw, ph, pl⟩⟩ = F at *
    go_wp2_with fail
    go_ret3
    exact ⟨ret_eq' hV.out, hB1⟩
  have hfi := opFault_fine hf
  simp only at hfi
  obtain ⟨⟨k1, k2⟩, -, hidB, -, hpB⟩ := hfi
  have hV := hid (opChunkN_ok hf)
  have hnums := hid (op_nums hf)
  rw [hf]
  clear hf
  go_wp2_with fail
  refine (rparts_any k w1 k1 k2).mono ?_
  rintro e w2 ⟨rfl, rfl⟩
  unfold hasV
  obtain ⟨I, hI⟩ : ∃ X, hasId k = X := ⟨_, rfl⟩
  obtain ⟨M, hM⟩ : ∃ X, manyN k = X := ⟨_, rfl⟩
  obtain ⟨P, hP⟩ : ∃ X, hasPic k = X := ⟨_, rfl⟩
  have hM4 := manyN_le k
  rw [hI] at hidB
  rw [hP] at hpB
  rw [hM] at hM4
  have hhead : headB ⟨k, i, a, b, c, d, ⟨pw, ph, pl⟩⟩ = if I = true then [UInt8.ofNat (i % 256).toNat] else [] := by unfold headB; simp only [hI]
  have htail : tailB ⟨k, i, a, b, c, d, ⟨pw, ph, pl⟩⟩ = if P = true then picBytes ⟨pw, ph, pl⟩ else [] := by unfold tailB; simp only [hP]
  have hnumsB : numsB ⟨k, i, a, b, c, d, ⟨pw, ph, pl⟩⟩ = ([a, b, c, d].take M).flatMap numB := by unfold numsB opNums; simp only [hM]
  simp only [hI, hM, hP]
  simp only [hM] at hnums
  have HD := hid hhead
  have HT := hid htail
  have HNB := hid hnumsB
  clear hI hM hP hhead htail hnumsB
  obtain ⟨HB, hHB⟩ : ∃ X, (if I = true then [UInt8.ofNat (i % 256).toNat] else []) = X := ⟨_, rfl⟩
  rw [hHB] at HD
  have HHB := hid hHB
  clear hHB
  have HPB := hid hpB
  clear hpB
  go_upto_if 26 with fail
  go_cut [9] (fun v wi => v = .string (strOf HB) ∧ Below w1.heap.size w1 wi)
  case first =>
    cases I with
    | false =>
      have h := HHB.out
      rw [if_neg (by decide)] at h
      subst h
      go_wp2_with fail
      go_meet
      exact ⟨rfl, Below.refl _ _⟩
    | true =>
      have h := HHB.out
      rw [if_pos rfl] at h
      subst h
      have hq : i % 256 = ((UInt8.ofNat (i % 256).toNat).toNat : Int) := by rw [UInt8.toNat_ofNat']; omega
      generalize UInt8.ofNat (i % 256).toNat = q at *
      have hcv := conv_one q
      go_wp2_with fail
      go_meet
      exact ⟨rfl, (Below.refl _ _).alloc (Nat.le_refl _) _⟩
  case rest =>
    obtain ⟨rfl, hbel⟩ := hcut
    have HP2 := hid (blk_keep HP1.out hbel)
    have hB2 := bnext hB1 hbel
    have hHBl : HB.length ≤ 1 := by
      have := HHB.out
      rw [← this]; split <;> simp
    clear c0 c1 c2 c3 c4 c5 c6 c7 c8 HP1 hbel hB1
    obtain ⟨c0, c1, c2, c3, c4, c5, c6, c7, c8⟩ := OpBoxAt.cells HP2.out
    go_upto_region 9 with fail
    obtain ⟨W3, hW3⟩ : ∃ W3, W3 = wc.alloc (.cells #[.int .i64 a, .int .i64 b, .int .i64 c, .int .i64 d] 3) := ⟨_, rfl⟩
    have hb3 : Below wc.heap.size wc W3 := by rw [hW3]; exact (Below.refl _ _).alloc (Nat.le_refl _) _
    have G3 : W3.heap[wc.heap.size]? = some (.cells #[.int .i64 a, .int .i64 b, .int .i64 c, .int .i64 d] 3) := by rw [hW3]; exact heap_alloc_new wc _
    rw [← hW3]
    have HP3 := hid (blk_keep HP2.out hb3)
    have hB3 := bnext hB2 hb3
    obtain ⟨g4, hg4⟩ : ∃ g, g = wc.heap.size := ⟨_, rfl⟩
    rw [← hg4] at G3 ⊢
    have HG3 := hid G3
    clear hW3 G3 hg4 hb3 c0 c1 c2 c3 c4 c5 c6 c7 c8 HP2 hB2
    go_wp2_with fail
    go_loopw [9, 11] (fun sv iv wr => ∃ j : Nat, j ≤ M ∧ iv = .int .i64 j ∧ sv = .string (strOf (dataTo HB [a, b, c, d] j)) ∧ Below W3.heap.size W3 wr) (fun _ iv _ => M - (intOf iv).toNat)
    case atStart => exact ⟨0, by omega, rfl, by simp [dataTo], Below.refl _ _⟩
    case round =>
      obtain ⟨j, hj, rfl, rfl, hbr⟩ := hrel
      by_cases hlt : j < M
      · obtain ⟨x, hx, hx2, hx3, hx4⟩ := four_at hlt hM4 hnums.out
        have HG := hid (blk_keep HG3.out hbr)
        have hc := opblk_cell HG.out j _ hx2
        have q1 : (0 : Int) ≤ (j : Int) := by omega
        have q2 : (j : Int) < (M : Int) := by omega
        have q3 : (j : Int) < 4 := by omega
        have q4 : (0 : Int) ≤ x + 128 := by omega
        have HS := hid (dataTo_succ (HB := HB) hx)
        obtain ⟨u0, u1, hnb, hu0, hu1⟩ := numB_two hx3 hx4
        have hcv := conv_two u0 u1
        have hlen : (dataTo HB [a, b, c, d] j).length ≤ 9 := by
          unfold dataTo
          rw [List.length_append, flat_numB, List.length_take]
          have : min j [a, b, c, d].length ≤ 4 := Nat.min_le_right _ _
          omega
        rw [hnb] at HS
        obtain ⟨D, hD⟩ : ∃ D, dataTo HB [a, b, c, d] j = D := ⟨_, rfl⟩
        rw [hD] at HS hlen ⊢
        have happ := strOf_append
        have hsz : (strOf D).size + (strOf [u0, u1]).size ≤ 1000 := by rw [strOf_size, strOf_size]; simp; omega
        clear hD hx hx2 hnb
        go_upto_region 12 with fail
        go_region
        all_goals
          clear hcv
          go_wp2_with fail
          go_roundw
          case rel => exact ⟨j + 1, by omega, by go_num, by rw [HS.out], by have hB := hbr; (repeat (first | with_reducible exact hB | with_reducible refine Below.alloc ?_ (by have := hB.size; simp; try omega) _ | with_reducible refine Below.setCell ?_ (by have := hB.size; simp; try omega) _ | with_reducible refine below_drewN ?_ _ | with_reducible refine Below.drew ?_))⟩
          case measure => simp [intOf]; omega
      · obtain rfl : j = M := by omega
        have hdd : dataTo HB [a, b, c, d] j = headB ⟨k, i, a, b, c, d, ⟨pw, ph, pl⟩⟩ ++ numsB ⟨k, i, a, b, c, d, ⟨pw, ph, pl⟩⟩ := by unfold dataTo; rw [HD.out, HNB.out]
        rw [hdd]
        have hFL : (headB ⟨k, i, a, b, c, d, ⟨pw, ph, pl⟩⟩ ++ numsB ⟨k, i, a, b, c, d, ⟨pw, ph, pl⟩⟩).length ≤ 9 := by
          rw [front_len]
          have h9 := manyN_le k
          have h8 : headN k ≤ 1 := by unfold headN; split <;> omega
          show headN k + 2 * manyN k ≤ 9
          omega
        have hdat : opData ⟨k, i, a, b, c, d, ⟨pw, ph, pl⟩⟩ = (headB ⟨k, i, a, b, c, d, ⟨pw, ph, pl⟩⟩ ++ numsB ⟨k, i, a, b, c, d, ⟨pw, ph, pl⟩⟩) ++ tailB ⟨k, i, a, b, c, d, ⟨pw, ph, pl⟩⟩ := rfl
        obtain ⟨FR, hFR⟩ : ∃ X, headB ⟨k, i, a, b, c, d, ⟨pw, ph, pl⟩⟩ ++ numsB ⟨k, i, a, b, c, d, ⟨pw, ph, pl⟩⟩ = X := ⟨_, rfl⟩
        rw [hFR] at hFL hdat ⊢
        have HDat := hid hdat
        have HP9 := hid (blk_keep HP3.out hbr)
        have HB9 := bnext hB3 hbr
        have kk1 : (0 : Int) ≤ k := by omega
        have kk2 : k < 17 := by omega
        have hnm := hid (name_at k1 k2)
        clear hdd hFR hdat hbr
        cases P with
        | false =>
          have ht : tailB ⟨k, i, a, b, c, d, ⟨pw, ph, pl⟩⟩ = [] := by rw [HT.out]; rfl
          obtain ⟨c0, c1, c2, c3, c4, c5, c6, c7, c8⟩ := OpBoxAt.cells HP9.out
          obtain ⟨nb, noff, nc, n0, n1, n2, n3⟩ := HN.out.below HB9
          obtain ⟨kl, hk⟩ := hnm.out
          have n4 := n3 k.toNat kl
          rw [hk] at n4
          have hV2 : opChunkN ⟨k, i, a, b, c, d, ⟨pw, ph, pl⟩⟩ = .tuple #[.string (strOf (opName k)), .string (strOf FR), .int .i64 0] := by rw [hV.out, HDat.out, ht]; simp
          have HV2 := hid hV2
          clear hk n3 ht hV2
          go_wp2_with fail
          go_ret3
          exact ⟨ret_eq' HV2.out, HB9⟩
        | true =>
          have ht : tailB ⟨k, i, a, b, c, d, ⟨pw, ph, pl⟩⟩ = picBytes ⟨pw, ph, pl⟩ := by rw [HT.out]; rfl
          obtain ⟨c0, c1, c2, c3, c4, c5, c6, c7, c8⟩ := OpBoxAt.cells HP9.out
          go_wp2_with fail
          refine (rpbytes_any ⟨⟨pw, ph, pl⟩, A, n, cp⟩ _ (HL.out.below HB9) hn).mono ?_
          rintro e w10 ⟨rfl, hb10⟩
          rw [picBN_ok (HPB.out (by first | exact rfl | trivial))]
          have HP10 := hid (blk_keep HP9.out hb10)
          have HB10 := bnext HB9 hb10
          clear c0 c1 c2 c3 c4 c5 c6 c7 c8 hb10
          obtain ⟨c0, c1, c2, c3, c4, c5, c6, c7, c8⟩ := OpBoxAt.cells HP10.out
          obtain ⟨nb, noff, nc, n0, n1, n2, n3⟩ := HN.out.below HB10
          obtain ⟨kl, hk⟩ := hnm.out
          have n4 := n3 k.toNat kl
          rw [hk] at n4
          have happ := strOf_append
          have hpl := picBytes_lt (picFault_fine.1 (HPB.out (by first | exact rfl | trivial)))
          have hsz2 : (strOf FR).size + (strOf (picBytes ⟨pw, ph, pl⟩)).size ≤ 1000000 := by rw [strOf_size, strOf_size]; omega
          obtain ⟨PB, hPB⟩ : ∃ X, picBytes ⟨pw, ph, pl⟩ = X := ⟨_, rfl⟩
          rw [hPB] at ht hsz2 ⊢
          have hV2 : opChunkN ⟨k, i, a, b, c, d, ⟨pw, ph, pl⟩⟩ = .tuple #[.string (strOf (opName k)), .string (strOf (FR ++ PB)), .int .i64 0] := by rw [hV.out, HDat.out, ht]
          have HV2 := hid hV2
          clear hk n3 hpl ht hV2 hPB
          go_wp2_with fail
          go_ret3
          exact ⟨ret_eq' HV2.out, HB10⟩
end Fb
namespace Fb
open Go Go.Proofs Go.RowKit Go.Sort
attribute [local go_sem ↓] Go.wp_at_zero Go.wp_at_succ
/-- the call returns an op with its pixels in new memory, and the fault's number -/
def RetOpN (x : FOp × Nat) (w : World) (e : Ending) (w' : World) : Prop := ∃ (A : Option Addr) (c : Nat), e = .returned (.tuple #[.agg #[.int .i64 x.1.kind, .int .i64 x.1.id, .int .i64 x.1.a, .int .i64 x.1.b, .int .i64 x.1.c, .int .i64 x.1.d, .int .i64 x.1.pic.w, .int .i64 x.1.pic.h, .slice A x.1.pic.p.length c], .int .i64 (x.2 : Int)]) ∧ Pixs w' A x.1.pic.p.length x.1.pic.p ∧ (∀ a, A = some a → w.heap.size ≤ a.block) ∧ Below w.heap.size w w'
theorem retOpN_bad {x : FOp × Nat} {f : Nat} {w w' : World} (h : x = (noOp, f)) (hb : Below w.heap.size w w') : RetOpN x w (.returned (.tuple #[.agg #[.int .i64 0, .int .i64 0, .int .i64 0, .int .i64 0, .int .i64 0, .int .i64 0, .int .i64 0, .int .i64 0, .slice none 0 0], .int .i64 (f : Int)])) w' := by
  subst h
  exact ⟨none, 0, rfl, pixs_none _ _, (fun a ha => by simp at ha), hb⟩
theorem kindOf_is {N : List UInt8} (h : kindOf N ≠ 0) : opName (kindOf N : Int) = N := by
  unfold kindOf at h ⊢
  cases hh : opNames.findIdx? (fun y => decide (y = N)) with
  | none => rw [hh] at h; exact absurd rfl h
  | some i =>
    obtain ⟨h1, h2, -⟩ := List.findIdx?_eq_some_iff_getElem.1 hh
    unfold opName
    rw [Option.getD_some, Int.toNat_natCast, List.getD_eq_getElem?_getD, List.getElem?_eq_getElem h1]
    simpa using h2
/-- the number of the name, of the first i that were looked at -/
def kn (N : List UInt8) (i : Nat) : Nat := if kindOf N < i then kindOf N else 0
theorem kn_hit {N : List UInt8} {i : Nat} (h1 : 1 ≤ i) (h2 : i ≤ 16) (h : opName (i : Int) = N) : kn N (i + 1) = i := by
  have := kindOf_name i h1 h2
  rw [h] at this
  unfold kn
  rw [this, if_pos (by omega)]
theorem kn_miss {N : List UInt8} {i : Nat} (h1 : 1 ≤ i) (h : opName (i : Int) ≠ N) : kn N (i + 1) = kn N i := by
  have hne : kindOf N ≠ i := fun e => h (by rw [← e]; exact kindOf_is (by omega))
  unfold kn
  by_cases hlt : kindOf N < i
  · rw [if_pos hlt, if_pos (by omega)]
  · rw [if_neg hlt, if_neg (by omega)]
theorem kn_end (N : List UInt8) : kn N 17 = kindOf N := by
  have := kindOf_le N
  unfold kn
  rw [if_pos (by omega)]
/-- number j, of the first i that were read, from place h on -/
def nw (D : List UInt8) (h i j : Nat) : Int := if j < i then numAt D h j else 0
def I4 (g : Nat) (a b c d : Int) (W : World) : Prop := W.heap[g]? = some (.cells #[.int .i64 a, .int .i64 b, .int .i64 c, .int .i64 d] 3)
theorem I4.cells {g : Nat} {a b c d : Int} {W : World} (h : I4 g a b c d W) : W.cell? ⟨g, 0, none⟩ = some (.int .i64 a) ∧ W.cell? ⟨g, 1, none⟩ = some (.int .i64 b) ∧ W.cell? ⟨g, 2, none⟩ = some (.int .i64 c) ∧ W.cell? ⟨g, 3, none⟩ = some (.int .i64 d) :=
  ⟨opblk_cell h 0 _ rfl, opblk_cell h 1 _ rfl, opblk_cell h 2 _ rfl, opblk_cell h 3 _ rfl⟩
theorem I4.put {g : Nat} {D : List UInt8} {h i : Nat} {W : World} (hi : i < 4) (hh : I4 g (nw D h i 0) (nw D h i 1) (nw D h i 2) (nw D h i 3) W) : I4 g (nw D h (i + 1) 0) (nw D h (i + 1) 1) (nw D h (i + 1) 2) (nw D h (i + 1) 3) (W.setCell ⟨g, i, none⟩ (.int .i64 (numAt D h i))) := by
  unfold I4 at hh ⊢
  rw [setCell_eq_setRow W g i _ _ (0, 0) _ hh, setRow_heap _ _ _ _ _ _ hh]
  rcases (show i = 0 ∨ i = 1 ∨ i = 2 ∨ i = 3 by omega) with rfl | rfl | rfl | rfl <;> rfl
theorem I4.cell {g : Nat} {a b c d : Int} {i : Nat} {W : World} (h : I4 g a b c d W) (hi : i < 4) : ∃ x, W.cell? ⟨g, i, none⟩ = some (.int .i64 x) := by
  rcases (show i = 0 ∨ i = 1 ∨ i = 2 ∨ i = 3 by omega) with rfl | rfl | rfl | rfl
  · exact ⟨_, h.cells.1⟩
  · exact ⟨_, h.cells.2.1⟩
  · exact ⟨_, h.cells.2.2.1⟩
  · exact ⟨_, h.cells.2.2.2⟩
theorem byte_at {D : List UInt8} {k : Nat} (h : k < (strOf D).size) : ((strOf D)[k]'h).toNat = (D.getD k 0).toNat := by
  have := get_byte (strOf D) k h
  rw [strOf_data'] at this
  rw [← this]
set_option maxRecDepth 100000 in
set_option maxHeartbeats 4000000 in
theorem ropof_any (N D : List UInt8) (w : World) (hD : D.length ≤ 10000) (hN : NamesAt 1 w) :
    Calls Tryd.prog 11 #[.string (strOf N), .string (strOf D)] w (RetOpN (opOf N D) w) := by
  have HN := hid hN
  have HDl := hid hD
  clear hN hD
  go_enter Tryd.func11, Tryd.ntmps11
  go_upto_region 1 with fail
  obtain ⟨W0, hW0⟩ : ∃ W0, W0 = w.alloc (.cells #[.int .i64 0, .int .i64 0, .int .i64 0, .int .i64 0, .int .i64 0, .int .i64 0, .int .i64 0, .int .i64 0, .slice none 0 0] 26) := ⟨_, rfl⟩
  have hB0 : Below w.heap.size w W0 := by rw [hW0]; exact (Below.refl w.heap.size w).alloc (Nat.le_refl _) _
  have P0 : OpBoxAt w.heap.size 0 0 0 0 0 0 0 0 none 0 0 W0 := by rw [hW0]; exact heap_alloc_new w _
  have z0 : w.heap.size + 1 ≤ W0.heap.size := by rw [hW0]; simp
  rw [← hW0]
  clear hW0
  have HP0 := hid P0
  clear P0
  obtain ⟨nb, noff, nc, n0, n1, n2, n3⟩ := HN.out.below hB0
  have N3 := hid n3
  clear n3
  go_wp2_with fail
  go_loopw [6, 7] (fun kv iv wr => ∃ i : Nat, 1 ≤ i ∧ i ≤ 17 ∧ iv = .int .i64 i ∧ kv = .int .i64 (kn N i) ∧ W0 = wr) (fun _ iv _ => 17 - (intOf iv).toNat)
  case atStart => exact ⟨1, by omega, by omega, rfl, by have : kn N 1 = 0 := by unfold kn; split <;> omega
                                                        rw [this]; rfl, rfl⟩
  case round =>
    obtain ⟨i, hi1, hi, rfl, rfl, rfl⟩ := hrel
    by_cases hlt : i < 17
    · have n4 := N3.out i hlt
      obtain ⟨hnl, hnm⟩ := name_at (k := (i : Int)) (by omega) (by omega)
      have hnm' : nameS[i]'hlt = strOf (opName (i : Int)) := hnm
      rw [hnm'] at n4
      have i1 : (0 : Int) ≤ (i : Int) := by omega
      have i2 : (i : Int) < 17 := by omega
      clear hnl hnm hnm'
      by_cases he : opName (i : Int) = N
      · have HK := hid (kn_hit hi1 (by omega) he)
        rw [he] at n4
        clear he
        go_wp2_with fail
        go_roundw
        case rel => exact ⟨i + 1, by omega, by omega, by go_num, by rw [HK.out]; exact ⟨rfl, trivial⟩⟩
        case measure => simp [intOf]; omega
      · have HK := hid (kn_miss hi1 he)
        have hne := nameOf_ne (l := N) (x := opName (i : Int)) (fun e => he e.symm)
        generalize strOf (opName (i : Int)) = y at *
        clear he
        go_wp2_with fail
        go_roundw
        case rel => exact ⟨i + 1, by omega, by omega, by go_num, by rw [HK.out]; exact ⟨rfl, trivial⟩⟩
        case measure => simp [intOf]; omega
    · have e17 : i = 17 := by omega
      rw [show kn N i = kindOf N by rw [e17]; exact kn_end N]
      have i9 : ¬ (i : Int) < 17 := by omega
      clear e17
      have hk16 := kindOf_le N
      by_cases hk : kindOf N = 0
      · have hV := hid (opOf_none (D := D) hk)
        rw [hk]
        clear hk
        obtain ⟨x0, x1, x2, x3, x4, x5, x6, x7, x8⟩ := OpBoxAt.cells HP0.out
        have f0 := opblk_free HP0.out 0
        have f1 := opblk_free HP0.out 1
        have f2 := opblk_free HP0.out 2
        have f3 := opblk_free HP0.out 3
        have f4 := opblk_free HP0.out 4
        have f5 := opblk_free HP0.out 5
        have f6 := opblk_free HP0.out 6
        have f7 := opblk_free HP0.out 7
        have f8 := opblk_free HP0.out 8
        go_wp2_with fail
        refine bodyPost_ret (v := .tuple #[.agg #[.int .i64 0, .int .i64 0, .int .i64 0, .int .i64 0, .int .i64 0, .int .i64 0, .int .i64 0, .int .i64 0, .slice none 0 0], .int .i64 5]) (by simp [results, Tryd.results11, go_sem, x0, x1, x2, x3, x4, x5, x6, x7, x8]) rfl ?_
        exact retOpN_bad (f := 5) hV.out (by (repeat (first | with_reducible exact hB0 | with_reducible refine Below.setCell ?_ (by show w.heap.size ≤ w.heap.size; omega) _)))
      have HK := hid hk
      obtain ⟨K, hK⟩ : ∃ K, kindOf N = K := ⟨_, rfl⟩
      rw [hK] at hk16 hk ⊢
      have HKK := hid hK
      clear hK n0 n1 n2 N3
      have i2 : (1 : Int) ≤ (K : Int) := by omega
      have i3 : (K : Int) ≤ 16 := by omega
      have i4 : ((K : Int) == 0) = false := by simp; omega
      go_wp2_with fail
      refine (rparts_any (K : Int) _ i2 i3).mono ?_
      rintro e w2 ⟨rfl, rfl⟩
      unfold hasV
      have HP2 := hid HP0.out
      obtain ⟨I, hI⟩ : ∃ X, hasId (K : Int) = X := ⟨_, rfl⟩
      obtain ⟨M, hM⟩ : ∃ X, manyN (K : Int) = X := ⟨_, rfl⟩
      obtain ⟨P, hP⟩ : ∃ X, hasPic (K : Int) = X := ⟨_, rfl⟩
      have hM4 := manyN_le (K : Int)
      rw [hM] at hM4
      obtain ⟨h, hh⟩ : ∃ X, headN (K : Int) = X := ⟨_, rfl⟩
      have Hh := hid (show h = if I = true then 1 else 0 by rw [← hh]; unfold headN; rw [hI])
      have HLEN := hid (fun hc : D.length < h + 2 * M ∨ (P = false ∧ h + 2 * M < D.length) => opOf_len (N := N) (D := D) HK.out (by rw [HKK.out, hh, hM, hP]; exact hc))
      have HOF := hid (opOf_fits (N := N) (D := D) HK.out)
      rw [HKK.out, hh, hM, hP] at HOF
      simp only [hI, hM, hP]
      have HI := hid hI
      have HM := hid hM
      have HPp := hid hP
      have HH := hid hh
      clear hI hM hP hh i4 hi hi1 hlt i9
      go_upto_region 11 with fail
      obtain ⟨W3, hW3⟩ : ∃ W3, W3 = W0.alloc (.cells #[.int .i64 (K : Int), .int .i64 0, .int .i64 0, .int .i64 0, .int .i64 0, .int .i64 0, .int .i64 0, .int .i64 0, .slice none 0 0] 26) := ⟨_, rfl⟩
      obtain ⟨go, hgo⟩ : ∃ g, g = W0.heap.size := ⟨_, rfl⟩
      have HO3 : Hid (OpBoxAt go (K : Int) 0 0 0 0 0 0 0 none 0 0 W3) := hid (by rw [hW3, hgo]; exact heap_alloc_new W0 _)
      have hb3 : Below W0.heap.size W0 W3 := by rw [hW3]; exact (Below.refl _ _).alloc (Nat.le_refl _) _
      have HP3 := hid (blk_keep HP2.out hb3)
      have hB3 := bnext hB0 hb3
      have z3 : go < W3.heap.size := by rw [hW3, hgo]; simp
      have zg : w.heap.size + 1 ≤ go := by omega
      rw [← hW3, ← hgo]
      clear hW3 hgo hb3 hB0 z0 HP2 HP0
      have m1 : (0 : Int) ≤ (M : Int) := by omega
      have m2 : (M : Int) ≤ 4 := by omega
      go_upto_if 41 with fail
      go_cut [12] (fun t wi => t = .int .i64 (h : Int) ∧ wi = W3)
      case first =>
        cases I with
        | false =>
          have e := Hh.out
          simp at e
          subst e
          go_wp2_with fail
          go_meet
          exact ⟨rfl, rfl⟩
        | true =>
          have e := Hh.out
          simp at e
          subst e
          go_wp2_with fail
          go_meet
          exact ⟨rfl, rfl⟩
      case rest =>
        obtain ⟨rfl, rfl⟩ := hcut
        have hsz : (strOf D).size = D.length := strOf_size D
        have HSZ := hid hsz
        clear hsz
        obtain ⟨E, hE⟩ : ∃ E, h + 2 * M = E := ⟨_, rfl⟩
        rw [hE] at HLEN HOF
        have hh1 : h ≤ 1 := by have := Hh.out; split at this <;> omega
        have e13 : IntKind.i64.wrap (2 * (M : Int)) = 2 * (M : Int) := IntWalk.i64_in _ (by omega)
        have e14 : IntKind.i64.wrap ((h : Int) + 2 * (M : Int)) = (E : Int) := by rw [show (h : Int) + 2 * (M : Int) = (E : Int) by omega]; exact IntWalk.i64_in _ (by omega)
        have HE := hid hE
        clear hE
        by_cases hs : D.length < E
        · have hV := hid (HLEN.out (Or.inl hs))
          have s1 : ((strOf D).size : Int) < (E : Int) := by rw [HSZ.out]; omega
          clear hs
          obtain ⟨x0, x1, x2, x3, x4, x5, x6, x7, x8⟩ := OpBoxAt.cells HP3.out
          have f0 := opblk_free HP3.out 0
          have f1 := opblk_free HP3.out 1
          have f2 := opblk_free HP3.out 2
          have f3 := opblk_free HP3.out 3
          have f4 := opblk_free HP3.out 4
          have f5 := opblk_free HP3.out 5
          have f6 := opblk_free HP3.out 6
          have f7 := opblk_free HP3.out 7
          have f8 := opblk_free HP3.out 8
          go_wp2_with fail
          refine bodyPost_ret (v := .tuple #[.agg #[.int .i64 0, .int .i64 0, .int .i64 0, .int .i64 0, .int .i64 0, .int .i64 0, .int .i64 0, .int .i64 0, .slice none 0 0], .int .i64 4]) (by simp [results, Tryd.results11, go_sem, x0, x1, x2, x3, x4, x5, x6, x7, x8]) rfl ?_
          exact retOpN_bad (f := 4) hV.out (by (repeat (first | with_reducible exact hB3 | with_reducible refine Below.setCell ?_ (by show w.heap.size ≤ w.heap.size; omega) _)))
        have s1 : ¬ ((strOf D).size : Int) < (E : Int) := by rw [HSZ.out]; omega
        by_cases hl : P = false ∧ E < D.length
        · have hV := hid (HLEN.out (Or.inr hl))
          obtain ⟨rfl, hl⟩ := hl
          have s2 : (E : Int) < ((strOf D).size : Int) := by rw [HSZ.out]; omega
          clear hl hs
          obtain ⟨x0, x1, x2, x3, x4, x5, x6, x7, x8⟩ := OpBoxAt.cells HP3.out
          have f0 := opblk_free HP3.out 0
          have f1 := opblk_free HP3.out 1
          have f2 := opblk_free HP3.out 2
          have f3 := opblk_free HP3.out 3
          have f4 := opblk_free HP3.out 4
          have f5 := opblk_free HP3.out 5
          have f6 := opblk_free HP3.out 6
          have f7 := opblk_free HP3.out 7
          have f8 := opblk_free HP3.out 8
          go_wp2_with fail
          refine bodyPost_ret (v := .tuple #[.agg #[.int .i64 0, .int .i64 0, .int .i64 0, .int .i64 0, .int .i64 0, .int .i64 0, .int .i64 0, .int .i64 0, .slice none 0 0], .int .i64 4]) (by simp [results, Tryd.results11, go_sem, x0, x1, x2, x3, x4, x5, x6, x7, x8]) rfl ?_
          exact retOpN_bad (f := 4) hV.out (by (repeat (first | with_reducible exact hB3 | with_reducible refine Below.setCell ?_ (by show w.heap.size ≤ w.heap.size; omega) _)))
        go_upto_region 15 with fail
        clear e13 e14
        go_cut [59] (fun t wi => t = .bool false ∧ wi = wc)
        case first =>
          cases P with
          | true =>
            go_wp2_with fail
            go_meet
            exact ⟨rfl, rfl⟩
          | false =>
            have s2 : ¬ (E : Int) < ((strOf D).size : Int) := by rw [HSZ.out]; intro h9; exact hl ⟨rfl, by omega⟩
            go_wp2_with fail
            go_meet
            exact ⟨rfl, rfl⟩
        case rest =>
          obtain ⟨rfl, rfl⟩ := hcut
          have Hs := hid hs
          have HL2 := hid hl
          have HOF2 := hid (HOF (fun hc => hc.elim hs hl))
          clear HOF HLEN hs hl s1
          go_upto_if 61 with fail
          have HO4 := hid HO3.out
          have hgz : go < wc.heap.size := z3
          go_cut [14] (fun _ wi => Hid (OpBoxAt go (K : Int) (if I = true then ((D.getD 0 0).toNat : Int) else 0) 0 0 0 0 0 0 none 0 0 wi) ∧ Hid (OpBoxAt w.heap.size 0 0 0 0 0 0 0 0 none 0 0 wi) ∧ Hid (Below w.heap.size w wi) ∧ go < wi.heap.size)
          case first =>
            cases I with
            | false =>
              go_wp2_with fail
              go_meet
              exact ⟨HO4, HP3, hid hB3, hgz⟩
            | true =>
              have e := Hh.out
              simp at e
              have hDl : 1 ≤ D.length := by have e1 := Hs.out; have e2 := HE.out; omega
              have i0 : (0 : Int) < ((strOf D).size : Int) := by rw [HSZ.out]; omega
              have i5 : 0 < (strOf D).size := by rw [HSZ.out]; omega
              have hg0 := byte_at (D := D) i5
              clear e
              generalize D.getD 0 0 = d0 at *
              obtain ⟨o0, o1, o2, o3, o4, o5, o6, o7, o8⟩ := OpBoxAt.cells HO4.out
              have g1 := opblk_free HO4.out 1
              go_wp2_with fail
              go_meet
              have hw : wrap64 (d0.toNat : Int) = (d0.toNat : Int) := IntWalk.wrap64_in _ (by have := UInt8.toNat_lt d0; omega)
              try rw [hw]
              refine ⟨hid ?_, hid (blk_other HP3.out (by omega)), hid (hB3.setCell (by show w.heap.size ≤ go; omega) _), by simpa using hgz⟩
              have := OpBoxAt.set1 HO4.out (d0.toNat : Int)
              simpa using this
          case rest =>
            obtain ⟨HO5, HP5, HB5, hgz5⟩ := hcut
            obtain ⟨IDV, hIDV⟩ : ∃ X, (if I = true then ((D.getD 0 0).toNat : Int) else 0) = X := ⟨_, rfl⟩
            rw [hIDV] at HO5
            have HIDV := hid hIDV
            clear hIDV HO4 HP3 HO3 hgz hB3 z3
            go_upto_region 20 with fail
            obtain ⟨W6, hW6⟩ : ∃ W6, W6 = wc.alloc (.cells #[.int .i64 0, .int .i64 0, .int .i64 0, .int .i64 0] 3) := ⟨_, rfl⟩
            obtain ⟨gn, hgn⟩ : ∃ g, g = wc.heap.size := ⟨_, rfl⟩
            have HI6 : Hid (I4 gn (nw D h 0 0) (nw D h 0 1) (nw D h 0 2) (nw D h 0 3) W6) := hid (by rw [hW6, hgn]; exact heap_alloc_new wc _)
            have hb6 : Below wc.heap.size wc W6 := by rw [hW6]; exact (Below.refl _ _).alloc (Nat.le_refl _) _
            have HO6 := hid (blk_keep HO5.out hb6)
            have HP6 := hid (blk_keep HP5.out hb6)
            have HB6 := hid (bnext HB5.out hb6)
            have hgg : go < gn := by omega
            rw [← hW6, ← hgn]
            clear hW6 hgn hb6 HO5 HP5 HB5
            go_wp2_with fail
            go_loopw [15] (fun iv wr => ∃ j : Nat, j ≤ M ∧ iv = .int .i64 j ∧ Hid (I4 gn (nw D h j 0) (nw D h j 1) (nw D h j 2) (nw D h j 3) wr) ∧ Hid (OpBoxAt go (K : Int) IDV 0 0 0 0 0 0 none 0 0 wr) ∧ Hid (OpBoxAt w.heap.size 0 0 0 0 0 0 0 0 none 0 0 wr) ∧ Hid (Below w.heap.size w wr)) (fun iv _ => M - (intOf iv).toNat)
            case atStart => exact ⟨0, by omega, rfl, HI6, HO6, HP6, HB6⟩
            case round =>
              obtain ⟨j, hj, rfl, HIr, HOr, HPr, HBr⟩ := hrel
              by_cases hlt : j < M
              · obtain ⟨X, hX⟩ : ∃ X, h + 2 * j = X := ⟨_, rfl⟩
                have e1 : IntKind.i64.wrap (2 * (j : Int)) = 2 * (j : Int) := IntWalk.i64_in _ (by omega)
                have e2 : IntKind.i64.wrap ((h : Int) + 2 * (j : Int)) = (X : Int) := by rw [show (h : Int) + 2 * (j : Int) = (X : Int) by omega]; exact IntWalk.i64_in _ (by omega)
                have e3 : IntKind.i64.wrap ((X : Int) + 1) = ((X + 1 : Nat) : Int) := by rw [show (X : Int) + 1 = ((X + 1 : Nat) : Int) by omega]; exact IntWalk.i64_in _ (by omega)
                have hsz := HSZ.out
                have hE := HE.out
                have hs' := Hs.out
                have k0 : X < (strOf D).size := by omega
                have k1 : X + 1 < (strOf D).size := by omega
                have b0 := byte_at (D := D) k0
                have b1 := byte_at (D := D) k1
                have hnum : numAt D h j = ((D.getD X 0).toNat : Int) + 256 * ((D.getD (X + 1) 0).toNat : Int) - 128 := by unfold numAt; rw [hX]
                have l0 := UInt8.toNat_lt (D.getD X 0)
                have l1 := UInt8.toNat_lt (D.getD (X + 1) 0)
                generalize D.getD X 0 = d0 at *
                generalize D.getD (X + 1) 0 = d1 at *
                have HNUM := hid hnum
                have HX := hid hX
                have q0 : (0 : Int) ≤ (X : Int) := by omega
                have q1 : (X : Int) < ((strOf D).size : Int) := by omega
                have q2 : (0 : Int) ≤ ((X + 1 : Nat) : Int) := by omega
                have q3 : ((X + 1 : Nat) : Int) < ((strOf D).size : Int) := by omega
                have q4 : (0 : Int) ≤ (j : Int) := by omega
                have q5 : (j : Int) < 4 := by omega
                have q6 : (j : Int) < (M : Int) := by omega
                have e4 : IntKind.i64.wrap (256 * (d1.toNat : Int)) = 256 * (d1.toNat : Int) := IntWalk.i64_in _ (by omega)
                have e5 : IntKind.i64.wrap ((d0.toNat : Int) + 256 * (d1.toNat : Int)) = (d0.toNat : Int) + 256 * (d1.toNat : Int) := IntWalk.i64_in _ (by omega)
                have e6 : IntKind.i64.wrap ((d0.toNat : Int) + 256 * (d1.toNat : Int) - 128) = (d0.toNat : Int) + 256 * (d1.toNat : Int) - 128 := IntWalk.i64_in _ (by omega)
                obtain ⟨x, hc⟩ := I4.cell HIr.out (show j < 4 by omega)
                have fz := opblk_free HIr.out j
                clear hnum hX hsz hE hs' hlt
                go_upto_region 23 with fail
                go_region
                go_wp2_with fail
                go_roundw
                case rel =>
                  refine ⟨j + 1, by omega, by go_num, hid ?_, hid (blk_other HOr.out (by omega)), hid (blk_other HPr.out (by omega)), hid ((HBr.out.setCell (by show w.heap.size ≤ gn; omega) _).drew)⟩
                  rw [← HNUM.out]
                  exact I4.put (by omega) HIr.out
                case measure => simp [intOf]; omega
              · obtain rfl : j = M := by omega
                have hrd : opRead (K : Int) D = ⟨K, IDV, nw D h j 0, nw D h j 1, nw D h j 2, nw D h j 3, ⟨0, 0, []⟩⟩ := by
                  unfold opRead nw
                  rw [HI.out, HM.out, HH.out, HIDV.out]
                have HOF3 := HOF2.out
                rw [hrd] at HOF3
                obtain ⟨p0, hp0⟩ : ∃ q, nw D h j 0 = q := ⟨_, rfl⟩
                obtain ⟨p1, hp1⟩ : ∃ q, nw D h j 1 = q := ⟨_, rfl⟩
                obtain ⟨p2, hp2⟩ : ∃ q, nw D h j 2 = q := ⟨_, rfl⟩
                obtain ⟨p3, hp3⟩ : ∃ q, nw D h j 3 = q := ⟨_, rfl⟩
                rw [hp0, hp1, hp2, hp3] at HOF3 HIr
                have HF := hid HOF3
                clear hrd HOF3 HOF2 hp0 hp1 hp2 hp3 hlt
                obtain ⟨y0, y1, y2, y3⟩ := I4.cells HIr.out
                have g2 := opblk_free HOr.out 2
                have g3 := opblk_free HOr.out 3
                have g4 := opblk_free HOr.out 4
                have g5 := opblk_free HOr.out 5
                have o2 := (OpBoxAt.cells HOr.out).2.2.1
                have o3 := (OpBoxAt.cells HOr.out).2.2.2.1
                have o4 := (OpBoxAt.cells HOr.out).2.2.2.2.1
                have o5 := (OpBoxAt.cells HOr.out).2.2.2.2.2.1
                have hne1 : ¬ gn = go := by omega
                go_upto_if 109 with fail
                obtain ⟨W7, hW7⟩ : ∃ W7, W7 = (((wr.setCell ⟨go, 2, none⟩ (.int .i64 p0)).setCell ⟨go, 3, none⟩ (.int .i64 p1)).setCell ⟨go, 4, none⟩ (.int .i64 p2)).setCell ⟨go, 5, none⟩ (.int .i64 p3) := ⟨_, rfl⟩
                have HO7 : Hid (OpBoxAt go (K : Int) IDV p0 p1 p2 p3 0 0 none 0 0 W7) := hid (by rw [hW7]; exact OpBoxAt.set5 (OpBoxAt.set4 (OpBoxAt.set3 (OpBoxAt.set2 HOr.out p0) p1) p2) p3)
                have HP7 : Hid (OpBoxAt w.heap.size 0 0 0 0 0 0 0 0 none 0 0 W7) := hid (by rw [hW7]; exact blk_other (blk_other (blk_other (blk_other HPr.out (by omega)) (by omega)) (by omega)) (by omega))
                have HB7 : Hid (Below w.heap.size w W7) := hid (by rw [hW7]; exact (((HBr.out.setCell (by show w.heap.size ≤ go; omega) _).setCell (by show w.heap.size ≤ go; omega) _).setCell (by show w.heap.size ≤ go; omega) _).setCell (by show w.heap.size ≤ go; omega) _)
                rw [← hW7]
                clear hW7 y0 y1 y2 y3 g2 g3 g4 g5 o2 o3 o4 o5 HIr HOr HPr HBr
                go_cut [16, 17] (fun _ _ wi => ∃ (pic : FPic) (A : Option Addr) (c : Nat), Hid (OpBoxAt go (K : Int) IDV p0 p1 p2 p3 pic.w pic.h A pic.p.length c wi) ∧ Hid (Pixs wi A pic.p.length pic.p) ∧ Hid (OpBoxAt w.heap.size 0 0 0 0 0 0 0 0 none 0 0 wi) ∧ Hid (Below w.heap.size w wi) ∧ Hid (∀ a, A = some a → w.heap.size + 1 ≤ a.block) ∧ Hid (opOf N D = opEnd ⟨K, IDV, p0, p1, p2, p3, pic⟩) ∧ Hid (pic.p.length ≤ 100))
                case first =>
                  cases P with
                  | false =>
                    have hF := HF.out
                    simp at hF
                    have HF2 := hid hF
                    clear hF
                    go_wp2_with fail
                    go_meet
                    exact ⟨⟨0, 0, []⟩, none, 0, HO7, hid (pixs_none _ _), HP7, HB7, hid (fun a ha => by simp at ha), HF2, hid (by simp)⟩
                  | true =>
                    have hF := HF.out
                    rw [if_pos (by first | exact rfl | trivial)] at hF
                    have HF2 := hid hF
                    clear hF
                    have j0 : (0 : Int) ≤ (E : Int) := by omega
                    have j1 : (E : Int) ≤ ((strOf D).size : Int) := by have := HSZ.out; have := Hs.out; omega
                    have hex : (strOf D).extract E (strOf D).size = strOf (D.drop E) := by
                      rw [extract_strOf, HSZ.out, List.take_of_length_le (Nat.le_refl _)]
                    have HXl := hid (show (strOf (D.drop E)).size ≤ 10000 by have e1 := HDl.out; rw [strOf_size, List.length_drop]; omega)
                    go_wp2_with fail
                    refine (rparse_any (strOf (D.drop E)) W7 HXl.out).mono ?_
                    rintro e w9 ⟨A, c, rfl, hpx, hal, hb9⟩
                    rw [strOf_data'] at hpx ⊢
                    have hpsm := picOf_sm (s := D.drop E)
                    obtain ⟨⟨⟨pw, ph, pl⟩, F⟩, hX⟩ : ∃ X, picOf (D.drop E) = X := ⟨_, rfl⟩
                    rw [hX] at hpx hpsm ⊢
                    have HF3 := HF2.out
                    rw [hX] at HF3
                    simp only at hpx hpsm HF3 ⊢
                    have HF4 := hid HF3
                    have HPX := hid hpx
                    have HSM := hid hpsm
                    have HAL := hid hal
                    have HO9 := hid (blk_keep HO7.out hb9)
                    have HP9 := hid (blk_keep HP7.out hb9)
                    have HB9 := hid (bnext HB7.out hb9)
                    have hgz9 : go < w9.heap.size := (Array.getElem?_eq_some_iff.1 HO9.out).1
                    have hgw : go < W7.heap.size := (Array.getElem?_eq_some_iff.1 HO7.out).1
                    clear hX hpx hpsm hal HF3 HF2 HF HO7 HP7 HB7 hb9 j0 j1 hex
                    by_cases hf : F = 0
                    · subst hf
                      have hof := HF4.out
                      rw [if_pos rfl] at hof
                      have HOF9 := hid hof
                      clear hof HF4
                      obtain ⟨o0, o1, o2, o3, o4, o5, o6, o7, o8⟩ := OpBoxAt.cells HO9.out
                      have f6 := opblk_free HO9.out 6
                      have f7 := opblk_free HO9.out 7
                      have f8 := opblk_free HO9.out 8
                      have hne9 : ¬ w9.heap.size = go := by omega
                      go_wp2_with fail
                      go_meet
                      have hne : ∀ a, A = some a → a.block ≠ go := fun a ha => by have := HAL.out a ha; omega
                      have hb := HB9.out.size
                      have b3 : Below w.heap.size w (((w9.setCell ⟨go, 6, none⟩ (.int .i64 pw)).setCell ⟨go, 7, none⟩ (.int .i64 ph)).setCell ⟨go, 8, none⟩ (.slice A pl.length c)) := ((HB9.out.setCell (by show w.heap.size ≤ go; omega) _).setCell (by show w.heap.size ≤ go; omega) _).setCell (by show w.heap.size ≤ go; omega) _
                      refine ⟨⟨pw, ph, pl⟩, A, c, hid ((heap_alloc_old _ _ (by simpa using hgz9)).trans (OpBoxAt.setPic HO9.out pw ph A pl.length c)), hid ((pixs_set (pixs_set (pixs_set HPX.out hne) hne) hne).below ((Below.refl _ _).alloc (Nat.le_refl _) _)), hid ((heap_alloc_old _ _ (by simp; omega)).trans (blk_other (blk_other (blk_other HP9.out (by omega)) (by omega)) (by omega))), hid (b3.alloc (by simp; omega) _), hid (fun a ha => by have := HAL.out a ha; omega), HOF9, HSM⟩
                    · have hof := HF4.out
                      rw [if_neg hf] at hof
                      have HOF9 := hid hof
                      have Hf := hid hf
                      have hpos : (0 : Int) < (F : Int) := by omega
                      clear hof HF4 hf
                      have hz8 : w.heap.size < w9.heap.size := by omega
                      obtain ⟨x0, x1, x2, x3, x4, x5, x6, x7, x8⟩ := OpBoxAt.cells HP9.out
                      have f0 := opblk_free HP9.out 0
                      have f1 := opblk_free HP9.out 1
                      have f2 := opblk_free HP9.out 2
                      have f3 := opblk_free HP9.out 3
                      have f4 := opblk_free HP9.out 4
                      have f5 := opblk_free HP9.out 5
                      have f6 := opblk_free HP9.out 6
                      have f7 := opblk_free HP9.out 7
                      have f8 := opblk_free HP9.out 8
                      go_wp2_with fail
                      refine bodyPost_ret (v := .tuple #[.agg #[.int .i64 0, .int .i64 0, .int .i64 0, .int .i64 0, .int .i64 0, .int .i64 0, .int .i64 0, .int .i64 0, .slice none 0 0], .int .i64 F]) (by simp [results, Tryd.results11, go_sem, hz8, x0, x1, x2, x3, x4, x5, x6, x7, x8]) rfl ?_
                      exact retOpN_bad HOF9.out (by (repeat (first | with_reducible exact HB9.out | with_reducible refine Below.alloc ?_ (by have := HB9.out.size; first | omega | (simp; omega)) _ | with_reducible refine Below.setCell ?_ (by show w.heap.size ≤ w.heap.size; omega) _)))
                case rest =>
                  obtain ⟨⟨pw, ph, pl⟩, A, c, HOb, HPx, HPa, HBe, HAl, HOf, Hsm⟩ := hcut
                  simp only at HOb HPx HAl HOf Hsm
                  obtain ⟨o0, o1, o2, o3, o4, o5, o6, o7, o8⟩ := OpBoxAt.cells HOb.out
                  have OC := hid (ropfault_any ⟨⟨(K : Int), IDV, p0, p1, p2, p3, ⟨pw, ph, pl⟩⟩, A, pl.length, c⟩ _ HPx.out Hsm.out)
                  unfold opV at OC
                  simp only at OC
                  go_wp2_with fail
                  refine OC.out.mono ?_
                  rintro e w9 ⟨rfl, hb9⟩
                  have HOb9 := hid (blk_keep HOb.out hb9)
                  have HPx9 := hid (HPx.out.below hb9)
                  have HPa9 := hid (blk_keep HPa.out hb9)
                  have HBe9 := hid (bnext HBe.out hb9)
                  have HAl' := hid (fun (a : Addr) (ha : A = some a) => (show a.block ≠ w.heap.size by have := HAl.out a ha; omega))
                  clear o0 o1 o2 o3 o4 o5 o6 o7 o8 HOb HPx HPa HBe hb9 OC
                  obtain ⟨x0, x1, x2, x3, x4, x5, x6, x7, x8⟩ := OpBoxAt.cells HPa9.out
                  have f0 := opblk_free HPa9.out 0
                  have f1 := opblk_free HPa9.out 1
                  have f2 := opblk_free HPa9.out 2
                  have f3 := opblk_free HPa9.out 3
                  have f4 := opblk_free HPa9.out 4
                  have f5 := opblk_free HPa9.out 5
                  have f6 := opblk_free HPa9.out 6
                  have f7 := opblk_free HPa9.out 7
                  have f8 := opblk_free HPa9.out 8
                  by_cases hf : opFault ⟨(K : Int), IDV, p0, p1, p2, p3, ⟨pw, ph, pl⟩⟩ = 0
                  · have hR := hid (show opOf N D = (⟨(K : Int), IDV, p0, p1, p2, p3, ⟨pw, ph, pl⟩⟩, 0) by rw [HOf.out]; unfold opEnd; rw [if_pos hf])
                    rw [hf]
                    clear hf
                    obtain ⟨o0, o1, o2, o3, o4, o5, o6, o7, o8⟩ := OpBoxAt.cells HOb9.out
                    go_wp2_with fail
                    refine bodyPost_ret (v := .tuple #[.agg #[.int .i64 (K : Int), .int .i64 IDV, .int .i64 p0, .int .i64 p1, .int .i64 p2, .int .i64 p3, .int .i64 pw, .int .i64 ph, .slice A pl.length c], .int .i64 0]) (by simp [results, Tryd.results11, go_sem, x0, x1, x2, x3, x4, x5, x6, x7, x8]) rfl ?_
                    rw [hR.out]
                    refine ⟨A, c, rfl, ?_, fun a ha => by have := HAl.out a ha; omega, by (repeat (first | with_reducible exact HBe9.out | with_reducible refine Below.setCell ?_ (by show w.heap.size ≤ w.heap.size; omega) _))⟩
                    show Pixs _ A pl.length pl
                    repeat (first | with_reducible exact HPx9.out | with_reducible refine pixs_set ?_ HAl'.out)
                  · have hR := hid (show opOf N D = (noOp, opFault ⟨(K : Int), IDV, p0, p1, p2, p3, ⟨pw, ph, pl⟩⟩) by rw [HOf.out]; unfold opEnd; rw [if_neg hf])
                    have hpos : (0 : Int) < ((opFault ⟨(K : Int), IDV, p0, p1, p2, p3, ⟨pw, ph, pl⟩⟩ : Nat) : Int) := by omega
                    clear hf
                    generalize opFault ⟨(K : Int), IDV, p0, p1, p2, p3, ⟨pw, ph, pl⟩⟩ = F at *
                    go_wp2_with fail
                    refine bodyPost_ret (v := .tuple #[.agg #[.int .i64 0, .int .i64 0, .int .i64 0, .int .i64 0, .int .i64 0, .int .i64 0, .int .i64 0, .int .i64 0, .slice none 0 0], .int .i64 F]) (by simp [results, Tryd.results11, go_sem, x0, x1, x2, x3, x4, x5, x6, x7, x8]) rfl ?_
                    exact retOpN_bad hR.out (by (repeat (first | with_reducible exact HBe9.out | with_reducible refine Below.setCell ?_ (by show w.heap.size ≤ w.heap.size; omega) _)))
end Fb
