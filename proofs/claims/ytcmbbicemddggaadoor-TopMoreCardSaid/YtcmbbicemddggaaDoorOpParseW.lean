/- op.Chunk: it returns what the plain law of ops' chunks says. Conditions: the variable holds the names; the pixels lie where the picture says, and are few. ref.SameOp of an op and itself: it returns true. Condition: the pixels lie where both say, and are few. op.Parse: it returns what the plain law of ops' chunks says. Conditions: the variable holds the names; not too many bytes. -/
import Derived.Test.YtcmbbicemddggaaDoorPlainA
import Derived.Test.YtcmbbicemddggaaDoorOpNames
import Derived.Test.YtcmbbicemddggaaDoorOpCheck
import Derived.Test.YtcmbbicemddggaaDoorPicBytesW
import Derived.Test.YtcmbbicemddggaaDoorPicParse
import Derived.Test.YtcmbbicemddggaaDoorReelLight
set_option linter.unusedSimpArgs false
set_option linter.unusedVariables false
namespace Fb
open Go Go.Proofs Go.RowKit Go.Sort
def opChunkV (o : FOp) : Value := .tuple #[.agg #[.string (strOf (if opFault o = 0 then opName o.kind else [])), .string (strOf (if opFault o = 0 then opData o else []))], errV (opFault o)]
theorem opChunkV_bad {o : FOp} (h : opFault o ≠ 0) : opChunkV o = .tuple #[.agg #[.string ⟨#[]⟩, .string ⟨#[]⟩], .iface 63 (.int .i64 (opFault o))] := by unfold opChunkV; rw [if_neg h, if_neg h, errV_pos h]; rfl
theorem opChunkV_ok {o : FOp} (h : opFault o = 0) : opChunkV o = .tuple #[.agg #[.string (strOf (opName o.kind)), .string (strOf (opData o))], .nilIface] := by unfold opChunkV; rw [if_pos h, if_pos h, h]; rfl
/-- the boxes of the op and of the chunk -/
def ChBox (H : Nat) (k i a b c d pw ph : Int) (A : Option Addr) (n cp : Nat) (W : World) : Prop :=
  W.heap[H]? = some (.cells #[.int .i64 k, .int .i64 i, .int .i64 a, .int .i64 b, .int .i64 c, .int .i64 d, .int .i64 pw, .int .i64 ph, .slice A n cp] 48) ∧ W.heap[H + 1]? = some (.cells #[.string ⟨#[]⟩, .string ⟨#[]⟩] 37)
theorem ChBox.below {H : Nat} {k i a b c d pw ph : Int} {A : Option Addr} {n cp : Nat} {W W' : World} (h : ChBox H k i a b c d pw ph A n cp W) (hb : Below W.heap.size W W') : ChBox H k i a b c d pw ph A n cp W' := ⟨blk_keep h.1 hb, blk_keep h.2 hb⟩
theorem ChBox.cells {H : Nat} {k i a b c d pw ph : Int} {A : Option Addr} {n cp : Nat} {W : World} (h : ChBox H k i a b c d pw ph A n cp W) :
    W.cell? ⟨H, 0, none⟩ = some (.int .i64 k) ∧ W.cell? ⟨H, 1, none⟩ = some (.int .i64 i) ∧ W.cell? ⟨H, 2, none⟩ = some (.int .i64 a) ∧ W.cell? ⟨H, 3, none⟩ = some (.int .i64 b) ∧ W.cell? ⟨H, 4, none⟩ = some (.int .i64 c) ∧ W.cell? ⟨H, 5, none⟩ = some (.int .i64 d) ∧ W.cell? ⟨H, 6, none⟩ = some (.int .i64 pw) ∧ W.cell? ⟨H, 7, none⟩ = some (.int .i64 ph) ∧ W.cell? ⟨H, 8, none⟩ = some (.slice A n cp) ∧ W.cell? ⟨H + 1, 0, none⟩ = some (.string ⟨#[]⟩) ∧ W.cell? ⟨H + 1, 1, none⟩ = some (.string ⟨#[]⟩) ∧ W.frozen? ⟨H + 1, 0, none⟩ = false ∧ W.frozen? ⟨H + 1, 1, none⟩ = false :=
  ⟨opblk_cell h.1 0 _ rfl, opblk_cell h.1 1 _ rfl, opblk_cell h.1 2 _ rfl, opblk_cell h.1 3 _ rfl, opblk_cell h.1 4 _ rfl, opblk_cell h.1 5 _ rfl, opblk_cell h.1 6 _ rfl, opblk_cell h.1 7 _ rfl, opblk_cell h.1 8 _ rfl, opblk_cell h.2 0 _ rfl, opblk_cell h.2 1 _ rfl, opblk_free h.2 0, opblk_free h.2 1⟩
theorem u8_wrap (x : Int) : IntKind.u8.wrap x = ((UInt8.ofNat (x % 256).toNat).toNat : Int) := by
  rw [UInt8.toNat_ofNat', IntKind.wrap_u8]; omega
def dataTo (HB : List UInt8) (l : List Int) (j : Nat) : List UInt8 := HB ++ (l.take j).flatMap numB
theorem dataTo_succ {HB : List UInt8} {l : List Int} {j : Nat} {x : Int} (h : l[j]? = some x) : dataTo HB l (j + 1) = dataTo HB l j ++ numB x := by
  unfold dataTo
  rw [List.take_add_one, h, List.flatMap_append, List.append_assoc]
  simp
theorem four_at {a b c d : Int} {M j : Nat} (hj : j < M) (hM : M ≤ 4) (h : (0 < M → -20 ≤ a ∧ a ≤ 255) ∧ (1 < M → -20 ≤ b ∧ b ≤ 255) ∧ (2 < M → -20 ≤ c ∧ c ≤ 255) ∧ (3 < M → -20 ≤ d ∧ d ≤ 255)) :
    ∃ x, [a, b, c, d][j]? = some x ∧ (#[.int .i64 a, .int .i64 b, .int .i64 c, .int .i64 d] : Array Value)[j]? = some (.int .i64 x) ∧ -20 ≤ x ∧ x ≤ 255 := by
  obtain ⟨h0, h1, h2, h3⟩ := h
  match j, hj with
  | 0, hj => exact ⟨a, rfl, rfl, h0 hj⟩
  | 1, hj => exact ⟨b, rfl, rfl, h1 hj⟩
  | 2, hj => exact ⟨c, rfl, rfl, h2 hj⟩
  | 3, hj => exact ⟨d, rfl, rfl, h3 hj⟩
  | j + 4, hj => omega
theorem byteCells_numB {x : Int} (h1 : -20 ≤ x) (h2 : x ≤ 255) : byteCells (numB x) = [.int .u8 ((x + 128) % 256), .int .u8 ((x + 128) / 256)] := by
  unfold byteCells numB
  simp only [List.map_cons, List.map_nil, UInt8.toNat_ofNat']
  congr 2
  · omega
  · congr 2; omega
theorem name_at {k : Int} (h1 : 1 ≤ k) (h2 : k ≤ 16) : ∃ h : k.toNat < nameS.length, nameS[k.toNat] = strOf (opName k) := by
  have h : k.toNat < nameS.length := by rw [nameS_len]; omega
  refine ⟨h, ?_⟩
  refine (nameS_at h (show k.toNat < opNames.length by show k.toNat < 17; omega)).trans ?_
  unfold opName
  rw [List.getD_eq_getElem?_getD, List.getElem?_eq_getElem (show k.toNat < opNames.length by show k.toNat < 17; omega), Option.getD_some]
/-- the call returns four numbers in a new block -/
def RetFour2 (a b c d : Int) (w : World) (e : Ending) (w' : World) : Prop := ∃ g : Nat, e = .returned (.slice (some ⟨g, 0, none⟩) 4 4) ∧ w'.heap[g]? = some (.cells #[.int .i64 a, .int .i64 b, .int .i64 c, .int .i64 d] 3) ∧ Below w.heap.size w w'
set_option maxRecDepth 100000 in
set_option maxHeartbeats 400000 in
theorem numbers2_any (k i a b c d pw ph : Int) (A : Option Addr) (n cp : Nat) (w : World) :
    Calls Tryd.prog 31 #[.agg #[.int .i64 k, .int .i64 i, .int .i64 a, .int .i64 b, .int .i64 c, .int .i64 d, .int .i64 pw, .int .i64 ph, .slice A n cp]] w (RetFour2 a b c d w) := by
  go_enter Tryd.func31, Tryd.ntmps31
  go_wp2_with fail
  go_ret
  refine ⟨w.heap.size + 1, by simp, ?_, by (repeat (first | with_reducible exact Below.refl _ _ | with_reducible refine Below.alloc ?_ (by first | omega | (simp; done) | (simp; omega)) _ | with_reducible refine below_drewN ?_ _ | with_reducible refine Below.drew ?_))⟩
  have := heap_alloc_new (w.alloc (.cells #[.int .i64 k, .int .i64 i, .int .i64 a, .int .i64 b, .int .i64 c, .int .i64 d, .int .i64 pw, .int .i64 ph, .slice A n cp] 48)) (.cells #[.int .i64 a, .int .i64 b, .int .i64 c, .int .i64 d] 3)
  simpa using this
set_option maxRecDepth 100000 in
set_option maxHeartbeats 4000000 in
theorem opchunk_any (k i a b c d pw ph : Int) (pl : List Px) (A : Option Addr) (n cp : Nat) (w : World) (hl : Pixs w A n pl) (hn : n ≤ 100) (hN : NamesAt 0 w) :
    Calls Tryd.prog 17 #[.agg #[.int .i64 k, .int .i64 i, .int .i64 a, .int .i64 b, .int .i64 c, .int .i64 d, .int .i64 pw, .int .i64 ph, .slice A n cp]] w (Ret (opChunkV ⟨k, i, a, b, c, d, ⟨pw, ph, pl⟩⟩) w) := by
  obtain ⟨i0, hi, hz0, hz1, hz2⟩ := info_parts info_u8
  have HL := hid hl
  have HN := hid hN
  clear hl hN
  go_enter Tryd.func17, Tryd.ntmps17
  go_upto_region 1 with fail
  obtain ⟨W0, hW0⟩ : ∃ W0, W0 = (w.alloc (.cells #[.int .i64 k, .int .i64 i, .int .i64 a, .int .i64 b, .int .i64 c, .int .i64 d, .int .i64 pw, .int .i64 ph, .slice A n cp] 48)).alloc (.cells #[.string ⟨#[]⟩, .string ⟨#[]⟩] 37) := ⟨_, rfl⟩
  have hB0 : Below w.heap.size w W0 := by rw [hW0]; exact ((Below.refl w.heap.size w).alloc (Nat.le_refl _) _).alloc (by simp) _
  have z0 : w.heap.size + 2 ≤ W0.heap.size := by rw [hW0]; simp
  have P0 : ChBox w.heap.size k i a b c d pw ph A n cp W0 := by
    rw [hW0]
    refine ⟨?_, ?_⟩
    · rw [heap_alloc_old _ _ (by simp)]; exact heap_alloc_new w _
    · have := heap_alloc_new (w.alloc (.cells #[.int .i64 k, .int .i64 i, .int .i64 a, .int .i64 b, .int .i64 c, .int .i64 d, .int .i64 pw, .int .i64 ph, .slice A n cp] 48)) (.cells #[.string ⟨#[]⟩, .string ⟨#[]⟩] 37)
      simpa using this
  rw [← hW0]
  clear hW0
  have HP0 := hid P0
  clear P0
  obtain ⟨c0, c1, c2, c3, c4, c5, c6, c7, c8, x0, x1, f0, f1⟩ := HP0.out.cells
  go_wp2_with fail
  refine (opcheck_any ⟨⟨k, i, a, b, c, d, ⟨pw, ph, pl⟩⟩, A, n, cp⟩ W0 (HL.out.below hB0) hn).mono ?_
  rintro e w1 ⟨rfl, hb1⟩
  have HP1 := hid (HP0.out.below hb1)
  have hB1 : Below w.heap.size w w1 := bnext hB0 hb1
  have z1 : w.heap.size + 2 ≤ w1.heap.size := Nat.le_trans z0 hb1.size
  clear c0 c1 c2 c3 c4 c5 c6 c7 c8 x0 x1 f0 f1 HP0 hb1 hB0 z0
  obtain ⟨c0, c1, c2, c3, c4, c5, c6, c7, c8, x0, x1, f0, f1⟩ := HP1.out.cells
  by_cases hf : opFault ⟨k, i, a, b, c, d, ⟨pw, ph, pl⟩⟩ = 0
  case neg =>
    have hV := hid (opChunkV_bad hf)
    rw [errV_pos hf]
    generalize opFault ⟨k, i, a, b, c, d, ⟨pw, ph, pl⟩⟩ = F at *
    go_wp2_with fail
    refine bodyPost_ret (v := .tuple #[.agg #[.string ⟨#[]⟩, .string ⟨#[]⟩], .iface 63 (.int .i64 F)]) (by simp [results, Tryd.results17, go_sem, x0, x1]) rfl ?_
    exact ⟨by rw [hV.out], (hB1.setCell (by show w.heap.size ≤ w.heap.size + 1; omega) _).setCell (by show w.heap.size ≤ w.heap.size + 1; omega) _⟩
  have hfi := opFault_fine hf
  simp only at hfi
  obtain ⟨⟨k1, k2⟩, -, hidB, -, hpB⟩ := hfi
  have hV := hid (opChunkV_ok hf)
  have hnums := hid (op_nums hf)
  rw [hf, errV_zero]
  clear hf
  go_wp2_with fail
  refine (ophas_any k _ k1 k2).mono ?_
  rintro e w2 ⟨rfl, hb2⟩
  unfold hasV
  have HP2 := hid (HP1.out.below hb2)
  have hB2 : Below w.heap.size w w2 := bnext hB1 hb2
  have z2 : w.heap.size + 2 ≤ w2.heap.size := Nat.le_trans z1 hb2.size
  clear c0 c1 c2 c3 c4 c5 c6 c7 c8 x0 x1 f0 f1 HP1 hb2 hB1 z1
  obtain ⟨c0, c1, c2, c3, c4, c5, c6, c7, c8, x0, x1, f0, f1⟩ := HP2.out.cells
  obtain ⟨I, hI⟩ : ∃ X, hasId k = X := ⟨_, rfl⟩
  obtain ⟨M, hM⟩ : ∃ X, manyN k = X := ⟨_, rfl⟩
  obtain ⟨P, hP⟩ : ∃ X, hasPic k = X := ⟨_, rfl⟩
  have hM4 := manyN_le k
  rw [hI] at hidB
  rw [hP] at hpB
  rw [hM] at hM4
  have hhead : headB ⟨k, i, a, b, c, d, ⟨pw, ph, pl⟩⟩ = if I = true then [UInt8.ofNat (i % 256).toNat] else [] := by unfold headB; simp only [hI]
  have htail : tailB ⟨k, i, a, b, c, d, ⟨pw, ph, pl⟩⟩ = if P = true then picBytes ⟨pw, ph, pl⟩ else [] := by unfold tailB; simp only [hP]
  have hnumsB : numsB ⟨k, i, a, b, c, d, ⟨pw, ph, pl⟩⟩ = ([a, b, c, d].take M).flatMap numB := by unfold numsB opNums; simp only [hM]
  simp only [hI, hM, hP]
  simp only [hM] at hnums
  have HD := hid hhead
  have HT := hid htail
  have HNB := hid hnumsB
  clear hI hM hP hhead htail hnumsB
  obtain ⟨HB, hHB⟩ : ∃ X, (if I = true then [UInt8.ofNat (i % 256).toNat] else []) = X := ⟨_, rfl⟩
  rw [hHB] at HD
  have HHB := hid hHB
  clear hHB
  have HPB := hid hpB
  clear hpB
  go_upto_if 27 with fail
  go_cut [8] (fun v wi => wi.ownsRow w2.heap.size 5 1 v HB.length (byteCells HB) ∧ Below w2.heap.size w2 wi)
  case first =>
    cases I with
    | false =>
      have h := HHB.out
      rw [if_neg (by decide)] at h
      subst h
      go_wp2_with fail
      go_meet
      exact ⟨World.ownsRow_nil _ _ _ _, Below.refl _ _⟩
    | true =>
      have h := HHB.out
      rw [if_pos rfl] at h
      subst h
      obtain ⟨V0, hV0⟩ : ∃ V, V = Value.slice none 0 0 := ⟨_, rfl⟩
      have hO0 : w2.ownsRow w2.heap.size 5 1 V0 0 [] := by rw [hV0]; exact World.ownsRow_nil _ _ _ _
      have hV0b := hid (show V0.ownBlock = none by rw [hV0]; rfl)
      rw [← hV0]
      clear hV0
      go_wp2_with (at_builtin; go_loud (refine wpList_append_own _ rfl _ _ 55 rfl w2.heap.size 5 i0 (.int .u8 0) 1 1 Tryd.underlying55 hi hz0 hz1 hz2 rfl (by decide) _ _ _ rfl (World.ownsRow.alloc hO0 _) ⟨w2.heap.size, 0, none⟩ 1 1 [.int .u8 (IntKind.u8.wrap i)] rfl rfl (fun j u hu => new_cells w2 #[.int .u8 (IntKind.u8.wrap i)] 5 j u hu) (by intro u hu; simp at hu; subst hu; rfl) (by simp [maxLen]) (by omega) (by simp) ?_))
      intro v3 w3 hown3 hgrow3 _
      have hO : w3.ownsRow w2.heap.size 5 1 v3 1 (byteCells [UInt8.ofNat (i % 256).toNat]) := by rw [u8_wrap] at hown3; exact hown3
      have hb3 : Below w2.heap.size w2 w3 := ((Below.refl _ _).alloc (Nat.le_refl _) _).grown hgrow3 (by simp) (fun g hg => by rw [hV0b.out] at hg; cases hg)
      go_wp2_with fail
      go_meet
      exact ⟨hO, hb3⟩
  case rest =>
    obtain ⟨hown, hbel⟩ := hcut
    have HP2' := hid HP2.out
    have HOw := hid hown
    have HP3 := hid (HP2.out.below hbel)
    have HbW := hid hbel
    clear c0 c1 c2 c3 c4 c5 c6 c7 c8 x0 x1 f0 f1 hown hbel HP2
    obtain ⟨c0, c1, c2, c3, c4, c5, c6, c7, c8, x0, x1, f0, f1⟩ := HP3.out.cells
    go_wp2_with fail
    refine (numbers2_any k i a b c d pw ph A n cp _).mono ?_
    rintro e w4 ⟨g4, rfl, hg4, hb4⟩
    have HO4 := hid (own_keep HOw.out hb4)
    have HW4 := hid (bnext HbW.out hb4)
    have HG4 := hid hg4
    clear c0 c1 c2 c3 c4 c5 c6 c7 c8 x0 x1 f0 f1 HOw HbW hb4 HP3 hg4
    have m1 : (0 : Int) ≤ (M : Int) := by omega
    have m2 : (M : Int) ≤ 4 := by omega
    go_wp2_with fail
    go_loopw [39, 8] (fun iv v wr => ∃ j : Nat, j ≤ M ∧ iv = .int .i64 j ∧ Hid (wr.ownsRow w2.heap.size 5 1 v (dataTo HB [a, b, c, d] j).length (byteCells (dataTo HB [a, b, c, d] j))) ∧ Hid (Below w2.heap.size w2 wr) ∧ Hid (wr.heap[g4]? = some (.cells #[.int .i64 a, .int .i64 b, .int .i64 c, .int .i64 d] 3))) (fun iv _ _ => M - (intOf iv).toNat)
    case atStart => exact ⟨0, by omega, rfl, hid (by simpa [dataTo] using HO4.out), HW4, HG4⟩
    case round =>
      obtain ⟨j, hj, rfl, HO, HW, HG⟩ := hrel
      by_cases hlt : j < M
      · obtain ⟨x, hx, hx2, hx3, hx4⟩ := four_at hlt hM4 hnums.out
        have hc := opblk_cell HG.out j _ hx2
        have q1 : (0 : Int) ≤ (j : Int) := by omega
        have q2 : (j : Int) < (M : Int) := by omega
        have HS := hid (dataTo_succ (HB := HB) hx)
        have HBx := hid (byteCells_numB hx3 hx4)
        have hglt : g4 < wr.heap.size := (Array.getElem?_eq_some_iff.1 HG.out).1
        have hgne := hid (own_apart HO.out HG.out (by decide))
        have hHB1 : HB.length ≤ 1 := by
          have := HHB.out
          rw [← this]; split <;> simp
        have hlen : (dataTo HB [a, b, c, d] j).length ≤ 9 := by
          unfold dataTo
          rw [List.length_append, flat_numB, List.length_take]
          have : min j [a, b, c, d].length ≤ 4 := Nat.min_le_right _ _
          omega
        have hWs := HW.out.size
        obtain ⟨D, hD⟩ : ∃ D, dataTo HB [a, b, c, d] j = D := ⟨_, rfl⟩
        rw [hD] at HO HS hlen
        clear hD hx hx2
        go_wp2_with (at_builtin; refine wpList_append_own _ rfl _ _ 55 rfl w2.heap.size 5 i0 (.int .u8 0) 1 1 Tryd.underlying55 hi hz0 hz1 hz2 rfl (by decide) _ _ _ rfl (World.ownsRow.alloc HO.out _) ⟨wr.heap.size, 0, none⟩ 2 2 [.int .u8 ((x + 128) % 256), .int .u8 ((x + 128) / 256)] rfl rfl (cell_two_new wr _ _ _) (by intro u hu; simp at hu; rcases hu with rfl | rfl <;> rfl) (by unfold maxLen; omega) (by omega) (by simp; omega) ?_)
        intro v5 w5 hown5 hgrow5 _
        have HO5 : Hid (w5.ownsRow w2.heap.size 5 1 v5 (dataTo HB [a, b, c, d] (j + 1)).length (byteCells (dataTo HB [a, b, c, d] (j + 1)))) := by
          rw [HS.out, byteCells_append, HBx.out]
          have e : (D ++ numB x).length = D.length + 2 := by simp [numB]
          rw [e]
          exact hid hown5
        have HG5 := hid (blk_grown ((heap_alloc_old wr _ hglt).trans HG.out) hgrow5 hgne.out)
        have HW5 := hid ((HW.out.alloc (by omega) _).grown hgrow5 (by simp; omega) (fun g hg => (HO.out.lt g hg).1))
        clear hown5 hgrow5
        go_wp2_with fail
        go_roundw
        case rel => exact ⟨j + 1, by omega, by go_num, HO5, HW5, HG5⟩
        case measure => simp [intOf]; omega
      · obtain rfl : j = M := by omega
        have hdd : dataTo HB [a, b, c, d] j = headB ⟨k, i, a, b, c, d, ⟨pw, ph, pl⟩⟩ ++ numsB ⟨k, i, a, b, c, d, ⟨pw, ph, pl⟩⟩ := by unfold dataTo; rw [HD.out, HNB.out]
        rw [hdd] at HO
        obtain ⟨A9, c9, rfl, -, -⟩ := own_slice HO.out
        have hst := run_string_row (c := c9) (src := 55) (dst := 9) (P := Tryd.prog) (Row.of_own HO.out) Tryd.underlying55 Tryd.underlying5 Tryd.underlying9
        obtain ⟨FR, hFR⟩ : ∃ X, headB ⟨k, i, a, b, c, d, ⟨pw, ph, pl⟩⟩ ++ numsB ⟨k, i, a, b, c, d, ⟨pw, ph, pl⟩⟩ = X := ⟨_, rfl⟩
        rw [hFR] at hst
        have HDat : Hid (opData ⟨k, i, a, b, c, d, ⟨pw, ph, pl⟩⟩ = FR ++ tailB ⟨k, i, a, b, c, d, ⟨pw, ph, pl⟩⟩) := hid (by unfold opData; rw [hFR])
        have HP9 := hid (HP2'.out.below HW.out)
        have HB9 := bnext hB2 HW.out
        have kk1 : (0 : Int) ≤ k := by omega
        have kk2 : k < 17 := by omega
        have hnm := hid (name_at k1 k2)
        cases P with
        | false =>
          have ht : tailB ⟨k, i, a, b, c, d, ⟨pw, ph, pl⟩⟩ = [] := by rw [HT.out]; rfl
          obtain ⟨c0, c1, c2, c3, c4, c5, c6, c7, c8, x0, x1, f0, f1⟩ := HP9.out.cells
          obtain ⟨nb, noff, nc, n0, n1, n2, n3⟩ := HN.out.below HB9
          obtain ⟨kl, hk⟩ := hnm.out
          have n4 := n3 k.toNat kl
          rw [hk] at n4
          clear hk n3
          go_wp2_with fail
          refine bodyPost_ret (v := .tuple #[.agg #[.string (strOf (opName k)), .string (strOf (FR))], .nilIface]) (by simp [results, Tryd.results17, go_sem, x0, x1]) rfl ?_
          exact ⟨by rw [hV.out, HDat.out, ht]; simp, (HB9.setCell (by show w.heap.size ≤ w.heap.size + 1; omega) _).setCell (by show w.heap.size ≤ w.heap.size + 1; omega) _⟩
        | true =>
          have ht : tailB ⟨k, i, a, b, c, d, ⟨pw, ph, pl⟩⟩ = picBytes ⟨pw, ph, pl⟩ := by rw [HT.out]; rfl
          obtain ⟨c0, c1, c2, c3, c4, c5, c6, c7, c8, x0, x1, f0, f1⟩ := HP9.out.cells
          go_wp2_with fail
          refine (pbytes_any ⟨⟨pw, ph, pl⟩, A, n, cp⟩ _ (HL.out.below HB9) hn).mono ?_
          rintro e w10 ⟨rfl, hb10⟩
          rw [picBV_ok (HPB.out (by first | exact rfl | trivial))]
          have HP10 := hid (HP9.out.below hb10)
          have HB10 := bnext HB9 hb10
          clear c0 c1 c2 c3 c4 c5 c6 c7 c8 x0 x1 f0 f1 hb10
          obtain ⟨c0, c1, c2, c3, c4, c5, c6, c7, c8, x0, x1, f0, f1⟩ := HP10.out.cells
          obtain ⟨nb, noff, nc, n0, n1, n2, n3⟩ := HN.out.below HB10
          obtain ⟨kl, hk⟩ := hnm.out
          have n4 := n3 k.toNat kl
          rw [hk] at n4
          have happ := strOf_append
          have hpl := picBytes_lt (picFault_fine.1 (HPB.out (by first | exact rfl | trivial)))
          have hFL : FR.length ≤ 9 := by
            rw [← hFR, front_len]
            have h9 := manyN_le k
            have h8 : headN k ≤ 1 := by unfold headN; split <;> omega
            show headN k + 2 * manyN k ≤ 9
            omega
          have hsz2 : (strOf FR).size + (strOf (picBytes ⟨pw, ph, pl⟩)).size ≤ 1000000 := by rw [strOf_size, strOf_size]; omega
          obtain ⟨PB, hPB⟩ : ∃ X, picBytes ⟨pw, ph, pl⟩ = X := ⟨_, rfl⟩
          rw [hPB] at ht hsz2 ⊢
          clear hk n3 hpl hFL
          go_wp2_with fail
          refine bodyPost_ret (v := .tuple #[.agg #[.string (strOf (opName k)), .string (strOf (FR ++ PB))], .nilIface]) (by simp [results, Tryd.results17, go_sem, x0, x1]) rfl ?_
          exact ⟨by rw [hV.out, HDat.out, ht], (HB10.setCell (by show w.heap.size ≤ w.heap.size + 1; omega) _).setCell (by show w.heap.size ≤ w.heap.size + 1; omega) _⟩
end Fb
namespace Fb
open Go Go.Proofs Go.RowKit Go.Sort
set_option maxRecDepth 100000 in
set_option maxHeartbeats 1600000 in
theorem rsameop_self (k i a b c d pw ph : Int) (pl : List Px) (A B : Option Addr) (n cp m cq : Nat) (w : World) (h1 : Pixs w A n pl) (h2 : Pixs w B m pl) (hn : n ≤ 1000) :
    Calls Tryd.prog 23 #[.agg #[.int .i64 k, .int .i64 i, .int .i64 a, .int .i64 b, .int .i64 c, .int .i64 d, .int .i64 pw, .int .i64 ph, .slice A n cp], .agg #[.int .i64 k, .int .i64 i, .int .i64 a, .int .i64 b, .int .i64 c, .int .i64 d, .int .i64 pw, .int .i64 ph, .slice B m cq]] w (Ret (.bool true) w) := by
  have H1 := hid h1
  have H2 := hid h2
  have hnm := hid (show m ≤ 1000 by have e1 := h1.1; have e2 := h2.1; omega)
  clear h1 h2
  go_enter Tryd.func23, Tryd.ntmps23
  go_upto_region 1 with fail
  obtain ⟨W0, hW0⟩ : ∃ W0, W0 = (w.alloc (.cells #[.int .i64 k, .int .i64 i, .int .i64 a, .int .i64 b, .int .i64 c, .int .i64 d, .int .i64 pw, .int .i64 ph, .slice A n cp] 48)).alloc (.cells #[.int .i64 k, .int .i64 i, .int .i64 a, .int .i64 b, .int .i64 c, .int .i64 d, .int .i64 pw, .int .i64 ph, .slice B m cq] 48) := ⟨_, rfl⟩
  have hB0 : Below w.heap.size w W0 := by rw [hW0]; exact ((Below.refl w.heap.size w).alloc (Nat.le_refl _) _).alloc (by simp) _
  have P0 : OpBoxAt w.heap.size k i a b c d pw ph A n cp W0 := by
    rw [hW0]; unfold OpBoxAt
    rw [heap_alloc_old _ _ (by simp)]; exact heap_alloc_new w _
  have Q0 : OpBoxAt (w.heap.size + 1) k i a b c d pw ph B m cq W0 := by
    rw [hW0]; unfold OpBoxAt
    have := heap_alloc_new (w.alloc (.cells #[.int .i64 k, .int .i64 i, .int .i64 a, .int .i64 b, .int .i64 c, .int .i64 d, .int .i64 pw, .int .i64 ph, .slice A n cp] 48)) (.cells #[.int .i64 k, .int .i64 i, .int .i64 a, .int .i64 b, .int .i64 c, .int .i64 d, .int .i64 pw, .int .i64 ph, .slice B m cq] 48)
    simpa using this
  rw [← hW0]
  clear hW0
  have HP0 := hid P0
  have HQ0 := hid Q0
  clear P0 Q0
  obtain ⟨c0, c1, c2, c3, c4, c5, c6, c7, c8⟩ := HP0.out.cells
  obtain ⟨x0, x1, x2, x3, x4, x5, x6, x7, x8⟩ := HQ0.out.cells
  go_wp2_with fail
  refine (rsame_pic_any ⟨⟨pw, ph, pl⟩, A, n, cp⟩ ⟨⟨pw, ph, pl⟩, B, m, cq⟩ W0 (H1.out.below hB0) (H2.out.below hB0) (by show n ≤ 1000000; omega) (by have := hnm.out; show m ≤ 1000000; omega)).mono ?_
  rintro e w1 ⟨rfl, hb1⟩
  have HP1 := hid (blk_keep HP0.out hb1)
  have HQ1 := hid (blk_keep HQ0.out hb1)
  have hB1 := bnext hB0 hb1
  rw [samePic_self]
  clear c0 c1 c2 c3 c4 c5 c6 c7 c8 x0 x1 x2 x3 x4 x5 x6 x7 x8 HP0 HQ0 hb1 hB0
  obtain ⟨c0, c1, c2, c3, c4, c5, c6, c7, c8⟩ := OpBoxAt.cells HP1.out
  obtain ⟨x0, x1, x2, x3, x4, x5, x6, x7, x8⟩ := OpBoxAt.cells HQ1.out
  go_wp2_with fail
  go_ret
  exact ⟨rfl, hB1⟩
end Fb
namespace Fb
open Go Go.Proofs Go.RowKit Go.Sort
theorem kindOf_le (N : List UInt8) : kindOf N ≤ 16 := by
  unfold kindOf
  cases h : opNames.findIdx? (fun y => decide (y = N)) with
  | none => simp
  | some i =>
    have := (List.findIdx?_eq_some_iff_getElem.1 h).1
    have h17 : opNames.length = 17 := rfl
    simp
    omega
/-- the call returns an op with its pixels in new memory, and what is wrong -/
def RetOpE (x : FOp × Nat) (w : World) (e : Ending) (w' : World) : Prop := ∃ (A : Option Addr) (c : Nat), e = .returned (.tuple #[.agg #[.int .i64 x.1.kind, .int .i64 x.1.id, .int .i64 x.1.a, .int .i64 x.1.b, .int .i64 x.1.c, .int .i64 x.1.d, .int .i64 x.1.pic.w, .int .i64 x.1.pic.h, .slice A x.1.pic.p.length c], errV x.2]) ∧ Pixs w' A x.1.pic.p.length x.1.pic.p ∧ (∀ a, A = some a → w.heap.size ≤ a.block) ∧ Below w.heap.size w w'
theorem retOpE_bad {x : FOp × Nat} {f : Nat} {w w' : World} (h : x = (noOp, f)) (hf : f ≠ 0) (hb : Below w.heap.size w w') : RetOpE x w (.returned (.tuple #[.agg #[.int .i64 0, .int .i64 0, .int .i64 0, .int .i64 0, .int .i64 0, .int .i64 0, .int .i64 0, .int .i64 0, .slice none 0 0], .iface 63 (.int .i64 f)])) w' := by
  subst h
  exact ⟨none, 0, by rw [← errV_pos hf]; rfl, pixs_none _ _, (fun a ha => by simp at ha), hb⟩
theorem opOf_none {N D : List UInt8} (h : kindOf N = 0) : opOf N D = (noOp, 5) := by unfold opOf; rw [if_pos h]
theorem opOf_len {N D : List UInt8} (h : kindOf N ≠ 0) (hl : D.length < headN (kindOf N) + 2 * manyN (kindOf N) ∨ (hasPic (kindOf N) = false ∧ headN (kindOf N) + 2 * manyN (kindOf N) < D.length)) : opOf N D = (noOp, 4) := by unfold opOf; rw [if_neg h, if_pos hl]
theorem opOf_fits {N D : List UInt8} (h : kindOf N ≠ 0) : ¬ (D.length < headN (kindOf N) + 2 * manyN (kindOf N) ∨ (hasPic (kindOf N) = false ∧ headN (kindOf N) + 2 * manyN (kindOf N) < D.length)) →
    opOf N D = if hasPic (kindOf N) = true then
      (if (picOf (D.drop (headN (kindOf N) + 2 * manyN (kindOf N)))).2 = 0 then opEnd { opRead (kindOf N) D with pic := (picOf (D.drop (headN (kindOf N) + 2 * manyN (kindOf N)))).1 }
       else (noOp, (picOf (D.drop (headN (kindOf N) + 2 * manyN (kindOf N)))).2))
      else opEnd (opRead (kindOf N) D) := by
  intro h2
  unfold opOf; rw [if_neg h, if_neg h2]
theorem OpBoxAt.set1 {g : Nat} {k i a b c d pw ph : Int} {A : Option Addr} {n cp : Nat} {W : World} (h : OpBoxAt g k i a b c d pw ph A n cp W) (v : Int) : OpBoxAt g k v a b c d pw ph A n cp (W.setCell ⟨g, 1, none⟩ (.int .i64 v)) := by
  unfold OpBoxAt at h ⊢
  rw [setCell_eq_setRow W g 1 _ _ (0, 0) _ h, setRow_heap _ _ _ _ _ _ h]
  rfl
theorem OpBoxAt.set2 {g : Nat} {k i a b c d pw ph : Int} {A : Option Addr} {n cp : Nat} {W : World} (h : OpBoxAt g k i a b c d pw ph A n cp W) (v : Int) : OpBoxAt g k i v b c d pw ph A n cp (W.setCell ⟨g, 2, none⟩ (.int .i64 v)) := by
  unfold OpBoxAt at h ⊢
  rw [setCell_eq_setRow W g 2 _ _ (0, 0) _ h, setRow_heap _ _ _ _ _ _ h]
  rfl
theorem OpBoxAt.set3 {g : Nat} {k i a b c d pw ph : Int} {A : Option Addr} {n cp : Nat} {W : World} (h : OpBoxAt g k i a b c d pw ph A n cp W) (v : Int) : OpBoxAt g k i a v c d pw ph A n cp (W.setCell ⟨g, 3, none⟩ (.int .i64 v)) := by
  unfold OpBoxAt at h ⊢
  rw [setCell_eq_setRow W g 3 _ _ (0, 0) _ h, setRow_heap _ _ _ _ _ _ h]
  rfl
theorem OpBoxAt.set4 {g : Nat} {k i a b c d pw ph : Int} {A : Option Addr} {n cp : Nat} {W : World} (h : OpBoxAt g k i a b c d pw ph A n cp W) (v : Int) : OpBoxAt g k i a b v d pw ph A n cp (W.setCell ⟨g, 4, none⟩ (.int .i64 v)) := by
  unfold OpBoxAt at h ⊢
  rw [setCell_eq_setRow W g 4 _ _ (0, 0) _ h, setRow_heap _ _ _ _ _ _ h]
  rfl
theorem OpBoxAt.set5 {g : Nat} {k i a b c d pw ph : Int} {A : Option Addr} {n cp : Nat} {W : World} (h : OpBoxAt g k i a b c d pw ph A n cp W) (v : Int) : OpBoxAt g k i a b c v pw ph A n cp (W.setCell ⟨g, 5, none⟩ (.int .i64 v)) := by
  unfold OpBoxAt at h ⊢
  rw [setCell_eq_setRow W g 5 _ _ (0, 0) _ h, setRow_heap _ _ _ _ _ _ h]
  rfl
theorem parseGo_len2 : ∀ (W h : Nat) (t : List UInt8) (up : List Int) (acc l : List Px), parseGo W h t up acc = some l → l.length = acc.length + h * W
  | W, 0, t, up, acc, l, h => by unfold parseGo at h; injection h with h; subst h; simp
  | W, h + 1, t, up, acc, l, hh => by
    unfold parseGo at hh
    split at hh
    · cases hh
    · have ih := parseGo_len2 W h _ _ _ _ hh
      rw [List.length_append, (pairs_len _ W (rowOf_len _ _ _ _)).1] at ih
      rw [ih, Nat.add_mul]; omega
theorem pixs_set {w : World} {A : Option Addr} {n g o : Nat} {p : List Px} {v : Value} (h : Pixs w A n p) (hne : ∀ a, A = some a → a.block ≠ g) : Pixs (w.setCell ⟨g, o, none⟩ v) A n p := ⟨h.1, row_set h.2 (fun _ => hne)⟩
theorem picOf_sm {s : List UInt8} : (picOf s).1.p.length ≤ 100 := by
  unfold picOf
  split
  · simp [noPic]
  · split
    · simp [noPic]
    · rename_i h1 h2
      have h2 := Decidable.not_not.1 h2
      simp only
      split
      · simp [noPic]
      · split
        · simp [noPic]
        · split
          · simp [noPic]
          · rename_i l hl
            have h3 := parseGo_len2 _ _ _ _ _ _ hl
            simp only [List.length_nil, Nat.zero_add] at h3
            show l.length ≤ 100
            rw [h3]
            have : (s.getD 1 0).toNat * (s.getD 0 0).toNat ≤ 8 * 8 := Nat.mul_le_mul (by omega) (by omega)
            omega
theorem numAt_drop (D : List UInt8) (h j : Nat) : numAt (D.drop h) 0 j = numAt D h j := by
  unfold numAt
  rw [List.getD_eq_getElem?_getD, List.getD_eq_getElem?_getD, List.getElem?_drop, List.getElem?_drop, List.getD_eq_getElem?_getD, List.getD_eq_getElem?_getD]
  rw [show h + (0 + 2 * j) = h + 2 * j by omega, show h + (0 + 2 * j + 1) = h + 2 * j + 1 by omega]
theorem OpBoxAt.setPic {g : Nat} {k i a b c d pw ph : Int} {A : Option Addr} {n cp : Nat} {W : World} (h : OpBoxAt g k i a b c d pw ph A n cp W) (u v : Int) (B : Option Addr) (m q : Nat) : OpBoxAt g k i a b c d u v B m q (((W.setCell ⟨g, 6, none⟩ (.int .i64 u)).setCell ⟨g, 7, none⟩ (.int .i64 v)).setCell ⟨g, 8, none⟩ (.slice B m q)) := by
  unfold OpBoxAt at h ⊢
  have h6 : (W.setCell ⟨g, 6, none⟩ (.int .i64 u)).heap[g]? = some (.cells #[.int .i64 k, .int .i64 i, .int .i64 a, .int .i64 b, .int .i64 c, .int .i64 d, .int .i64 u, .int .i64 ph, .slice A n cp] 48) := by
    rw [setCell_eq_setRow W g 6 _ _ (0, 0) _ h, setRow_heap _ _ _ _ _ _ h]; rfl
  have h7 : ((W.setCell ⟨g, 6, none⟩ (.int .i64 u)).setCell ⟨g, 7, none⟩ (.int .i64 v)).heap[g]? = some (.cells #[.int .i64 k, .int .i64 i, .int .i64 a, .int .i64 b, .int .i64 c, .int .i64 d, .int .i64 u, .int .i64 v, .slice A n cp] 48) := by
    rw [setCell_eq_setRow _ g 7 _ _ (0, 0) _ h6, setRow_heap _ _ _ _ _ _ h6]; rfl
  rw [setCell_eq_setRow _ g 8 _ _ (0, 0) _ h7, setRow_heap _ _ _ _ _ _ h7]; rfl
/-- number j, of the first i that were read -/
def nv (S : List UInt8) (i j : Nat) : Int := if j < i then numAt S 0 j else 0
/-- the boxes of the chunk and of the result -/
def PaBox (H : Nat) (N D : List UInt8) (W : World) : Prop := W.heap[H]? = some (.cells #[.string (strOf N), .string (strOf D)] 37) ∧ OpBoxAt (H + 1) 0 0 0 0 0 0 0 0 none 0 0 W
theorem PaBox.below {H : Nat} {N D : List UInt8} {W W' : World} (h : PaBox H N D W) (hb : Below W.heap.size W W') : PaBox H N D W' := ⟨blk_keep h.1 hb, blk_keep h.2 hb⟩
theorem PaBox.set {H g o : Nat} {N D : List UInt8} {W : World} {v : Value} (h : PaBox H N D W) (hg : H + 2 ≤ g) : PaBox H N D (W.setCell ⟨g, o, none⟩ v) :=
  ⟨(Below.heap_setCell W ⟨g, o, none⟩ v H (by show H ≠ g; omega)).trans h.1, (Below.heap_setCell W ⟨g, o, none⟩ v (H + 1) (by show H + 1 ≠ g; omega)).trans h.2⟩
/-- the result's cells, and that they may be written -/
def ResC (H : Nat) (W : World) : Prop := W.cell? ⟨H + 1, 0, none⟩ = some (.int .i64 0) ∧ W.cell? ⟨H + 1, 1, none⟩ = some (.int .i64 0) ∧ W.cell? ⟨H + 1, 2, none⟩ = some (.int .i64 0) ∧ W.cell? ⟨H + 1, 3, none⟩ = some (.int .i64 0) ∧ W.cell? ⟨H + 1, 4, none⟩ = some (.int .i64 0) ∧ W.cell? ⟨H + 1, 5, none⟩ = some (.int .i64 0) ∧ W.cell? ⟨H + 1, 6, none⟩ = some (.int .i64 0) ∧ W.cell? ⟨H + 1, 7, none⟩ = some (.int .i64 0) ∧ W.cell? ⟨H + 1, 8, none⟩ = some (.slice none 0 0)
def ResF (H : Nat) (W : World) : Prop := W.frozen? ⟨H + 1, 0, none⟩ = false ∧ W.frozen? ⟨H + 1, 1, none⟩ = false ∧ W.frozen? ⟨H + 1, 2, none⟩ = false ∧ W.frozen? ⟨H + 1, 3, none⟩ = false ∧ W.frozen? ⟨H + 1, 4, none⟩ = false ∧ W.frozen? ⟨H + 1, 5, none⟩ = false ∧ W.frozen? ⟨H + 1, 6, none⟩ = false ∧ W.frozen? ⟨H + 1, 7, none⟩ = false ∧ W.frozen? ⟨H + 1, 8, none⟩ = false
theorem PaBox.res {H : Nat} {N D : List UInt8} {W : World} (h : PaBox H N D W) : ResC H W ∧ ResF H W := ⟨OpBoxAt.cells h.2, opblk_free h.2 0, opblk_free h.2 1, opblk_free h.2 2, opblk_free h.2 3, opblk_free h.2 4, opblk_free h.2 5, opblk_free h.2 6, opblk_free h.2 7, opblk_free h.2 8⟩
theorem PaBox.two {H : Nat} {N D : List UInt8} {W : World} (h : PaBox H N D W) : W.cell? ⟨H, 0, none⟩ = some (.string (strOf N)) ∧ W.cell? ⟨H, 1, none⟩ = some (.string (strOf D)) := ⟨opblk_cell h.1 0 _ rfl, opblk_cell h.1 1 _ rfl⟩
set_option maxRecDepth 100000 in
set_option maxHeartbeats 4000000 in
theorem opparse_any (N D : List UInt8) (w : World) (hD : D.length ≤ 10000) (hN : NamesAt 0 w) :
    Calls Tryd.prog 22 #[.agg #[.string (strOf N), .string (strOf D)]] w (RetOpE (opOf N D) w) := by
  have HN := hid hN
  have HDl := hid hD
  clear hN hD
  go_enter Tryd.func22, Tryd.ntmps22
  go_upto_region 1 with fail
  obtain ⟨W0, hW0⟩ : ∃ W0, W0 = (w.alloc (.cells #[.string (strOf N), .string (strOf D)] 37)).alloc (.cells #[.int .i64 0, .int .i64 0, .int .i64 0, .int .i64 0, .int .i64 0, .int .i64 0, .int .i64 0, .int .i64 0, .slice none 0 0] 48) := ⟨_, rfl⟩
  have hB0 : Below w.heap.size w W0 := by rw [hW0]; exact ((Below.refl w.heap.size w).alloc (Nat.le_refl _) _).alloc (by simp) _
  have z0 : w.heap.size + 2 ≤ W0.heap.size := by rw [hW0]; simp
  have P0 : PaBox w.heap.size N D W0 := by
    rw [hW0]
    refine ⟨?_, ?_⟩
    · rw [heap_alloc_old _ _ (by simp)]; exact heap_alloc_new w _
    · have := heap_alloc_new (w.alloc (.cells #[.string (strOf N), .string (strOf D)] 37)) (.cells #[.int .i64 0, .int .i64 0, .int .i64 0, .int .i64 0, .int .i64 0, .int .i64 0, .int .i64 0, .int .i64 0, .slice none 0 0] 48)
      unfold OpBoxAt
      simpa using this
  rw [← hW0]
  clear hW0
  have HP0 := hid P0
  clear P0
  obtain ⟨y0, y1⟩ := HP0.out.two
  obtain ⟨nb, noff, nc, n0, n1, n2, n3⟩ := HN.out.below hB0
  have N3 := hid n3
  clear n3
  go_wp2_with fail
  refine (nameIndex_any nb noff nc N W0 N3.out).mono ?_
  rintro e w1 ⟨rfl, rfl⟩
  by_cases hk : kindOf N = 0
  · have hlt := idxI_kind.1.2 hk
    have hV := hid (opOf_none (D := D) hk)
    clear hk
    generalize idxI N = X at *
    obtain ⟨⟨x0, x1, x2, x3, x4, x5, x6, x7, x8⟩, ⟨f0, f1, f2, f3, f4, f5, f6, f7, f8⟩⟩ := HP0.out.res
    go_wp2_with fail
    refine bodyPost_ret (v := .tuple #[.agg #[.int .i64 0, .int .i64 0, .int .i64 0, .int .i64 0, .int .i64 0, .int .i64 0, .int .i64 0, .int .i64 0, .slice none 0 0], .iface 63 (.int .i64 5)]) (by simp [results, Tryd.results22, go_sem, x0, x1, x2, x3, x4, x5, x6, x7, x8]) rfl ?_
    exact retOpE_bad hV.out (by decide) (by (repeat (first | with_reducible exact hB0 | with_reducible refine Below.setCell ?_ (by show w.heap.size ≤ w.heap.size + 1; omega) _)))
  have hk1 : ¬ idxI N < 1 := fun h => hk (idxI_kind.1.1 h)
  have hk2 := idxI_kind.2 hk1
  have hk16 := kindOf_le N
  have HK := hid hk
  obtain ⟨K, hK⟩ : ∃ K, kindOf N = K := ⟨_, rfl⟩
  rw [hK] at hk2 hk16 hk
  rw [hk2]
  have HKK := hid hK
  clear hk2 hk1 hK
  have i1 : ¬ (K : Int) < 1 := by omega
  have i2 : (1 : Int) ≤ (K : Int) := by omega
  have i3 : (K : Int) ≤ 16 := by omega
  go_wp2_with fail
  refine (ophas_any (K : Int) _ i2 i3).mono ?_
  rintro e w2 ⟨rfl, hb2⟩
  unfold hasV
  have HP2 := hid (HP0.out.below hb2)
  have hB2 := bnext hB0 hb2
  have z2 : w.heap.size + 2 ≤ w2.heap.size := Nat.le_trans z0 hb2.size
  clear y0 y1 n0 n1 n2 hb2 HP0 hB0 z0 N3
  obtain ⟨I, hI⟩ : ∃ X, hasId (K : Int) = X := ⟨_, rfl⟩
  obtain ⟨M, hM⟩ : ∃ X, manyN (K : Int) = X := ⟨_, rfl⟩
  obtain ⟨P, hP⟩ : ∃ X, hasPic (K : Int) = X := ⟨_, rfl⟩
  have hM4 := manyN_le (K : Int)
  rw [hM] at hM4
  obtain ⟨h, hh⟩ : ∃ X, headN (K : Int) = X := ⟨_, rfl⟩
  have Hh := hid (show h = if I = true then 1 else 0 by rw [← hh]; unfold headN; rw [hI])
  have HLEN := hid (fun hc : D.length < h + 2 * M ∨ (P = false ∧ h + 2 * M < D.length) => opOf_len (N := N) (D := D) HK.out (by rw [HKK.out, hh, hM, hP]; exact hc))
  have HOF := hid (opOf_fits (N := N) (D := D) HK.out)
  rw [HKK.out, hh, hM, hP] at HOF
  simp only [hI, hM, hP]
  have HI := hid hI
  have HM := hid hM
  have HPp := hid hP
  have HH := hid hh
  clear hI hM hP hh
  obtain ⟨y0, y1⟩ := HP2.out.two
  go_upto_region 6 with fail
  obtain ⟨W3, hW3⟩ : ∃ W3, W3 = w2.alloc (.cells #[.int .i64 (K : Int), .int .i64 0, .int .i64 0, .int .i64 0, .int .i64 0, .int .i64 0, .int .i64 0, .int .i64 0, .slice none 0 0] 48) := ⟨_, rfl⟩
  obtain ⟨go, hgo⟩ : ∃ g, g = w2.heap.size := ⟨_, rfl⟩
  have HO3 : Hid (OpBoxAt go (K : Int) 0 0 0 0 0 0 0 none 0 0 W3) := hid (by rw [hW3, hgo]; exact heap_alloc_new w2 _)
  have hb3 : Below w2.heap.size w2 W3 := by rw [hW3]; exact (Below.refl _ _).alloc (Nat.le_refl _) _
  have HP3 := hid (HP2.out.below hb3)
  have hB3 := bnext hB2 hb3
  have z3 : go < W3.heap.size := by rw [hW3, hgo]; simp
  have zg : w.heap.size + 2 ≤ go := by omega
  rw [← hW3, ← hgo]
  clear hW3 hgo hb3 hB2 z2 HP2 y0 y1
  obtain ⟨y0, y1⟩ := HP3.out.two
  have m1 : (0 : Int) ≤ (M : Int) := by omega
  have m2 : (M : Int) ≤ 4 := by omega
  go_upto_if 36 with fail
  go_cut [10] (fun t wi => t = .int .i64 ((h + 2 * M : Nat) : Int) ∧ wi = W3)
  case first =>
    cases I with
    | false =>
      have e := Hh.out
      simp at e
      subst e
      go_wp2_with fail
      go_meet
      exact ⟨by go_num, rfl⟩
    | true =>
      have e := Hh.out
      simp at e
      subst e
      go_wp2_with fail
      go_meet
      exact ⟨by go_num, rfl⟩
  case rest =>
    obtain ⟨rfl, rfl⟩ := hcut
    have hsz : (strOf D).size = D.length := strOf_size D
    have HSZ := hid hsz
    clear hsz
    obtain ⟨E, hE⟩ : ∃ E, h + 2 * M = E := ⟨_, rfl⟩
    rw [hE] at HLEN HOF ⊢
    have HE := hid hE
    clear hE
    have hV4 : ∀ W, opOf N D = (noOp, 4) → Below w.heap.size w W → RetOpE (opOf N D) w (.returned (.tuple #[.agg #[.int .i64 0, .int .i64 0, .int .i64 0, .int .i64 0, .int .i64 0, .int .i64 0, .int .i64 0, .int .i64 0, .slice none 0 0], .iface 63 (.int .i64 4)])) W := fun W h1 h2 => retOpE_bad h1 (by decide) h2
    have HV4 := hid hV4
    clear hV4
    by_cases hs : D.length < E
    · have hV := hid (HLEN.out (Or.inl hs))
      have s1 : ((strOf D).size : Int) < (E : Int) := by rw [HSZ.out]; omega
      clear hs
      obtain ⟨⟨x0, x1, x2, x3, x4, x5, x6, x7, x8⟩, ⟨f0, f1, f2, f3, f4, f5, f6, f7, f8⟩⟩ := HP3.out.res
      go_wp2_with fail
      refine bodyPost_ret (v := .tuple #[.agg #[.int .i64 0, .int .i64 0, .int .i64 0, .int .i64 0, .int .i64 0, .int .i64 0, .int .i64 0, .int .i64 0, .slice none 0 0], .iface 63 (.int .i64 4)]) (by simp [results, Tryd.results22, go_sem, x0, x1, x2, x3, x4, x5, x6, x7, x8]) rfl ?_
      exact HV4.out _ hV.out (by (repeat (first | with_reducible exact hB3 | with_reducible refine Below.setCell ?_ (by show w.heap.size ≤ w.heap.size + 1; omega) _)))
    have s1 : ¬ ((strOf D).size : Int) < (E : Int) := by rw [HSZ.out]; omega
    by_cases hl : P = false ∧ E < D.length
    · have hV := hid (HLEN.out (Or.inr hl))
      obtain ⟨rfl, hl⟩ := hl
      have s2 : (E : Int) < ((strOf D).size : Int) := by rw [HSZ.out]; omega
      clear hl hs
      obtain ⟨⟨x0, x1, x2, x3, x4, x5, x6, x7, x8⟩, ⟨f0, f1, f2, f3, f4, f5, f6, f7, f8⟩⟩ := HP3.out.res
      go_wp2_with fail
      refine bodyPost_ret (v := .tuple #[.agg #[.int .i64 0, .int .i64 0, .int .i64 0, .int .i64 0, .int .i64 0, .int .i64 0, .int .i64 0, .int .i64 0, .slice none 0 0], .iface 63 (.int .i64 4)]) (by simp [results, Tryd.results22, go_sem, x0, x1, x2, x3, x4, x5, x6, x7, x8]) rfl ?_
      exact HV4.out _ hV.out (by (repeat (first | with_reducible exact hB3 | with_reducible refine Below.setCell ?_ (by show w.heap.size ≤ w.heap.size + 1; omega) _)))
    go_upto_region 10 with fail
    go_cut [52] (fun t wi => t = .bool false ∧ wi = wc)
    case first =>
      cases P with
      | true =>
        go_wp2_with fail
        go_meet
        exact ⟨rfl, rfl⟩
      | false =>
        have s2 : ¬ (E : Int) < ((strOf D).size : Int) := by rw [HSZ.out]; intro h9; exact hl ⟨rfl, by omega⟩
        go_wp2_with fail
        go_meet
        exact ⟨rfl, rfl⟩
    case rest =>
      obtain ⟨rfl, rfl⟩ := hcut
      have Hs := hid hs
      have HL2 := hid hl
      have HOF2 := hid (HOF (fun hc => hc.elim hs hl))
      clear HOF HLEN hs hl s1
      go_upto_if 55 with fail
      have HO4 := hid HO3.out
      have hgz : go < wc.heap.size := z3
      go_cut [9] (fun t wi => t = .string (strOf (D.drop h)) ∧ Hid (OpBoxAt go (K : Int) (if I = true then ((D.getD 0 0).toNat : Int) else 0) 0 0 0 0 0 0 none 0 0 wi) ∧ Hid (PaBox w.heap.size N D wi) ∧ Hid (Below w.heap.size w wi) ∧ go < wi.heap.size)
      case first =>
        cases I with
        | false =>
          have e := Hh.out
          simp at e
          subst e
          go_wp2_with fail
          go_meet
          exact ⟨rfl, HO4, HP3, hid hB3, hgz⟩
        | true =>
          have e := Hh.out
          simp at e
          subst e
          have hDl : 1 ≤ D.length := by have e1 := Hs.out; have e2 := HE.out; omega
          obtain ⟨d0, D1, rfl⟩ : ∃ d0 D1, D = d0 :: D1 := by
            cases D with
            | nil => simp at hDl
            | cons d0 D1 => exact ⟨d0, D1, rfl⟩
          have i0 : (0 : Int) < ((strOf (d0 :: D1)).size : Int) := by rw [HSZ.out]; omega
          have i5 : 0 < (strOf (d0 :: D1)).size := by rw [HSZ.out]; omega
          have hg0 : (strOf (d0 :: D1))[0]'i5 = d0 := rfl
          have i6 : (1 : Int) ≤ ((strOf (d0 :: D1)).size : Int) := by rw [HSZ.out]; omega
          obtain ⟨o0, o1, o2, o3, o4, o5, o6, o7, o8⟩ := HO4.out.cells
          have g1 := opblk_free HO4.out 1
          have hex : (strOf (d0 :: D1)).extract 1 (strOf (d0 :: D1)).size = strOf D1 := by
            rw [extract_strOf, HSZ.out]; simp
          go_wp2_with fail
          go_meet
          have hw : wrap64 (d0.toNat : Int) = (d0.toNat : Int) := IntWalk.wrap64_in _ (by have := UInt8.toNat_lt d0; omega)
          rw [hw]
          refine ⟨rfl, hid ?_, hid (HP3.out.set zg), hid (hB3.setCell (by show w.heap.size ≤ go; omega) _), by simpa using hgz⟩
          have := HO4.out.set1 (d0.toNat : Int)
          simpa using this
      case rest =>
        obtain ⟨rfl, HO5, HP5, HB5, hgz5⟩ := hcut
        obtain ⟨IDV, hIDV⟩ : ∃ X, (if I = true then ((D.getD 0 0).toNat : Int) else 0) = X := ⟨_, rfl⟩
        rw [hIDV] at HO5
        have HIDV := hid hIDV
        clear hIDV
        obtain ⟨S, hS⟩ : ∃ S, D.drop h = S := ⟨_, rfl⟩
        have HS := hid hS
        have HSl := hid (show 2 * M ≤ S.length by rw [← hS, List.length_drop]; have e1 := Hs.out; have e2 := HE.out; omega)
        rw [hS]
        clear hS HO4 HP3 HO3 hgz
        go_wp2_with fail
        obtain ⟨W6, hW6⟩ : ∃ W6, W6 = wc.alloc (.cells #[.pointer (some ⟨go, 2, none⟩), .pointer (some ⟨go, 3, none⟩), .pointer (some ⟨go, 4, none⟩), .pointer (some ⟨go, 5, none⟩)] 95) := ⟨_, rfl⟩
        obtain ⟨pb, hpb⟩ : ∃ g, g = wc.heap.size := ⟨_, rfl⟩
        have HPB6 : Hid (W6.heap[pb]? = some (.cells #[.pointer (some ⟨go, 2, none⟩), .pointer (some ⟨go, 3, none⟩), .pointer (some ⟨go, 4, none⟩), .pointer (some ⟨go, 5, none⟩)] 95)) := hid (by rw [hW6, hpb]; exact heap_alloc_new wc _)
        have hb6 : Below wc.heap.size wc W6 := by rw [hW6]; exact (Below.refl _ _).alloc (Nat.le_refl _) _
        have HO6 : Hid (OpBoxAt go (K : Int) IDV (nv S 0 0) (nv S 0 1) (nv S 0 2) (nv S 0 3) 0 0 none 0 0 W6) := hid (blk_keep HO5.out hb6)
        have HP6 := hid (HP5.out.below hb6)
        have HB6 := hid (bnext HB5.out hb6)
        have hpg : pb ≠ go := by omega
        have hpz : w.heap.size + 2 ≤ pb := by omega
        rw [← hW6, ← hpb]
        clear hW6 hpb hb6 HO5 HP5 HB5
        go_loopw [70] (fun iv wr => ∃ i : Nat, i ≤ M ∧ iv = .int .i64 i ∧ Hid (wr.heap[pb]? = some (.cells #[.pointer (some ⟨go, 2, none⟩), .pointer (some ⟨go, 3, none⟩), .pointer (some ⟨go, 4, none⟩), .pointer (some ⟨go, 5, none⟩)] 95)) ∧ Hid (OpBoxAt go (K : Int) IDV (nv S i 0) (nv S i 1) (nv S i 2) (nv S i 3) 0 0 none 0 0 wr) ∧ Hid (PaBox w.heap.size N D wr) ∧ Hid (Below w.heap.size w wr)) (fun iv _ => M - (intOf iv).toNat)
        case atStart => exact ⟨0, by omega, rfl, HPB6, HO6, HP6, HB6⟩
        case round =>
          obtain ⟨i, hi, rfl, HPB, HO, HP, HB⟩ := hrel
          by_cases hlt : i < M
          · have hsl : (strOf S).size = S.length := strOf_size S
            have q2 : (i : Int) < (M : Int) := by omega
            have hSl := HSl.out
            rcases (show i = 0 ∨ i = 1 ∨ i = 2 ∨ i = 3 by omega) with rfl | rfl | rfl | rfl
            · have k0 : 0 < (strOf S).size := by omega
              have k1 : 1 < (strOf S).size := by omega
              have e0 := get_byte (strOf S) 0 k0
              have e1 := get_byte (strOf S) 1 k1
              rw [strOf_data'] at e0 e1
              have hnv : nv S 1 0 = ((S.getD 0 0).toNat : Int) + 256 * ((S.getD 1 0).toNat : Int) - 128 := by unfold nv numAt; rfl
              obtain ⟨b0, hb0⟩ : ∃ b, S.getD 0 0 = b := ⟨_, rfl⟩
              obtain ⟨b1, hb1⟩ : ∃ b, S.getD 1 0 = b := ⟨_, rfl⟩
              rw [hb0] at e0 hnv
              rw [hb1] at e1 hnv
              have e0' := e0.symm
              have e1' := e1.symm
              have l0 := UInt8.toNat_lt b0
              have l1 := UInt8.toNat_lt b1
              have j0 : (0 : Int) < ((strOf S).size : Int) := by omega
              have j1 : (1 : Int) < ((strOf S).size : Int) := by omega
              have p0 := opblk_cell HPB.out 0 _ rfl
              obtain ⟨o0, o1, o2, o3, o4, o5, o6, o7, o8⟩ := HO.out.cells
              have fz := opblk_free HO.out 2
              have HNV := hid hnv
              clear e0 e1 hb0 hb1 hnv hsl hSl
              go_wp2_with fail
              go_region
              all_goals
                go_wp2_with fail
                go_roundw
                case rel =>
                  refine ⟨1, by omega, by go_num, hid (blk_set HPB.out (by omega)), hid ?_, hid (HP.out.set zg), hid ((HB.out.setCell (by show w.heap.size ≤ go; omega) _).drew)⟩
                  rw [HNV.out]
                  exact HO.out.set2 _
                case measure => simp [intOf]; omega
            · have k0 : 2 < (strOf S).size := by omega
              have k1 : 3 < (strOf S).size := by omega
              have e0 := get_byte (strOf S) 2 k0
              have e1 := get_byte (strOf S) 3 k1
              rw [strOf_data'] at e0 e1
              have hnv : nv S 2 1 = ((S.getD 2 0).toNat : Int) + 256 * ((S.getD 3 0).toNat : Int) - 128 := by unfold nv numAt; rfl
              obtain ⟨b0, hb0⟩ : ∃ b, S.getD 2 0 = b := ⟨_, rfl⟩
              obtain ⟨b1, hb1⟩ : ∃ b, S.getD 3 0 = b := ⟨_, rfl⟩
              rw [hb0] at e0 hnv
              rw [hb1] at e1 hnv
              have e0' := e0.symm
              have e1' := e1.symm
              have l0 := UInt8.toNat_lt b0
              have l1 := UInt8.toNat_lt b1
              have j0 : (2 : Int) < ((strOf S).size : Int) := by omega
              have j1 : (3 : Int) < ((strOf S).size : Int) := by omega
              have p0 := opblk_cell HPB.out 1 _ rfl
              obtain ⟨o0, o1, o2, o3, o4, o5, o6, o7, o8⟩ := HO.out.cells
              have fz := opblk_free HO.out 3
              have HNV := hid hnv
              clear e0 e1 hb0 hb1 hnv hsl hSl
              go_wp2_with fail
              go_region
              all_goals
                go_wp2_with fail
                go_roundw
                case rel =>
                  refine ⟨2, by omega, by go_num, hid (blk_set HPB.out (by omega)), hid ?_, hid (HP.out.set zg), hid ((HB.out.setCell (by show w.heap.size ≤ go; omega) _).drew)⟩
                  rw [HNV.out]
                  exact HO.out.set3 _
                case measure => simp [intOf]; omega
            · have k0 : 4 < (strOf S).size := by omega
              have k1 : 5 < (strOf S).size := by omega
              have e0 := get_byte (strOf S) 4 k0
              have e1 := get_byte (strOf S) 5 k1
              rw [strOf_data'] at e0 e1
              have hnv : nv S 3 2 = ((S.getD 4 0).toNat : Int) + 256 * ((S.getD 5 0).toNat : Int) - 128 := by unfold nv numAt; rfl
              obtain ⟨b0, hb0⟩ : ∃ b, S.getD 4 0 = b := ⟨_, rfl⟩
              obtain ⟨b1, hb1⟩ : ∃ b, S.getD 5 0 = b := ⟨_, rfl⟩
              rw [hb0] at e0 hnv
              rw [hb1] at e1 hnv
              have e0' := e0.symm
              have e1' := e1.symm
              have l0 := UInt8.toNat_lt b0
              have l1 := UInt8.toNat_lt b1
              have j0 : (4 : Int) < ((strOf S).size : Int) := by omega
              have j1 : (5 : Int) < ((strOf S).size : Int) := by omega
              have p0 := opblk_cell HPB.out 2 _ rfl
              obtain ⟨o0, o1, o2, o3, o4, o5, o6, o7, o8⟩ := HO.out.cells
              have fz := opblk_free HO.out 4
              have HNV := hid hnv
              clear e0 e1 hb0 hb1 hnv hsl hSl
              go_wp2_with fail
              go_region
              all_goals
                go_wp2_with fail
                go_roundw
                case rel =>
                  refine ⟨3, by omega, by go_num, hid (blk_set HPB.out (by omega)), hid ?_, hid (HP.out.set zg), hid ((HB.out.setCell (by show w.heap.size ≤ go; omega) _).drew)⟩
                  rw [HNV.out]
                  exact HO.out.set4 _
                case measure => simp [intOf]; omega
            · have k0 : 6 < (strOf S).size := by omega
              have k1 : 7 < (strOf S).size := by omega
              have e0 := get_byte (strOf S) 6 k0
              have e1 := get_byte (strOf S) 7 k1
              rw [strOf_data'] at e0 e1
              have hnv : nv S 4 3 = ((S.getD 6 0).toNat : Int) + 256 * ((S.getD 7 0).toNat : Int) - 128 := by unfold nv numAt; rfl
              obtain ⟨b0, hb0⟩ : ∃ b, S.getD 6 0 = b := ⟨_, rfl⟩
              obtain ⟨b1, hb1⟩ : ∃ b, S.getD 7 0 = b := ⟨_, rfl⟩
              rw [hb0] at e0 hnv
              rw [hb1] at e1 hnv
              have e0' := e0.symm
              have e1' := e1.symm
              have l0 := UInt8.toNat_lt b0
              have l1 := UInt8.toNat_lt b1
              have j0 : (6 : Int) < ((strOf S).size : Int) := by omega
              have j1 : (7 : Int) < ((strOf S).size : Int) := by omega
              have p0 := opblk_cell HPB.out 3 _ rfl
              obtain ⟨o0, o1, o2, o3, o4, o5, o6, o7, o8⟩ := HO.out.cells
              have fz := opblk_free HO.out 5
              have HNV := hid hnv
              clear e0 e1 hb0 hb1 hnv hsl hSl
              go_wp2_with fail
              go_region
              all_goals
                go_wp2_with fail
                go_roundw
                case rel =>
                  refine ⟨4, by omega, by go_num, hid (blk_set HPB.out (by omega)), hid ?_, hid (HP.out.set zg), hid ((HB.out.setCell (by show w.heap.size ≤ go; omega) _).drew)⟩
                  rw [HNV.out]
                  exact HO.out.set5 _
                case measure => simp [intOf]; omega
          · obtain rfl : i = M := by omega
            have hrd : opRead (K : Int) D = ⟨K, IDV, nv S i 0, nv S i 1, nv S i 2, nv S i 3, ⟨0, 0, []⟩⟩ := by
              unfold opRead nv
              rw [HI.out, HM.out, HH.out, HIDV.out, ← HS.out, numAt_drop, numAt_drop, numAt_drop, numAt_drop]
            have hdr : D.drop E = S.drop (2 * i) := by rw [← HS.out, List.drop_drop, HE.out]
            have HOF3 := HOF2.out
            rw [hrd, hdr] at HOF3
            obtain ⟨q0, hq0⟩ : ∃ q, nv S i 0 = q := ⟨_, rfl⟩
            obtain ⟨q1, hq1⟩ : ∃ q, nv S i 1 = q := ⟨_, rfl⟩
            obtain ⟨q2, hq2⟩ : ∃ q, nv S i 2 = q := ⟨_, rfl⟩
            obtain ⟨q3, hq3⟩ : ∃ q, nv S i 3 = q := ⟨_, rfl⟩
            rw [hq0, hq1, hq2, hq3] at HOF3 HO
            have HF := hid HOF3
            clear hrd hdr HOF3 HOF2 hq0 hq1 hq2 hq3 hlt
            go_upto_if 92 with fail
            go_cut [14] (fun _ wi => ∃ (pic : FPic) (A : Option Addr) (c : Nat), Hid (OpBoxAt go (K : Int) IDV q0 q1 q2 q3 pic.w pic.h A pic.p.length c wi) ∧ Hid (Pixs wi A pic.p.length pic.p) ∧ Hid (PaBox w.heap.size N D wi) ∧ Hid (Below w.heap.size w wi) ∧ Hid (∀ a, A = some a → w.heap.size + 2 ≤ a.block) ∧ Hid (opOf N D = opEnd ⟨K, IDV, q0, q1, q2, q3, pic⟩) ∧ Hid (pic.p.length ≤ 100))
            case first =>
              cases P with
              | false =>
                have hF := HF.out
                simp at hF
                go_wp2_with fail
                go_meet
                exact ⟨⟨0, 0, []⟩, none, 0, HO, hid (pixs_none _ _), HP, HB, hid (fun a ha => by simp at ha), hid hF, hid (by simp)⟩
              | true =>
                have hF := HF.out
                rw [if_pos (by first | exact rfl | trivial)] at hF
                have HF2 := hid hF
                clear hF
                have hsl : (strOf S).size = S.length := strOf_size S
                have hSl := HSl.out
                have j0 : (0 : Int) ≤ 2 * (i : Int) := by omega
                have j1 : 2 * (i : Int) ≤ ((strOf S).size : Int) := by omega
                have hex : (strOf S).extract (2 * i) (strOf S).size = strOf (S.drop (2 * i)) := by
                  rw [extract_strOf, hsl, List.take_of_length_le (Nat.le_refl _)]
                have htn : (2 * (i : Int)).toNat = 2 * i := by omega
                have hXl : (strOf (S.drop (2 * i))).size ≤ 10000 := by
                  have e1 := HDl.out
                  have e2 : S.length ≤ D.length := by rw [← HS.out, List.length_drop]; omega
                  rw [strOf_size, List.length_drop]; omega
                have HXl := hid hXl
                clear hsl hSl hXl
                go_wp2_with fail
                refine (parse_any (strOf (S.drop (2 * i))) wr HXl.out).mono ?_
                rintro e w9 ⟨A, c, rfl, hpx, hal, hb9⟩
                rw [strOf_data'] at hpx ⊢
                have hpsm := picOf_sm (s := S.drop (2 * i))
                obtain ⟨⟨⟨pw, ph, pl⟩, F⟩, hX⟩ : ∃ X, picOf (S.drop (2 * i)) = X := ⟨_, rfl⟩
                rw [hX] at hpx hpsm ⊢
                have HF3 := HF2.out
                rw [hX] at HF3
                simp only at hpx hpsm HF3 ⊢
                have HF4 := hid HF3
                have HPX := hid hpx
                have HSM := hid hpsm
                have HAL := hid hal
                have HO9 := hid (blk_keep HO.out hb9)
                have HP9 := hid (HP.out.below hb9)
                have HB9 := hid (bnext HB.out hb9)
                have hgz9 : go < w9.heap.size := (Array.getElem?_eq_some_iff.1 HO9.out).1
                have hgw : go < wr.heap.size := (Array.getElem?_eq_some_iff.1 HO.out).1
                clear hX hpx hpsm hal HF3 HF2 HF HO HP HB HPB hb9 j0 j1 hex htn
                by_cases hf : F = 0
                · subst hf
                  have hof := HF4.out
                  rw [if_pos rfl] at hof
                  have HOF9 := hid hof
                  clear hof HF4
                  rw [errV_zero]
                  obtain ⟨o0, o1, o2, o3, o4, o5, o6, o7, o8⟩ := OpBoxAt.cells HO9.out
                  have f6 := opblk_free HO9.out 6
                  have f7 := opblk_free HO9.out 7
                  have f8 := opblk_free HO9.out 8
                  go_wp2_with fail
                  go_meet
                  have hne : ∀ a, A = some a → a.block ≠ go := fun a ha => by have := HAL.out a ha; omega
                  have hb := HB9.out.size
                  have b3 : Below w.heap.size w (((w9.setCell ⟨go, 6, none⟩ (.int .i64 pw)).setCell ⟨go, 7, none⟩ (.int .i64 ph)).setCell ⟨go, 8, none⟩ (.slice A pl.length c)) := ((HB9.out.setCell (by show w.heap.size ≤ go; omega) _).setCell (by show w.heap.size ≤ go; omega) _).setCell (by show w.heap.size ≤ go; omega) _
                  refine ⟨⟨pw, ph, pl⟩, A, c, hid ((heap_alloc_old _ _ (by simpa using hgz9)).trans (OpBoxAt.setPic HO9.out pw ph A pl.length c)), hid ((pixs_set (pixs_set (pixs_set HPX.out hne) hne) hne).below ((Below.refl _ _).alloc (Nat.le_refl _) _)), hid ((((HP9.out.set zg).set zg).set zg).below ((Below.refl _ _).alloc (Nat.le_refl _) _)), hid (b3.alloc (by simp; omega) _), hid (fun a ha => by have := HAL.out a ha; omega), HOF9, HSM⟩
                · have hof := HF4.out
                  rw [if_neg hf] at hof
                  have HOF9 := hid hof
                  have Hf := hid hf
                  rw [errV_pos hf]
                  clear hof HF4 hf
                  have hz9 : w.heap.size + 1 < w9.heap.size := by omega
                  have hz8 : w.heap.size < w9.heap.size := by omega
                  obtain ⟨⟨x0, x1, x2, x3, x4, x5, x6, x7, x8⟩, ⟨f0, f1, f2, f3, f4, f5, f6, f7, f8⟩⟩ := HP9.out.res
                  go_wp2_with fail
                  refine bodyPost_ret (v := .tuple #[.agg #[.int .i64 0, .int .i64 0, .int .i64 0, .int .i64 0, .int .i64 0, .int .i64 0, .int .i64 0, .int .i64 0, .slice none 0 0], .iface 63 (.int .i64 F)]) (by simp [results, Tryd.results22, go_sem, hz8, hz9, x0, x1, x2, x3, x4, x5, x6, x7, x8]) rfl ?_
                  exact retOpE_bad HOF9.out Hf.out (by (repeat (first | with_reducible exact HB9.out | with_reducible refine Below.alloc ?_ (by have := HB9.out.size; first | omega | (simp; omega)) _ | with_reducible refine Below.setCell ?_ (by show w.heap.size ≤ w.heap.size + 1; omega) _)))
            case rest =>
              obtain ⟨⟨pw, ph, pl⟩, A, c, HOb, HPx, HPa, HBe, HAl, HOf, Hsm⟩ := hcut
              simp only at HOb HPx HAl HOf Hsm
              obtain ⟨o0, o1, o2, o3, o4, o5, o6, o7, o8⟩ := HOb.out.cells
              go_wp2_with fail
              refine (opcheck_any ⟨⟨(K : Int), IDV, q0, q1, q2, q3, ⟨pw, ph, pl⟩⟩, A, pl.length, c⟩ _ HPx.out Hsm.out).mono ?_
              rintro e w9 ⟨rfl, hb9⟩
              have HOb9 := hid (blk_keep HOb.out hb9)
              have HPx9 := hid (HPx.out.below hb9)
              have HPa9 := hid (HPa.out.below hb9)
              have HBe9 := hid (bnext HBe.out hb9)
              have HAl' := hid (fun (a : Addr) (ha : A = some a) => (show a.block ≠ w.heap.size + 1 by have := HAl.out a ha; omega))
              clear o0 o1 o2 o3 o4 o5 o6 o7 o8 HOb HPx HPa HBe hb9
              obtain ⟨⟨x0, x1, x2, x3, x4, x5, x6, x7, x8⟩, ⟨f0, f1, f2, f3, f4, f5, f6, f7, f8⟩⟩ := HPa9.out.res
              by_cases hf : opFault ⟨(K : Int), IDV, q0, q1, q2, q3, ⟨pw, ph, pl⟩⟩ = 0
              · have hR := hid (show opOf N D = (⟨(K : Int), IDV, q0, q1, q2, q3, ⟨pw, ph, pl⟩⟩, 0) by rw [HOf.out]; unfold opEnd; rw [if_pos hf])
                rw [hf, errV_zero]
                clear hf
                obtain ⟨o0, o1, o2, o3, o4, o5, o6, o7, o8⟩ := OpBoxAt.cells HOb9.out
                go_wp2_with fail
                refine bodyPost_ret (v := .tuple #[.agg #[.int .i64 (K : Int), .int .i64 IDV, .int .i64 q0, .int .i64 q1, .int .i64 q2, .int .i64 q3, .int .i64 pw, .int .i64 ph, .slice A pl.length c], .nilIface]) (by simp [results, Tryd.results22, go_sem, x0, x1, x2, x3, x4, x5, x6, x7, x8]) rfl ?_
                rw [hR.out]
                refine ⟨A, c, rfl, ?_, fun a ha => by have := HAl.out a ha; omega, by (repeat (first | with_reducible exact HBe9.out | with_reducible refine Below.setCell ?_ (by show w.heap.size ≤ w.heap.size + 1; omega) _))⟩
                show Pixs _ A pl.length pl
                repeat (first | with_reducible exact HPx9.out | with_reducible refine pixs_set ?_ HAl'.out)
              · have hR := hid (show opOf N D = (noOp, opFault ⟨(K : Int), IDV, q0, q1, q2, q3, ⟨pw, ph, pl⟩⟩) by rw [HOf.out]; unfold opEnd; rw [if_neg hf])
                rw [errV_pos hf]
                have Hf := hid hf
                clear hf
                generalize opFault ⟨(K : Int), IDV, q0, q1, q2, q3, ⟨pw, ph, pl⟩⟩ = F at *
                go_wp2_with fail
                refine bodyPost_ret (v := .tuple #[.agg #[.int .i64 0, .int .i64 0, .int .i64 0, .int .i64 0, .int .i64 0, .int .i64 0, .int .i64 0, .int .i64 0, .slice none 0 0], .iface 63 (.int .i64 F)]) (by simp [results, Tryd.results22, go_sem, x0, x1, x2, x3, x4, x5, x6, x7, x8]) rfl ?_
                exact retOpE_bad hR.out Hf.out (by (repeat (first | with_reducible exact HBe9.out | with_reducible refine Below.setCell ?_ (by show w.heap.size ≤ w.heap.size + 1; omega) _)))
end Fb
