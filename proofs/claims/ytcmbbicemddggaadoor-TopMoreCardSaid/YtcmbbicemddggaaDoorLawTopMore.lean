/- The law TopMore: it returns true. Conditions: the variable holds the names (by the row), and the arguments' shape. -/
import Derived.Test.YtcmbbicemddggaaDoorMachAll
import Derived.Test.YtcmbbicemddggaaDoorBookBytesW
import Derived.Test.YtcmbbicemddggaaDoorBookParseW
import Derived.Test.YtcmbbicemddggaaDoorBookBack
import Derived.Test.YtcmbbicemddggaaDoorBookCloseW
import Derived.Test.YtcmbbicemddggaaDoorOpen2
import Derived.Test.YtcmbbicemddggaaDoorRows
import Derived.Laws.BitsAllLaws
import Derived.Laws.BitsLemmas
set_option linter.unusedSimpArgs false
set_option linter.unusedVariables false
namespace Fb
open Go Go.Proofs Go.RowKit Go.Sort Go.Maps
attribute [local go_sem ↓] Go.wp_at_zero Go.wp_at_succ
/-- the row's condition: the variable holds the names -/
theorem names_laid {W : World} (h : laidMetH Tryd.prog Go.Proofs.YtcmbbicemddggaaDoor.Rows.topMoreRow.laid W) : NamesAt 0 W := by
  rw [MakeChecks.laidMetH_plain _ _ _ (by kernel_rfl)] at h
  obtain ⟨ps, ⟨g0, t0, cs0, f0, p0, q0, hg0, ht0, hv0, hd0, -⟩, -, -⟩ := h
  obtain rfl := Option.some.inj ((show Tryd.prog.globalNamed "flickerbook/op.names" = some 0 by kernel_rfl).symm.trans hg0)
  obtain rfl := Option.some.inj ((show (Tryd.prog.globals[0]?).map (·.type) = some 86 by kernel_rfl).symm.trans ht0)
  exact namesAt_of (fun _ => rfl) hg0 Tryd.underlying86 Tryd.underlying9 (by kernel_rfl) hv0 hd0
theorem weights_tail {H : Type} {P : Program} {t : TypeId} {ts : List TypeId} {d : DataW H} {ds : List (DataW H)} (h : (DataW.weightsEach P (t :: ts) (d :: ds)).all (· ≤ reachBytes) = true) : (d.weights P t).all (· ≤ reachBytes) = true ∧ (DataW.weightsEach P ts ds).all (· ≤ reachBytes) = true := by
  simp only [DataW.weightsEach, List.all_append, Bool.and_eq_true] at h
  exact h
theorem weights_str {H : Type} {P : Program} {t : TypeId} {b : List UInt8} (h : ((DataW.lit (.string b) : DataW H).weights P t).all (· ≤ reachBytes) = true) : b.length ≤ reachBytes := by
  simpa [DataW.weights] using h
theorem and_1023 (a : Int) : ∃ j : Nat, j ≤ 1023 ∧ bits .and .i64 a 1023 = (j : Int) := by
  refine ⟨(BitVec.ofInt 64 a &&& BitVec.ofInt 64 1023).toNat, ?_, ?_⟩
  · rw [BitVec.toNat_and]
    exact Nat.le_trans Nat.and_le_right (by decide)
  · have h : (BitVec.ofInt 64 a &&& BitVec.ofInt 64 1023).toNat ≤ 1023 := by
      rw [BitVec.toNat_and]
      exact Nat.le_trans Nat.and_le_right (by decide)
    show IntKind.i64.wrap ((BitVec.ofInt 64 a &&& BitVec.ofInt 64 1023).toNat : Int) = _
    rw [IntKind.wrap_i64]
    omega
theorem chunkV_fine {n d : Bs} (h : chunkF n d = 0) : chunkV n d = .tuple #[.string (strOf (chunkS n d)), .nilIface] := by
  unfold chunkV; rw [h, chunkB_ok h, errV_zero]
theorem firstV_chunk {n d r : Bs} (h : chunkF n d = 0) : firstV (chunkS n d ++ r) = .tuple #[.agg #[.string (strOf n), .string (strOf d)], .string (strOf r), .nilIface] := by
  obtain ⟨h1, h2⟩ := chunkF_zero h
  unfold firstV
  rw [firstF_chunk h1 h2, firstA_chunk h1 h2, firstD_chunk h1 h2, firstR_chunk h1 h2, errV_zero]
/-! ## the bytes of a book, parted behind j chunks -/
def preB (l : List FOp) (j : Nat) : Bs := catL (chunksOf (l.take j))
def sufB (l : List FOp) (j : Nat) : Bs := catL (chunksOf (l.drop j))
theorem part_all (l : List FOp) (j : Nat) : toldB l l.length = preB l j ++ sufB l j := by
  rw [toldB_all, told_cat]
  unfold preB sufB catL chunksOf
  rw [← List.flatMap_append, ← List.map_append, List.take_append_drop]
theorem suf_succ {l : List FOp} {j : Nat} (h : j < l.length) : sufB l j = chunkS (opName l[j].kind) (opData l[j]) ++ sufB l (j + 1) := by
  unfold sufB
  rw [List.drop_eq_getElem_cons h]
  rfl
theorem pre_succ {l : List FOp} {j : Nat} (h : j < l.length) : preB l (j + 1) = preB l j ++ chunkS (opName l[j].kind) (opData l[j]) := by
  unfold preB chunksOf
  rw [List.take_succ_eq_append_getElem h, List.map_append]
  exact catL_snoc _ _
theorem pre_zero (l : List FOp) : preB l 0 = [] := rfl
theorem suf_zero (l : List FOp) : sufB l 0 = toldB l l.length := by rw [part_all l 0, pre_zero, List.nil_append]
theorem more_back {l : List FOp} (hf : BookFine l) (k : Nat) {n d : Bs} (hc : chunkF (88 :: n) d = 0) (hlen : (preB l k ++ chunkS (88 :: n) d ++ sufB l k).length ≤ 4000) : bookOf (preB l k ++ chunkS (88 :: n) d ++ sufB l k) = (l, 0) := by
  have e : catL [((88 :: n : Bs), d)] = chunkS (88 :: n) d := by simp [catL]
  have h := book_more hf k [((88 :: n : Bs), d)] (fun p hp => by simp at hp; subst hp; exact chunkF_zero hc) (by simp) (fun c hc => by simp at hc; subst hc; rfl)
  rw [e] at h
  exact h hlen
set_option maxRecDepth 100000 in
set_option maxHeartbeats 16000000 in
theorem topMore_walk (A : Option Addr) (n c : Nat) (rs : List (FAt FOp)) (N D : Bs) (at_ : Int) (w : World) (hl : Ops w A n rs) (hn : n ≤ maxLen) (hNs : N.length ≤ 0x7ffffffff000) (hDs : D.length ≤ 0x7ffffffff000) (hN : NamesAt 0 w) :
    Calls Tryd.prog 4 #[.slice A n c, .string (strOf N), .string (strOf D), .int .i64 at_] w (Ret (.bool true) w) := by
  have HL := hid hl
  have HN := hid hN
  have hlen := hl.1
  have sN := strOf_size N
  have sD := strOf_size D
  clear hl hN
  go_enter Tryd.func4, Tryd.ntmps4
  go_wp2_with fail
  refine (mworks_any w).mono ?_
  rintro e w1 ⟨rfl, hb1⟩
  go_wp2_with fail
  refine (mmay_any A n c rs w1 (HL.out.below hb1) hn).mono ?_
  rintro e w2 ⟨rfl, hb2⟩
  have hB2 := bnext hb1 hb2
  clear hb2 hb1
  by_cases hm : mayB n rs = true
  case neg =>
    rw [show mayB n rs = false by simpa using hm]
    go_wp2_with fail
    go_ret
    exact ⟨rfl, hB2⟩
  rw [hm]
  obtain ⟨m1, m2, m3⟩ := may_iff.1 hm
  have hbf := book_fine m3
  have HS := hid (light_small m2)
  clear m2 hm
  by_cases h100 : 100 < D.length
  · have i1 : (100 : Int) < (D.length : Int) := by omega
    go_wp2_with fail
    go_ret
    exact ⟨rfl, hB2⟩
  have i1 : ¬ (100 : Int) < (D.length : Int) := by omega
  have hcat : (⟨#[88]⟩ : ByteArray) ++ strOf N = strOf (88 :: N) := strOf_append [88] N
  have hcz : (⟨#[88]⟩ : ByteArray).size + (strOf N).size ≤ 1000000000000000 := by rw [sN]; show 1 + N.length ≤ _; omega
  have C1 := hid (cbytes_any (88 :: N) D w2 (by simp; unfold maxLen; omega) (by unfold maxLen; omega))
  go_wp2_with fail
  refine C1.out.mono ?_
  rintro e w3 ⟨rfl, hb3⟩
  have hB3 := bnext hB2 hb3
  clear C1 hb3 hB2 hcz hcat
  by_cases hc : chunkF (88 :: N) D = 0
  case neg =>
    rw [chunkV_bad rfl hc]
    obtain ⟨F, hF⟩ : ∃ F, chunkF (88 :: N) D = F := ⟨_, rfl⟩
    rw [hF] at hc ⊢
    rw [errV_pos hc]
    clear hF
    go_wp2_with fail
    go_ret
    exact ⟨rfl, hB3⟩
  rw [chunkV_fine hc]
  have hXl := chunkS_len (d := D) (chunkF_zero hc).1
  have HBM := hid (fun k h => more_back hbf k hc h)
  obtain ⟨X, hX⟩ : ∃ X, chunkS (88 :: N) D = X := ⟨_, rfl⟩
  rw [hX] at hXl ⊢
  have HBM' : Hid (∀ k, (preB (datO rs) k ++ X ++ sufB (datO rs) k).length ≤ 4000 → bookOf (preB (datO rs) k ++ X ++ sufB (datO rs) k) = (datO rs, 0)) := hid (by rw [← hX]; exact HBM.out)
  clear HBM hX hc
  have sX := strOf_size X
  have hX108 : X.length ≤ 108 := by omega
  clear hXl
  go_wp2_with fail
  refine (bookbytes_any A n c rs w3 (HL.out.below hB3) HS.out (by omega) (HN.out.below hB3)).mono ?_
  rintro e w4 ⟨rfl, hb4⟩
  have hB4 := bnext hB3 hb4
  clear hb4 hB3
  rw [bookBV_ok m3]
  have hS6 := toldB_len (l := datO rs) hbf.ops _ (Nat.le_refl _)
  have h60 := hbf.few
  have HBK := hid (book_back hbf)
  have HBL := hid (book_long (l := datO rs))
  have HFN := hid (fine_mem hbf)
  have hln : (datO rs).length = n := by rw [datO_len]; exact hlen
  obtain ⟨l, hl⟩ : ∃ l, datO rs = l := ⟨_, rfl⟩
  rw [hl] at hS6 h60 HBK HBL HFN hln HBM' ⊢
  have HSU := hid (suf_zero l)
  have HPA := hid (part_all l)
  obtain ⟨S, hS⟩ : ∃ S, toldB l l.length = S := ⟨_, rfl⟩
  rw [hS] at hS6 HBK HBL HSU ⊢
  simp only [hS] at HPA
  have sS := strOf_size S
  have hS24 : S.length ≤ 24000 := by omega
  have HLD := hid hl
  have HLN := hid hln
  have hn60 : n ≤ 60 := by omega
  have CP := hid (bookparse_any S w4 (by omega) (HN.out.below hB4))
  clear hS hbf hS6 m3 hl hln h60
  go_wp2_with fail
  refine CP.out.mono ?_
  rintro e w5 ⟨A5, n5, c5, rs5, rfl, ho5, hd5, hs5, hb5⟩
  have hB5 := bnext hB4 hb5
  clear CP hb5 hB4
  by_cases hlong : 4000 < S.length
  · have i5 : (4000 : Int) < (S.length : Int) := by omega
    rw [HBL.out hlong]
    clear hlong hd5 ho5 HBK HBL
    simp only
    rw [errV_pos (show (2 : Nat) ≠ 0 by decide)]
    go_wp2_with fail
    go_ret
    exact ⟨rfl, hB5⟩
  rw [HBK.out (by omega)] at hd5 ⊢
  simp only at hd5
  have hn5 : n5 ≤ 1000 := by
    have h1 := ho5.1
    have h2 := congrArg List.length hd5
    rw [datO_len, HLN.out] at h2
    omega
  have HO5 := hid ho5
  have HD5 := hid hd5
  have HS5 := hid hs5
  clear ho5 hd5 hs5 HBK HBL
  simp only
  rw [show errV 0 = .nilIface from rfl]
  obtain ⟨j0, hj0, hand⟩ := and_1023 at_
  have e0 : IntKind.i64.wrap ((n : Int) + 1) = (n : Int) + 1 := IntWalk.i64_in _ (by omega)
  go_upto_region 18 with fail
  have hr : (j0 : Int) % ((n : Int) + 1) = ((j0 % (n + 1) : Nat) : Int) := by simp
  have hK : j0 % (n + 1) < n + 1 := Nat.mod_lt _ (by omega)
  rw [hr]
  clear hr hand hj0
  generalize j0 % (n + 1) = K at hK
  have HB5 := hid hB5
  have hSle : S.length ≤ 4000 := by omega
  have HSL := hid hSle
  clear hB5 hlong hSle e0
  obtain ⟨w6, rfl⟩ : ∃ w6 : World, w6 = w5 := ⟨_, rfl⟩
  go_loopw [14, 15, 16] (fun hv rv kv wr => ∃ (j : Nat) (P Q : Bs), j ≤ K ∧ hv = .string (strOf P) ∧ rv = .string (strOf Q) ∧ kv = .int .i64 ((K : Int) - (j : Int)) ∧ Hid (P = preB l j) ∧ Hid (Q = sufB l j) ∧ Hid (Below w.heap.size w wr) ∧ Hid (Below w6.heap.size w6 wr)) (fun _ _ kv _ => (intOf kv).toNat)
  case atStart => exact ⟨0, [], S, by omega, rfl, rfl, by simp, hid rfl, hid HSU.out.symm, HB5, hid (Below.refl _ _)⟩
  case round =>
    obtain ⟨j, P, Q, hj, rfl, rfl, rfl, HP, HQ, HB, HB6⟩ := hrel
    clear HB5
    have hPQ := HPA.out j
    rw [← HP.out, ← HQ.out] at hPQ
    have hPQl : S.length = P.length + Q.length := by rw [hPQ, List.length_append]
    have HPQ := hid hPQ
    have HPL := hid hPQl
    have hQ4 : Q.length ≤ 4000 := by have := HSL.out; omega
    have hP4 : P.length ≤ 4000 := by have := HSL.out; omega
    have sQ := strOf_size Q
    have sP := strOf_size P
    clear hPQ hPQl
    by_cases hlt : j < K
    · have hjl : j < l.length := by have := HLN.out; omega
      have i2 : (0 : Int) < (K : Int) - (j : Int) := by omega
      have hsu := suf_succ hjl
      rw [← HQ.out] at hsu
      have hpu := pre_succ hjl
      rw [← HP.out] at hpu
      have hcf := op_chunkF (HFN.out l[j] (List.getElem_mem hjl))
      obtain ⟨a, ha⟩ : ∃ a, opName l[j].kind = a := ⟨_, rfl⟩
      obtain ⟨d, hd⟩ : ∃ d, opData l[j] = d := ⟨_, rfl⟩
      rw [ha, hd] at hsu hpu hcf
      obtain ⟨Q2, hQ2⟩ : ∃ Q2, sufB l (j + 1) = Q2 := ⟨_, rfl⟩
      obtain ⟨P2, hP2⟩ : ∃ P2, preB l (j + 1) = P2 := ⟨_, rfl⟩
      rw [hQ2] at hsu
      rw [hP2] at hpu
      have hPQ2 := HPA.out (j + 1)
      rw [hQ2, hP2] at hPQ2
      have hPl2 : S.length = P2.length + Q2.length := by rw [hPQ2, List.length_append]
      have hex : (strOf S).extract 0 P2.length = strOf P2 := by rw [extract_strOf, List.drop_zero, hPQ2, List.take_left]
      have HQ2 := hid hQ2.symm
      have HP2 := hid hP2.symm
      have hfv := firstV_chunk (r := Q2) hcf
      rw [← hsu] at hfv
      have HFV := hid hfv
      have e1 : IntKind.i64.wrap ((S.length : Int) - (Q2.length : Int)) = (P2.length : Int) := by rw [show (S.length : Int) - (Q2.length : Int) = (P2.length : Int) by omega]; exact IntWalk.i64_in _ (by have := HSL.out; omega)
      have e2 : IntKind.i64.wrap ((K : Int) - (j : Int) - 1) = (K : Int) - ((j : Int) + 1) := by rw [show (K : Int) - (j : Int) - 1 = (K : Int) - ((j : Int) + 1) by omega]; exact IntWalk.i64_in _ (by omega)
      have q1 : (0 : Int) ≤ (P2.length : Int) := by omega
      have q2 : (P2.length : Int) ≤ (S.length : Int) := by omega
      have sQ2 := strOf_size Q2
      have sP2 := strOf_size P2
      clear hsu hpu hcf ha hd hQ2 hP2 hPQ2 hPl2 hfv
      go_wp2_with fail
      refine (first_any (strOf Q) wr (by omega)).mono ?_
      rintro e w7 ⟨rfl, hb7⟩
      rw [strOf_data', HFV.out]
      have HB7 := hid (HB.out.trans (hb7.mono HB.out.size))
      have HB67 := hid (HB6.out.trans (hb7.mono HB6.out.size))
      clear hb7 HB HB6
      go_wp2_with fail
      go_roundw
      case rel => exact ⟨j + 1, P2, Q2, by omega, rfl, rfl, by rw [Int.natCast_add]; rfl, HP2, HQ2, hid (HB7.out.alloc HB7.out.size _), hid (HB67.out.alloc HB67.out.size _)⟩
      case measure => simp [intOf]; omega
    · obtain rfl : j = K := by omega
      have i2 : ¬ (0 : Int) < (j : Int) - (j : Int) := by omega
      have e4 : IntKind.i64.wrap ((S.length : Int) + (X.length : Int)) = (S.length : Int) + (X.length : Int) := IntWalk.i64_in _ (by have := HSL.out; omega)
      by_cases hbig : 4000 < S.length + X.length
      · have i3 : (4000 : Int) < (S.length : Int) + (X.length : Int) := by omega
        go_wp2_with fail
        go_ret
        exact ⟨rfl, HB.out⟩
      have i3 : ¬ (4000 : Int) < (S.length : Int) + (X.length : Int) := by omega
      have hap : strOf P ++ strOf X ++ strOf Q = strOf (P ++ X ++ Q) := by rw [strOf_append, strOf_append]
      have hle : (P ++ X ++ Q).length ≤ 4000 := by rw [List.length_append, List.length_append]; have := HPL.out; omega
      have hbo : bookOf (P ++ X ++ Q) = (l, 0) := by rw [HP.out, HQ.out] at hle ⊢; exact HBM'.out j hle
      have C8 := bookparse_any (P ++ X ++ Q) wr (by omega) (HN.out.below HB.out)
      rw [hbo, ← hap] at C8
      have HC8 := hid C8
      have HO6 := hid (HO5.out.below HB6.out)
      clear hap hle hbo C8
      go_wp2_with fail
      refine HC8.out.mono ?_
      rintro e w8 ⟨A8, n8, c8, rs8, rfl, ho8, hd8, hs8, hb8⟩
      have hd8 : datO rs8 = l := hd8
      have HB8 := hid (HB.out.trans (hb8.mono HB.out.size))
      have CS := hid (rsameops_self A5 A8 n5 n8 c5 c8 rs5 rs8 w8 (HO6.out.below hb8) ho8 (HD5.out.trans hd8.symm) HS5.out hn5)
      clear hb8 ho8 hd8 hs8 HC8 HB HB6
      simp only
      rw [show errV 0 = .nilIface from rfl]
      go_wp2_with fail
      refine CS.out.mono ?_
      rintro e w9 ⟨rfl, hb9⟩
      go_wp2_with fail
      go_ret
      exact ⟨rfl, HB8.out.trans (hb9.mono HB8.out.size)⟩
theorem topMore_row (w : World) (r : FAt (List (FAt FOp))) (h : Ops w r.A r.n r.x ∧ r.n ≤ r.c ∧ r.c ≤ maxLen ∧ ∀ q ∈ r.x, OpOk w q) (s : ByteArray) (hs : s.size ≤ 0x7ffffffff000) (d : ByteArray) (hd : d.size ≤ 0x7ffffffff000) (at_ : Int) (_h1 : (Lit.int .i64 at_).wf = true) (hN : NamesAt 0 w) :
    Calls Tryd.prog 4 #[.slice r.A r.n r.c, .string s, .string d, .int .i64 at_] w (Ret (.bool true) w) := by
  obtain ⟨s, rfl⟩ := str_lists s
  obtain ⟨d, rfl⟩ := str_lists d
  rw [strOf_size] at hs hd
  exact topMore_walk r.A r.n r.c r.x s d at_ w h.1 (Nat.le_trans h.2.1 h.2.2.1) hs hd hN
end Fb
