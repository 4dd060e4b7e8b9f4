/- chunk.First and the reference's: they return what the plain law of chunks says. Condition: at most a million bytes. -/
import Derived.Test.YtfbbocfmjahfoaaChunkBytes
import Derived.RegionTactic
import Derived.Deep.RegionWith
namespace Fb
open Go Go.Proofs Go.RowKit
def firstV (L : Bs) : Value := .tuple #[.agg #[.string (strOf (firstA L)), .string (strOf (firstD L))], .string (strOf (firstR L)), errV (firstF L)]
def firstVN (L : Bs) : Value := .tuple #[.string (strOf (firstA L)), .string (strOf (firstD L)), .string (strOf (firstR L)), .int .i64 (firstF L)]
theorem firstV_bad {L : Bs} {f : Nat} (h : firstF L = f) (hf : f ≠ 0) : firstV L = .tuple #[.agg #[.string ByteArray.empty, .string ByteArray.empty], .string ByteArray.empty, errV f] := by
  unfold firstV; rw [h, firstA_bad (by rw [h]; exact hf), firstD_bad (by rw [h]; exact hf), firstR_bad (by rw [h]; exact hf)]; rfl
theorem firstVN_bad {L : Bs} {f : Nat} (h : firstF L = f) (hf : f ≠ 0) : firstVN L = .tuple #[.string ByteArray.empty, .string ByteArray.empty, .string ByteArray.empty, .int .i64 f] := by
  unfold firstVN; rw [h, firstA_bad (by rw [h]; exact hf), firstD_bad (by rw [h]; exact hf), firstR_bad (by rw [h]; exact hf)]; rfl
theorem extract_list (s : ByteArray) (a b : Nat) : (s.extract a b).data.toList = (s.data.toList.take b).drop a := by
  simp [ByteArray.data_extract, List.extract_eq_take_drop]
  rw [List.drop_take]
theorem extract_strOf (l : Bs) (a b : Nat) : (strOf l).extract a b = strOf ((l.take b).drop a) := by
  rw [← strOf_self' ((strOf l).extract a b), extract_list, strOf_data']
theorem get_byte (s : ByteArray) (k : Nat) (h : k < s.size) : s.data.toList.getD k 0 = s[k] := by
  simp only [List.getD_eq_getElem?_getD]
  rw [List.getElem?_eq_getElem (by simpa using h)]
  rfl
set_option maxRecDepth 100000 in
set_option maxHeartbeats 400000 in
theorem first_any (s : ByteArray) (w : World) (hs : s.size ≤ 1000000) :
    Calls Try.prog 37 #[.string s] w (Ret (firstV s.data.toList) w) := by
  have Hs := hid (bs_len s)
  by_cases h8 : s.size < 8
  · have hV := hid (firstV_bad (L := s.data.toList) (firstF_short (by rw [Hs.out]; exact h8)) (by decide))
    have h8' : (s.size : Int) < 8 := by omega
    clear h8
    go_enter Try.func37, Try.ntmps37
    go_wp2_with fail
    exact bodyPost_ret (v := .tuple #[.agg #[.string ⟨#[]⟩, .string ⟨#[]⟩], .string ⟨#[]⟩, .iface 94 (.int .i64 4)]) (by simp [results, Try.results37, go_sem]) rfl ⟨ret_eq' hV.out, (Below.refl _ _).alloc (Nat.le_refl _) _⟩
  · have h4 := get_byte s 4 (by omega)
    have h5 := get_byte s 5 (by omega)
    have hN : firstN s.data.toList = (s[4]'(by omega)).toNat + 256 * (s[5]'(by omega)).toNat := by unfold firstN; rw [h4, h5]
    have hb4 := UInt8.toNat_lt (s[4]'(by omega))
    have hb5 := UInt8.toNat_lt (s[5]'(by omega))
    have h8' : (8 : Int) ≤ (s.size : Int) := by omega
    have i4 : (4 : Int) < (s.size : Int) := by omega
    have i5 : (5 : Int) < (s.size : Int) := by omega
    have n4 : 4 < s.size := by omega
    have n5 : 5 < s.size := by omega
    have HN := hid hN
    clear hN h4 h5
    go_enter Try.func37, Try.ntmps37
    go_wp2_with fail
    go_quiet (fail)
    obtain ⟨N, hN⟩ : ∃ N : Nat, (s[4]'n4).toNat + 256 * (s[5]'n5).toNat = N := ⟨_, rfl⟩
    have hcast : (((s[4]'n4).toNat : Int) + (256 : Int) * ((s[5]'n5).toNat : Int)) = (N : Int) := by omega
    rw [hcast]
    have hN65 : N ≤ 65535 := by omega
    rw [hN] at HN
    clear hN hcast hb4 hb5
    go_wp2_with fail
    refine (name_any _ _ (by simp; unfold maxLen; omega)).mono ?_
    rintro e w1 ⟨rfl, hb⟩
    rw [extract_list, List.drop_zero]
    have hz0 := hb.size
    have hB := (below_drewN ((Below.refl w.heap.size w).alloc (Nat.le_refl _) (.cells #[.string ⟨#[]⟩, .string ⟨#[]⟩] 49)) nq).trans (hb.mono (by simp))
    have c0 := hb.cell (p := ⟨w.heap.size, 0, none⟩) (by simp)
    have c1 := hb.cell (p := ⟨w.heap.size, 1, none⟩) (by simp)
    have f0 := hb.frozen (p := ⟨w.heap.size, 0, none⟩) (by simp)
    have f1 := hb.frozen (p := ⟨w.heap.size, 1, none⟩) (by simp)
    clear hb
    simp at c0 c1 f0 f1 hz0
    by_cases hn : nameB (s.data.toList.take 4) = true
    · rw [hn]
      by_cases hl : s.size < 8 + N
      · have hV := hid (firstV_bad (L := s.data.toList) (firstF_less (by rw [Hs.out]; omega) (by rw [Hs.out, HN.out]; exact hl)) (by decide))
        have hl' : (s.size : Int) < 8 + (N : Int) := by omega
        clear hn hl h8
        go_wp2_with fail
        refine bodyPost_ret (v := .tuple #[.agg #[.string ⟨#[]⟩, .string ⟨#[]⟩], .string ⟨#[]⟩, .iface 94 (.int .i64 4)]) (by simp [results, Try.results37, go_sem, c0, c1, f0, f1, hz0]) rfl ⟨ret_eq' hV.out, ?_⟩
        (repeat (first | with_reducible exact hB | with_reducible refine Below.alloc ?_ (by have := hB.size; simp; try omega) _ | with_reducible refine Below.setCell ?_ (by have := hB.size; simp; try omega) _ | with_reducible refine below_drewN ?_ _ | with_reducible refine Below.drew ?_))
      · have hl' : ¬ (s.size : Int) < 8 + (N : Int) := by omega
        go_wp2_with fail
        refine (sum_any _ _ (by simp; unfold maxLen; omega)).mono ?_
        rintro e w2 ⟨rfl, hb⟩
        rw [extract_list, List.drop_zero]
        unfold sumV
        have hB2 := bnext hB hb
        have d0 := (hb.cell (p := ⟨w.heap.size, 0, none⟩) (by simp; omega)).trans c0
        have d1 := (hb.cell (p := ⟨w.heap.size, 1, none⟩) (by simp; omega)).trans c1
        have g0 := (hb.frozen (p := ⟨w.heap.size, 0, none⟩) (by simp; omega)).trans f0
        have g1 := (hb.frozen (p := ⟨w.heap.size, 1, none⟩) (by simp; omega)).trans f1
        have hz2 : w.heap.size < w2.heap.size := by have := hb.size; omega
        clear hb c0 c1 f0 f1 hB hz0
        have hB := hB2
        clear hB2
        have k6 : 6 + N < s.size := by omega
        have k7 : 7 + N < s.size := by omega
        have j6 : (6 : Int) + (N : Int) < (s.size : Int) := by omega
        have j7 : (7 : Int) + (N : Int) < (s.size : Int) := by omega
        have x6 := get_byte s (6 + N) k6
        have x7 := get_byte s (7 + N) k7
        have F6 := hid (fun h => firstF_sum (L := s.data.toList) (by rw [Hs.out]; omega) hn (by rw [Hs.out, HN.out]; omega) h)
        have F0 := hid (fun h h' => firstF_ok (L := s.data.toList) (by rw [Hs.out]; omega) hn (by rw [Hs.out, HN.out]; omega) h h')
        rw [HN.out, x6, x7] at F6 F0
        clear x6 x7 hn hl h8
        have b6 := UInt8.toNat_lt (s[6 + N]'k6)
        have b7 := UInt8.toNat_lt (s[7 + N]'k7)
        generalize hq0 : (sumL (s.data.toList.take (6 + N))).1 = q0 at *
        generalize hq1 : (sumL (s.data.toList.take (6 + N))).2 = q1 at *
        clear hq0 hq1
        by_cases e0 : ((s[6 + N]'k6).toNat : Int) = (q0 : Int)
        · have e0' : (((s[6 + N]'k6).toNat : Int) != (q0 : Int)) = false := by rw [bne_eq_false_iff_eq]; exact e0
          by_cases e1 : ((s[7 + N]'k7).toNat : Int) = (q1 : Int)
          · have e1' : (((s[7 + N]'k7).toNat : Int) != (q1 : Int)) = false := by rw [bne_eq_false_iff_eq]; exact e1
            have hF := F0.out (by omega) (by omega)
            have hV : firstV s.data.toList = .tuple #[.agg #[.string (s.extract 0 4), .string (s.extract 6 (6 + N))], .string (s.extract (8 + N) s.size), .nilIface] := by
              unfold firstV
              rw [hF, errV_zero, firstA_ok hF, firstD_ok hF, firstR_ok hF, HN.out, ← strOf_self' (s.extract 0 4), ← strOf_self' (s.extract 6 (6 + N)), ← strOf_self' (s.extract (8 + N) s.size), extract_list, extract_list, extract_list, List.drop_zero, List.take_of_length_le (i := s.size) (by rw [Hs.out]; omega)]
            have HV := hid hV
            clear hF hV F6 F0 e0 e1
            go_wp2_with fail
            have s1 : IntKind.i64.wrap ((6 : Int) + (N : Int)) = (6 : Int) + (N : Int) := IntWalk.i64_in _ (by omega)
            have s2 : IntKind.i64.wrap ((8 : Int) + (N : Int)) = (8 : Int) + (N : Int) := IntWalk.i64_in _ (by omega)
            have s3 : (0 : Int) ≤ (6 : Int) + (N : Int) := by omega
            have s4 : (0 : Int) ≤ (8 : Int) + (N : Int) := by omega
            have s5 : ((6 : Int) + (N : Int)).toNat = 6 + N := by omega
            have s6 : ((8 : Int) + (N : Int)).toNat = 8 + N := by omega
            have s7 : (6 : Int) ≤ (6 : Int) + (N : Int) := by omega
            have s8 : (6 : Int) + (N : Int) ≤ (s.size : Int) := by omega
            have s9 : (8 : Int) + (N : Int) ≤ (s.size : Int) := by omega
            have s10 : (4 : Int) ≤ (s.size : Int) := by omega
            go_region
            all_goals
              clear s1 s2
              go_wp2_with fail
              refine bodyPost_ret (v := .tuple #[.agg #[.string (s.extract 0 4), .string (s.extract 6 (6 + N))], .string (s.extract (8 + N) s.size), .nilIface]) (by simp [results, Try.results37, go_sem, d0, d1, g0, g1, hz2]) rfl ⟨ret_eq' HV.out, ?_⟩
              (repeat (first | with_reducible exact hB | with_reducible refine Below.alloc ?_ (by have := hB.size; simp; try omega) _ | with_reducible refine Below.setCell ?_ (by have := hB.size; simp; try omega) _ | with_reducible refine below_drewN ?_ _ | with_reducible refine Below.drew ?_))
          · have e1' : (((s[7 + N]'k7).toNat : Int) != (q1 : Int)) = true := by rw [bne_iff_ne]; exact e1
            have hV := hid (firstV_bad (L := s.data.toList) (F6.out (.inr (by omega))) (by decide))
            clear e0 e1 F6 F0
            go_wp2_with fail
            refine bodyPost_ret (v := .tuple #[.agg #[.string ⟨#[]⟩, .string ⟨#[]⟩], .string ⟨#[]⟩, .iface 94 (.int .i64 6)]) (by simp [results, Try.results37, go_sem, d0, d1, g0, g1, hz2]) rfl ⟨ret_eq' hV.out, ?_⟩
            (repeat (first | with_reducible exact hB | with_reducible refine Below.alloc ?_ (by have := hB.size; simp; try omega) _ | with_reducible refine Below.setCell ?_ (by have := hB.size; simp; try omega) _ | with_reducible refine below_drewN ?_ _ | with_reducible refine Below.drew ?_))
        · have e0' : (((s[6 + N]'k6).toNat : Int) != (q0 : Int)) = true := by rw [bne_iff_ne]; exact e0
          have hV := hid (firstV_bad (L := s.data.toList) (F6.out (.inl (by omega))) (by decide))
          clear e0 F6 F0
          go_wp2_with fail
          refine bodyPost_ret (v := .tuple #[.agg #[.string ⟨#[]⟩, .string ⟨#[]⟩], .string ⟨#[]⟩, .iface 94 (.int .i64 6)]) (by simp [results, Try.results37, go_sem, d0, d1, g0, g1, hz2]) rfl ⟨ret_eq' hV.out, ?_⟩
          (repeat (first | with_reducible exact hB | with_reducible refine Below.alloc ?_ (by have := hB.size; simp; try omega) _ | with_reducible refine Below.setCell ?_ (by have := hB.size; simp; try omega) _ | with_reducible refine below_drewN ?_ _ | with_reducible refine Below.drew ?_))
    · have hn' : nameB (s.data.toList.take 4) = false := by simpa using hn
      have hV := hid (firstV_bad (L := s.data.toList) (firstF_name (by rw [Hs.out]; omega) hn') (by decide))
      rw [hn']
      clear hn hn' h8
      go_wp2_with fail
      refine bodyPost_ret (v := .tuple #[.agg #[.string ⟨#[]⟩, .string ⟨#[]⟩], .string ⟨#[]⟩, .iface 94 (.int .i64 4)]) (by simp [results, Try.results37, go_sem, c0, c1, f0, f1, hz0]) rfl ⟨ret_eq' hV.out, ?_⟩
      (repeat (first | with_reducible exact hB | with_reducible refine Below.alloc ?_ (by have := hB.size; simp; try omega) _ | with_reducible refine Below.setCell ?_ (by have := hB.size; simp; try omega) _ | with_reducible refine below_drewN ?_ _ | with_reducible refine Below.drew ?_))
theorem results_four {fn : Func} {t u v x : Tmp} (h : fn.results = #[.tmp t, .tmp u, .tmp v, .tmp x]) (tmps : Array Value) (P : Program) (w : World) :
    (results fn tmps).run P w = .ok (.tuple #[tmps.getD t undef, tmps.getD u undef, tmps.getD v undef, tmps.getD x undef]) w := by simp [results, h]
set_option maxRecDepth 100000 in
set_option maxHeartbeats 400000 in
theorem rfirst_any (s : ByteArray) (w : World) (hs : s.size ≤ 1000000) :
    Calls Try.prog 38 #[.string s] w (Ret (firstVN s.data.toList) w) := by
  have Hs := hid (bs_len s)
  by_cases h8 : s.size < 8
  · have hV := hid (firstVN_bad (L := s.data.toList) (firstF_short (by rw [Hs.out]; exact h8)) (by decide))
    have h8' : (s.size : Int) < 8 := by omega
    clear h8
    go_enter Try.func38, Try.ntmps38
    go_wp2_with fail
    refine bodyPost_ret (results_four rfl _ _ _) rfl ?_
    exact ⟨ret_eq' hV.out, Below.refl _ _⟩
  · have h4 := get_byte s 4 (by omega)
    have h5 := get_byte s 5 (by omega)
    have hN : firstN s.data.toList = (s[4]'(by omega)).toNat + 256 * (s[5]'(by omega)).toNat := by unfold firstN; rw [h4, h5]
    have hb4 := UInt8.toNat_lt (s[4]'(by omega))
    have hb5 := UInt8.toNat_lt (s[5]'(by omega))
    have h8' : (8 : Int) ≤ (s.size : Int) := by omega
    have i4 : (4 : Int) < (s.size : Int) := by omega
    have i5 : (5 : Int) < (s.size : Int) := by omega
    have n4 : 4 < s.size := by omega
    have n5 : 5 < s.size := by omega
    have HN := hid hN
    clear hN h4 h5
    go_enter Try.func38, Try.ntmps38
    go_wp2_with fail
    refine (rname_any _ _ (by simp; unfold maxLen; omega)).mono ?_
    rintro e w1 ⟨rfl, hB⟩
    rw [extract_list, List.drop_zero]
    generalize hnb : nameB (s.data.toList.take 4) = nb
    have Hnb := hid hnb
    clear hnb
    go_wp2_with fail
    go_quiet (fail)
    obtain ⟨N, hN⟩ : ∃ N : Nat, (s[4]'n4).toNat + 256 * (s[5]'n5).toNat = N := ⟨_, rfl⟩
    have hcast : (((s[4]'n4).toNat : Int) + (256 : Int) * ((s[5]'n5).toNat : Int)) = (N : Int) := by omega
    rw [hcast]
    have hN65 : N ≤ 65535 := by omega
    rw [hN] at HN
    have hB1 := below_drewN hB nq
    clear hN hcast hb4 hb5 hB
    cases nb
    · have hV := hid (firstVN_bad (L := s.data.toList) (firstF_name (by rw [Hs.out]; omega) Hnb.out) (by decide))
      clear h8
      go_wp2_with fail
      refine bodyPost_ret (results_four rfl _ _ _) rfl ?_
      exact ⟨ret_eq' hV.out, hB1⟩
    · by_cases hl : s.size < 8 + N
      · have hV := hid (firstVN_bad (L := s.data.toList) (firstF_less (by rw [Hs.out]; omega) (by rw [Hs.out, HN.out]; exact hl)) (by decide))
        have hl' : (s.size : Int) < 8 + (N : Int) := by omega
        clear hl h8
        go_wp2_with fail
        refine bodyPost_ret (results_four rfl _ _ _) rfl ?_
        exact ⟨ret_eq' hV.out, hB1⟩
      · have hl' : ¬ (s.size : Int) < 8 + (N : Int) := by omega
        go_wp2_with fail
        refine (rsum_any _ _ (by simp; unfold maxLen; omega)).mono ?_
        rintro e w2 ⟨rfl, hb⟩
        rw [extract_list, List.drop_zero]
        unfold sumV
        have hB2 := bnext hB1 hb
        clear hb hB1
        have k6 : 6 + N < s.size := by omega
        have k7 : 7 + N < s.size := by omega
        have j6 : (6 : Int) + (N : Int) < (s.size : Int) := by omega
        have j7 : (7 : Int) + (N : Int) < (s.size : Int) := by omega
        have x6 := get_byte s (6 + N) k6
        have x7 := get_byte s (7 + N) k7
        have F6 := hid (fun h => firstF_sum (L := s.data.toList) (by rw [Hs.out]; omega) Hnb.out (by rw [Hs.out, HN.out]; omega) h)
        have F0 := hid (fun h h' => firstF_ok (L := s.data.toList) (by rw [Hs.out]; omega) Hnb.out (by rw [Hs.out, HN.out]; omega) h h')
        rw [HN.out, x6, x7] at F6 F0
        clear x6 x7 hl h8
        have b6 := UInt8.toNat_lt (s[6 + N]'k6)
        have b7 := UInt8.toNat_lt (s[7 + N]'k7)
        generalize hq0 : (sumL (s.data.toList.take (6 + N))).1 = q0 at *
        generalize hq1 : (sumL (s.data.toList.take (6 + N))).2 = q1 at *
        clear hq0 hq1
        by_cases e0 : ((s[6 + N]'k6).toNat : Int) = (q0 : Int)
        · have e0' : (((s[6 + N]'k6).toNat : Int) != (q0 : Int)) = false := by rw [bne_eq_false_iff_eq]; exact e0
          by_cases e1 : ((s[7 + N]'k7).toNat : Int) = (q1 : Int)
          · have e1' : (((s[7 + N]'k7).toNat : Int) != (q1 : Int)) = false := by rw [bne_eq_false_iff_eq]; exact e1
            have hF := F0.out (by omega) (by omega)
            have hV : firstVN s.data.toList = .tuple #[.string (s.extract 0 4), .string (s.extract 6 (6 + N)), .string (s.extract (8 + N) s.size), .int .i64 0] := by
              unfold firstVN
              rw [hF, firstA_ok hF, firstD_ok hF, firstR_ok hF, HN.out, ← strOf_self' (s.extract 0 4), ← strOf_self' (s.extract 6 (6 + N)), ← strOf_self' (s.extract (8 + N) s.size), extract_list, extract_list, extract_list, List.drop_zero, List.take_of_length_le (i := s.size) (by rw [Hs.out]; omega)]
              rfl
            have HV := hid hV
            clear hF hV F6 F0 e0 e1
            go_wp2_with fail
            have s1 : IntKind.i64.wrap ((6 : Int) + (N : Int)) = (6 : Int) + (N : Int) := IntWalk.i64_in _ (by omega)
            have s2 : IntKind.i64.wrap ((8 : Int) + (N : Int)) = (8 : Int) + (N : Int) := IntWalk.i64_in _ (by omega)
            have s3 : (0 : Int) ≤ (6 : Int) + (N : Int) := by omega
            have s4 : (0 : Int) ≤ (8 : Int) + (N : Int) := by omega
            have s5 : ((6 : Int) + (N : Int)).toNat = 6 + N := by omega
            have s6 : ((8 : Int) + (N : Int)).toNat = 8 + N := by omega
            have s7 : (6 : Int) ≤ (6 : Int) + (N : Int) := by omega
            have s8 : (6 : Int) + (N : Int) ≤ (s.size : Int) := by omega
            have s9 : (8 : Int) + (N : Int) ≤ (s.size : Int) := by omega
            have s10 : (4 : Int) ≤ (s.size : Int) := by omega
            go_quiet (fail)
            clear s1 s2
            go_wp2_with fail
            refine bodyPost_ret (results_four rfl _ _ _) rfl ?_
            exact ⟨ret_eq' HV.out, below_drewN hB2 _⟩
          · have e1' : (((s[7 + N]'k7).toNat : Int) != (q1 : Int)) = true := by rw [bne_iff_ne]; exact e1
            have hV := hid (firstVN_bad (L := s.data.toList) (F6.out (.inr (by omega))) (by decide))
            clear e0 e1 F6 F0
            go_wp2_with fail
            refine bodyPost_ret (results_four rfl _ _ _) rfl ?_
            exact ⟨ret_eq' hV.out, hB2⟩
        · have e0' : (((s[6 + N]'k6).toNat : Int) != (q0 : Int)) = true := by rw [bne_iff_ne]; exact e0
          have hV := hid (firstVN_bad (L := s.data.toList) (F6.out (.inl (by omega))) (by decide))
          clear e0 F6 F0
          go_wp2_with fail
          refine bodyPost_ret (results_four rfl _ _ _) rfl ?_
          exact ⟨ret_eq' hV.out, hB2⟩
end Fb
