/- chunk.Bytes and the reference's: they return what the plain law of chunks says. Conditions: a text is no longer than a Go text may be. chunk.First and the reference's: they return what the plain law of chunks says. Condition: at most a million bytes. -/
import Derived.Test.YtcmbbicemddggaaDoorChunkWalk
import Derived.Test.YtcmbbicemddggaaDoorPackWalk2
import Derived.RegionTactic
import Derived.Deep.RegionWith
set_option linter.unusedSimpArgs false
set_option linter.unusedVariables false
namespace Fb
open Go Go.Proofs Go.RowKit
theorem strOf_data' (l : Bs) : (strOf l).data.toList = l := by simp [strOf]
theorem strOf_list' (l : Bs) : (strOf l).toList = l := by unfold strOf; exact ByteArray.toList_mk l
theorem strOf_self' (s : ByteArray) : strOf s.data.toList = s := by unfold strOf; simp
theorem str_lists (s : ByteArray) : ∃ l : Bs, s = strOf l := ⟨_, (strOf_self' s).symm⟩
theorem str_two (a b : Int) (c0 c1 : UInt8) (ha : a = (c0.toNat : Int)) (hb : b = (c1.toNat : Int)) (w : World) :
    (convert 55 9 (.slice (some ⟨w.heap.size, 0, none⟩) 2 2)).run Tryd.prog (w.alloc (.cells #[.int .u8 a, .int .u8 b] 5)) = .ok (.string (strOf [c0, c1])) (w.alloc (.cells #[.int .u8 a, .int .u8 b] 5)) := by
  subst ha hb
  refine run_string_row ⟨by simp [byteCells], fun _ => ⟨_, 0, rfl, by simp, fun j u hu => ?_⟩⟩ Tryd.underlying55 Tryd.underlying5 Tryd.underlying9
  have := cell_two_new w (.int .u8 (c0.toNat : Int)) (.int .u8 (c1.toNat : Int)) 5 j u (by simpa [byteCells] using hu)
  by_cases hj : j = 0
  · subst hj; simpa [Addr.add] using this
  · simpa [Addr.add, hj] using this
def chunkV (n d : Bs) : Value := .tuple #[.string (strOf (chunkB n d)), errV (chunkF n d)]
def chunkN (n d : Bs) : Value := .tuple #[.string (strOf (chunkB n d)), .int .i64 (chunkF n d)]
theorem chunkV_bad {n d : Bs} {f : Nat} (h : chunkF n d = f) (hf : f ≠ 0) : chunkV n d = .tuple #[.string ByteArray.empty, errV f] := by
  unfold chunkV; rw [h, chunkB_bad (by rw [h]; exact hf)]; rfl
theorem chunkN_bad {n d : Bs} {f : Nat} (h : chunkF n d = f) (hf : f ≠ 0) : chunkN n d = .tuple #[.string ByteArray.empty, .int .i64 f] := by
  unfold chunkN; rw [h, chunkB_bad (by rw [h]; exact hf)]; rfl
theorem chunkV_ok {n d : Bs} {c0 c1 : UInt8} (h : chunkF n d = 0) (h0 : UInt8.ofNat d.length = c0) (h1 : UInt8.ofNat (d.length / 256) = c1) :
    chunkV n d = .tuple #[.string (strOf (n ++ c0 :: c1 :: (d ++ [UInt8.ofNat (sumL (n ++ c0 :: c1 :: d)).1, UInt8.ofNat (sumL (n ++ c0 :: c1 :: d)).2]))), .nilIface] := by
  unfold chunkV; rw [h, chunkB_ok h, errV_zero, ← h0, ← h1]; simp [chunkS, bodyL]
theorem chunkN_ok {n d : Bs} {c0 c1 : UInt8} (h : chunkF n d = 0) (h0 : UInt8.ofNat d.length = c0) (h1 : UInt8.ofNat (d.length / 256) = c1) :
    chunkN n d = .tuple #[.string (strOf (n ++ c0 :: c1 :: (d ++ [UInt8.ofNat (sumL (n ++ c0 :: c1 :: d)).1, UInt8.ofNat (sumL (n ++ c0 :: c1 :: d)).2]))), .int .i64 0] := by
  unfold chunkN; rw [h, chunkB_ok h, ← h0, ← h1]; simp [chunkS, bodyL]
set_option maxRecDepth 100000 in
set_option maxHeartbeats 400000 in
theorem cbytes_any (n d : Bs) (w : World) (hn : n.length ≤ maxLen) (hd : d.length ≤ maxLen) :
    Calls Tryd.prog 13 #[.agg #[.string (strOf n), .string (strOf d)]] w (Ret (chunkV n d) w) := by
  have hsn := strOf_size n
  have hsd := strOf_size d
  have Hn := hid hsn
  by_cases h1 : nameB n = true
  · by_cases h2 : 65535 < d.length
    · have hV := hid (chunkV_bad (chunkF_many h1 h2) (by decide))
      have H1 := hid h1
      clear h1
      go_enter Tryd.func13, Tryd.ntmps13
      go_wp2_with fail
      refine (name_any (strOf n) _ (by rw [Hn.out]; exact hn)).mono ?_
      rintro e w1 ⟨rfl, hb⟩
      rw [strOf_data', H1.out]
      have hb1 := ((Below.refl w.heap.size w).alloc (Nat.le_refl _) _).trans (hb.mono (by simp))
      obtain ⟨hc, hf⟩ := bcell hb
      clear hb
      go_wp2_with fail
      go_ret2
      exact ⟨ret_eq' hV.out, hb1⟩
    · have hn4 := nameB_four h1
      have hV := hid (fun c0 c1 => chunkV_ok (c0 := c0) (c1 := c1) (chunkF_ok h1 (show d.length ≤ 65535 by omega)))
      have H1 := hid h1
      have hn4' : n.length ≤ 4 := by omega
      clear h1 hn4
      obtain ⟨c0, hc0⟩ : ∃ c0, UInt8.ofNat d.length = c0 := ⟨_, rfl⟩
      obtain ⟨c1, hc1⟩ : ∃ c1, UInt8.ofNat (d.length / 256) = c1 := ⟨_, rfl⟩
      have hst := str_two ((d.length : Int) % 256) ((d.length : Int) / 256) c0 c1 (by rw [← hc0]; simp) (by rw [← hc1]; simp; omega)
      have HV := hid (hV.out c0 c1 hc0 hc1)
      have happ := strOf_append
      have hsz2 : (strOf n).size + (strOf [c0, c1]).size ≤ 1000000 := by rw [strOf_size, strOf_size]; simp; omega
      have hsz3 : (strOf (n ++ [c0, c1])).size + (strOf d).size ≤ 1000000 := by rw [strOf_size, strOf_size]; simp; omega
      clear hV hc0 hc1
      go_enter Tryd.func13, Tryd.ntmps13
      go_wp2_with fail
      refine (name_any (strOf n) _ (by rw [Hn.out]; exact hn)).mono ?_
      rintro e w1 ⟨rfl, hb⟩
      rw [strOf_data', H1.out]
      have hb1 := ((Below.refl w.heap.size w).alloc (Nat.le_refl _) _).trans (hb.mono (by simp))
      obtain ⟨hc, hf⟩ := bcell hb
      have hz0 := hb.size
      clear hb
      have hz : w.heap.size < w1.heap.size := by have := hb1.size; have := hz0; simp at this; omega
      go_wp2_with fail
      refine (sum_any (strOf (n ++ c0 :: c1 :: d)) _ (by rw [strOf_size]; simp; unfold maxLen; omega)).mono ?_
      rintro e w2 ⟨rfl, hb⟩
      rw [strOf_data']
      unfold sumV
      have hb2 := bnext ((hb1.alloc hb1.size _)) hb
      clear hb
      have hls := sumL_lt (n ++ c0 :: c1 :: d)
      have hst2 := str_two (((sumL (n ++ c0 :: c1 :: d)).1 : Nat) : Int) (((sumL (n ++ c0 :: c1 :: d)).2 : Nat) : Int) (UInt8.ofNat (sumL (n ++ c0 :: c1 :: d)).1) (UInt8.ofNat (sumL (n ++ c0 :: c1 :: d)).2) (by rw [ofNat_lt (by omega)]) (by rw [ofNat_lt (by omega)])
      generalize UInt8.ofNat (sumL (n ++ c0 :: c1 :: d)).1 = d0 at *
      generalize UInt8.ofNat (sumL (n ++ c0 :: c1 :: d)).2 = d1 at *
      have hsz4 : (strOf (n ++ c0 :: c1 :: d)).size + (strOf [d0, d1]).size ≤ 1000000 := by rw [strOf_size, strOf_size]; simp; omega
      generalize (sumL (n ++ c0 :: c1 :: d)).1 = q0 at *
      generalize (sumL (n ++ c0 :: c1 :: d)).2 = q1 at *
      clear hst
      go_wp2_with fail
      go_ret2
      exact ⟨ret_eq' HV.out, hb2.alloc hb2.size _⟩
  · have h1' : nameB n = false := by simpa using h1
    have hV := hid (chunkV_bad (d := d) (chunkF_name h1') (by decide))
    have H1 := hid h1'
    clear h1 h1'
    go_enter Tryd.func13, Tryd.ntmps13
    go_wp2_with fail
    refine (name_any (strOf n) _ (by rw [Hn.out]; exact hn)).mono ?_
    rintro e w1 ⟨rfl, hb⟩
    rw [strOf_data', H1.out]
    have hb1 := ((Below.refl w.heap.size w).alloc (Nat.le_refl _) _).trans (hb.mono (by simp))
    obtain ⟨hc, hf⟩ := bcell hb
    clear hb
    go_wp2_with fail
    go_ret2
    exact ⟨ret_eq' hV.out, hb1⟩
end Fb
namespace Fb
open Go Go.Proofs Go.RowKit
def firstV (L : Bs) : Value := .tuple #[.agg #[.string (strOf (firstA L)), .string (strOf (firstD L))], .string (strOf (firstR L)), errV (firstF L)]
def firstVN (L : Bs) : Value := .tuple #[.string (strOf (firstA L)), .string (strOf (firstD L)), .string (strOf (firstR L)), .int .i64 (firstF L)]
theorem firstV_bad {L : Bs} {f : Nat} (h : firstF L = f) (hf : f ≠ 0) : firstV L = .tuple #[.agg #[.string ByteArray.empty, .string ByteArray.empty], .string ByteArray.empty, errV f] := by
  unfold firstV; rw [h, firstA_bad (by rw [h]; exact hf), firstD_bad (by rw [h]; exact hf), firstR_bad (by rw [h]; exact hf)]; rfl
theorem firstVN_bad {L : Bs} {f : Nat} (h : firstF L = f) (hf : f ≠ 0) : firstVN L = .tuple #[.string ByteArray.empty, .string ByteArray.empty, .string ByteArray.empty, .int .i64 f] := by
  unfold firstVN; rw [h, firstA_bad (by rw [h]; exact hf), firstD_bad (by rw [h]; exact hf), firstR_bad (by rw [h]; exact hf)]; rfl
theorem extract_list (s : ByteArray) (a b : Nat) : (s.extract a b).data.toList = (s.data.toList.take b).drop a := by
  simp [ByteArray.data_extract, List.extract_eq_take_drop]
  rw [List.drop_take]
theorem extract_strOf (l : Bs) (a b : Nat) : (strOf l).extract a b = strOf ((l.take b).drop a) := by
  rw [← strOf_self' ((strOf l).extract a b), extract_list, strOf_data']
theorem get_byte (s : ByteArray) (k : Nat) (h : k < s.size) : s.data.toList.getD k 0 = s[k] := by
  simp only [List.getD_eq_getElem?_getD]
  rw [List.getElem?_eq_getElem (by simpa using h)]
  rfl
set_option maxRecDepth 100000 in
set_option maxHeartbeats 400000 in
theorem first_any (s : ByteArray) (w : World) (hs : s.size ≤ 1000000) :
    Calls Tryd.prog 14 #[.string s] w (Ret (firstV s.data.toList) w) := by
  have Hs := hid (bs_len s)
  by_cases h8 : s.size < 8
  · have hV := hid (firstV_bad (L := s.data.toList) (firstF_short (by rw [Hs.out]; exact h8)) (by decide))
    have h8' : (s.size : Int) < 8 := by omega
    clear h8
    go_enter Tryd.func14, Tryd.ntmps14
    go_wp2_with fail
    exact bodyPost_ret (v := .tuple #[.agg #[.string ⟨#[]⟩, .string ⟨#[]⟩], .string ⟨#[]⟩, .iface 63 (.int .i64 4)]) (by simp [results, Tryd.results14, go_sem]) rfl ⟨ret_eq' hV.out, (Below.refl _ _).alloc (Nat.le_refl _) _⟩
  · have h4 := get_byte s 4 (by omega)
    have h5 := get_byte s 5 (by omega)
    have hN : firstN s.data.toList = (s[4]'(by omega)).toNat + 256 * (s[5]'(by omega)).toNat := by unfold firstN; rw [h4, h5]
    have hb4 := UInt8.toNat_lt (s[4]'(by omega))
    have hb5 := UInt8.toNat_lt (s[5]'(by omega))
    have h8' : (8 : Int) ≤ (s.size : Int) := by omega
    have i4 : (4 : Int) < (s.size : Int) := by omega
    have i5 : (5 : Int) < (s.size : Int) := by omega
    have n4 : 4 < s.size := by omega
    have n5 : 5 < s.size := by omega
    have HN := hid hN
    clear hN h4 h5
    go_enter Tryd.func14, Tryd.ntmps14
    go_wp2_with fail
    go_quiet (fail)
    obtain ⟨N, hN⟩ : ∃ N : Nat, (s[4]'n4).toNat + 256 * (s[5]'n5).toNat = N := ⟨_, rfl⟩
    have hcast : (((s[4]'n4).toNat : Int) + (256 : Int) * ((s[5]'n5).toNat : Int)) = (N : Int) := by omega
    rw [hcast]
    have hN65 : N ≤ 65535 := by omega
    rw [hN] at HN
    clear hN hcast hb4 hb5
    go_wp2_with fail
    refine (name_any _ _ (by simp; unfold maxLen; omega)).mono ?_
    rintro e w1 ⟨rfl, hb⟩
    rw [extract_list, List.drop_zero]
    have hz0 := hb.size
    have hB := (below_drewN ((Below.refl w.heap.size w).alloc (Nat.le_refl _) (.cells #[.string ⟨#[]⟩, .string ⟨#[]⟩] 37)) nq).trans (hb.mono (by simp))
    have c0 := hb.cell (p := ⟨w.heap.size, 0, none⟩) (by simp)
    have c1 := hb.cell (p := ⟨w.heap.size, 1, none⟩) (by simp)
    have f0 := hb.frozen (p := ⟨w.heap.size, 0, none⟩) (by simp)
    have f1 := hb.frozen (p := ⟨w.heap.size, 1, none⟩) (by simp)
    clear hb
    simp at c0 c1 f0 f1 hz0
    by_cases hn : nameB (s.data.toList.take 4) = true
    · rw [hn]
      by_cases hl : s.size < 8 + N
      · have hV := hid (firstV_bad (L := s.data.toList) (firstF_less (by rw [Hs.out]; omega) (by rw [Hs.out, HN.out]; exact hl)) (by decide))
        have hl' : (s.size : Int) < 8 + (N : Int) := by omega
        clear hn hl h8
        go_wp2_with fail
        refine bodyPost_ret (v := .tuple #[.agg #[.string ⟨#[]⟩, .string ⟨#[]⟩], .string ⟨#[]⟩, .iface 63 (.int .i64 4)]) (by simp [results, Tryd.results14, go_sem, c0, c1, f0, f1, hz0]) rfl ⟨ret_eq' hV.out, ?_⟩
        (repeat (first | with_reducible exact hB | with_reducible refine Below.alloc ?_ (by have := hB.size; simp; try omega) _ | with_reducible refine Below.setCell ?_ (by have := hB.size; simp; try omega) _ | with_reducible refine below_drewN ?_ _ | with_reducible refine Below.drew ?_))
      · have hl' : ¬ (s.size : Int) < 8 + (N : Int) := by omega
        go_wp2_with fail
        refine (sum_any _ _ (by simp; unfold maxLen; omega)).mono ?_
        rintro e w2 ⟨rfl, hb⟩
        rw [extract_list, List.drop_zero]
        unfold sumV
        have hB2 := bnext hB hb
        have d0 := (hb.cell (p := ⟨w.heap.size, 0, none⟩) (by simp; omega)).trans c0
        have d1 := (hb.cell (p := ⟨w.heap.size, 1, none⟩) (by simp; omega)).trans c1
        have g0 := (hb.frozen (p := ⟨w.heap.size, 0, none⟩) (by simp; omega)).trans f0
        have g1 := (hb.frozen (p := ⟨w.heap.size, 1, none⟩) (by simp; omega)).trans f1
        have hz2 : w.heap.size < w2.heap.size := by have := hb.size; omega
        clear hb c0 c1 f0 f1 hB hz0
        have hB := hB2
        clear hB2
        have k6 : 6 + N < s.size := by omega
        have k7 : 7 + N < s.size := by omega
        have j6 : (6 : Int) + (N : Int) < (s.size : Int) := by omega
        have j7 : (7 : Int) + (N : Int) < (s.size : Int) := by omega
        have x6 := get_byte s (6 + N) k6
        have x7 := get_byte s (7 + N) k7
        have F6 := hid (fun h => firstF_sum (L := s.data.toList) (by rw [Hs.out]; omega) hn (by rw [Hs.out, HN.out]; omega) h)
        have F0 := hid (fun h h' => firstF_ok (L := s.data.toList) (by rw [Hs.out]; omega) hn (by rw [Hs.out, HN.out]; omega) h h')
        rw [HN.out, x6, x7] at F6 F0
        clear x6 x7 hn hl h8
        have b6 := UInt8.toNat_lt (s[6 + N]'k6)
        have b7 := UInt8.toNat_lt (s[7 + N]'k7)
        generalize hq0 : (sumL (s.data.toList.take (6 + N))).1 = q0 at *
        generalize hq1 : (sumL (s.data.toList.take (6 + N))).2 = q1 at *
        clear hq0 hq1
        by_cases e0 : ((s[6 + N]'k6).toNat : Int) = (q0 : Int)
        · have e0' : (((s[6 + N]'k6).toNat : Int) != (q0 : Int)) = false := by rw [bne_eq_false_iff_eq]; exact e0
          by_cases e1 : ((s[7 + N]'k7).toNat : Int) = (q1 : Int)
          · have e1' : (((s[7 + N]'k7).toNat : Int) != (q1 : Int)) = false := by rw [bne_eq_false_iff_eq]; exact e1
            have hF := F0.out (by omega) (by omega)
            have hV : firstV s.data.toList = .tuple #[.agg #[.string (s.extract 0 4), .string (s.extract 6 (6 + N))], .string (s.extract (8 + N) s.size), .nilIface] := by
              unfold firstV
              rw [hF, errV_zero, firstA_ok hF, firstD_ok hF, firstR_ok hF, HN.out, ← strOf_self' (s.extract 0 4), ← strOf_self' (s.extract 6 (6 + N)), ← strOf_self' (s.extract (8 + N) s.size), extract_list, extract_list, extract_list, List.drop_zero, List.take_of_length_le (i := s.size) (by rw [Hs.out]; omega)]
            have HV := hid hV
            clear hF hV F6 F0 e0 e1
            go_wp2_with fail
            have s1 : IntKind.i64.wrap ((6 : Int) + (N : Int)) = (6 : Int) + (N : Int) := IntWalk.i64_in _ (by omega)
            have s2 : IntKind.i64.wrap ((8 : Int) + (N : Int)) = (8 : Int) + (N : Int) := IntWalk.i64_in _ (by omega)
            have s3 : (0 : Int) ≤ (6 : Int) + (N : Int) := by omega
            have s4 : (0 : Int) ≤ (8 : Int) + (N : Int) := by omega
            have s5 : ((6 : Int) + (N : Int)).toNat = 6 + N := by omega
            have s6 : ((8 : Int) + (N : Int)).toNat = 8 + N := by omega
            have s7 : (6 : Int) ≤ (6 : Int) + (N : Int) := by omega
            have s8 : (6 : Int) + (N : Int) ≤ (s.size : Int) := by omega
            have s9 : (8 : Int) + (N : Int) ≤ (s.size : Int) := by omega
            have s10 : (4 : Int) ≤ (s.size : Int) := by omega
            go_region
            all_goals
              clear s1 s2
              go_wp2_with fail
              refine bodyPost_ret (v := .tuple #[.agg #[.string (s.extract 0 4), .string (s.extract 6 (6 + N))], .string (s.extract (8 + N) s.size), .nilIface]) (by simp [results, Tryd.results14, go_sem, d0, d1, g0, g1, hz2]) rfl ⟨ret_eq' HV.out, ?_⟩
              (repeat (first | with_reducible exact hB | with_reducible refine Below.alloc ?_ (by have := hB.size; simp; try omega) _ | with_reducible refine Below.setCell ?_ (by have := hB.size; simp; try omega) _ | with_reducible refine below_drewN ?_ _ | with_reducible refine Below.drew ?_))
          · have e1' : (((s[7 + N]'k7).toNat : Int) != (q1 : Int)) = true := by rw [bne_iff_ne]; exact e1
            have hV := hid (firstV_bad (L := s.data.toList) (F6.out (.inr (by omega))) (by decide))
            clear e0 e1 F6 F0
            go_wp2_with fail
            refine bodyPost_ret (v := .tuple #[.agg #[.string ⟨#[]⟩, .string ⟨#[]⟩], .string ⟨#[]⟩, .iface 63 (.int .i64 6)]) (by simp [results, Tryd.results14, go_sem, d0, d1, g0, g1, hz2]) rfl ⟨ret_eq' hV.out, ?_⟩
            (repeat (first | with_reducible exact hB | with_reducible refine Below.alloc ?_ (by have := hB.size; simp; try omega) _ | with_reducible refine Below.setCell ?_ (by have := hB.size; simp; try omega) _ | with_reducible refine below_drewN ?_ _ | with_reducible refine Below.drew ?_))
        · have e0' : (((s[6 + N]'k6).toNat : Int) != (q0 : Int)) = true := by rw [bne_iff_ne]; exact e0
          have hV := hid (firstV_bad (L := s.data.toList) (F6.out (.inl (by omega))) (by decide))
          clear e0 F6 F0
          go_wp2_with fail
          refine bodyPost_ret (v := .tuple #[.agg #[.string ⟨#[]⟩, .string ⟨#[]⟩], .string ⟨#[]⟩, .iface 63 (.int .i64 6)]) (by simp [results, Tryd.results14, go_sem, d0, d1, g0, g1, hz2]) rfl ⟨ret_eq' hV.out, ?_⟩
          (repeat (first | with_reducible exact hB | with_reducible refine Below.alloc ?_ (by have := hB.size; simp; try omega) _ | with_reducible refine Below.setCell ?_ (by have := hB.size; simp; try omega) _ | with_reducible refine below_drewN ?_ _ | with_reducible refine Below.drew ?_))
    · have hn' : nameB (s.data.toList.take 4) = false := by simpa using hn
      have hV := hid (firstV_bad (L := s.data.toList) (firstF_name (by rw [Hs.out]; omega) hn') (by decide))
      rw [hn']
      clear hn hn' h8
      go_wp2_with fail
      refine bodyPost_ret (v := .tuple #[.agg #[.string ⟨#[]⟩, .string ⟨#[]⟩], .string ⟨#[]⟩, .iface 63 (.int .i64 4)]) (by simp [results, Tryd.results14, go_sem, c0, c1, f0, f1, hz0]) rfl ⟨ret_eq' hV.out, ?_⟩
      (repeat (first | with_reducible exact hB | with_reducible refine Below.alloc ?_ (by have := hB.size; simp; try omega) _ | with_reducible refine Below.setCell ?_ (by have := hB.size; simp; try omega) _ | with_reducible refine below_drewN ?_ _ | with_reducible refine Below.drew ?_))
theorem results_four {fn : Func} {t u v x : Tmp} (h : fn.results = #[.tmp t, .tmp u, .tmp v, .tmp x]) (tmps : Array Value) (P : Program) (w : World) :
    (results fn tmps).run P w = .ok (.tuple #[tmps.getD t undef, tmps.getD u undef, tmps.getD v undef, tmps.getD x undef]) w := by simp [results, h]
end Fb
