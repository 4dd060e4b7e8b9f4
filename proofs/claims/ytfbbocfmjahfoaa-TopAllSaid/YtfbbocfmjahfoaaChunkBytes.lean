/- chunk.Bytes and the reference's: they return what the plain law of chunks says. Conditions: a text is no longer than a Go text may be. -/
import Derived.Test.YtfbbocfmjahfoaaChunkWalk
import Derived.Test.YtfbbocfmjahfoaaPackWalk2
namespace Fb
open Go Go.Proofs Go.RowKit
theorem strOf_data' (l : Bs) : (strOf l).data.toList = l := by simp [strOf]
theorem strOf_list' (l : Bs) : (strOf l).toList = l := by unfold strOf; exact ByteArray.toList_mk l
theorem strOf_self' (s : ByteArray) : strOf s.data.toList = s := by unfold strOf; simp
theorem str_lists (s : ByteArray) : ∃ l : Bs, s = strOf l := ⟨_, (strOf_self' s).symm⟩
theorem str_two (a b : Int) (c0 c1 : UInt8) (ha : a = (c0.toNat : Int)) (hb : b = (c1.toNat : Int)) (w : World) :
    (convert 63 9 (.slice (some ⟨w.heap.size, 0, none⟩) 2 2)).run Try.prog (w.alloc (.cells #[.int .u8 a, .int .u8 b] 5)) = .ok (.string (strOf [c0, c1])) (w.alloc (.cells #[.int .u8 a, .int .u8 b] 5)) := by
  subst ha hb
  refine run_string_row ⟨by simp [byteCells], fun _ => ⟨_, 0, rfl, by simp, fun j u hu => ?_⟩⟩ Try.underlying63 Try.underlying5 Try.underlying9
  have := cell_two_new w (.int .u8 (c0.toNat : Int)) (.int .u8 (c1.toNat : Int)) 5 j u (by simpa [byteCells] using hu)
  by_cases hj : j = 0
  · subst hj; simpa [Addr.add] using this
  · simpa [Addr.add, hj] using this
def chunkV (n d : Bs) : Value := .tuple #[.string (strOf (chunkB n d)), errV (chunkF n d)]
def chunkN (n d : Bs) : Value := .tuple #[.string (strOf (chunkB n d)), .int .i64 (chunkF n d)]
theorem chunkV_bad {n d : Bs} {f : Nat} (h : chunkF n d = f) (hf : f ≠ 0) : chunkV n d = .tuple #[.string ByteArray.empty, errV f] := by
  unfold chunkV; rw [h, chunkB_bad (by rw [h]; exact hf)]; rfl
theorem chunkN_bad {n d : Bs} {f : Nat} (h : chunkF n d = f) (hf : f ≠ 0) : chunkN n d = .tuple #[.string ByteArray.empty, .int .i64 f] := by
  unfold chunkN; rw [h, chunkB_bad (by rw [h]; exact hf)]; rfl
theorem chunkV_ok {n d : Bs} {c0 c1 : UInt8} (h : chunkF n d = 0) (h0 : UInt8.ofNat d.length = c0) (h1 : UInt8.ofNat (d.length / 256) = c1) :
    chunkV n d = .tuple #[.string (strOf (n ++ c0 :: c1 :: (d ++ [UInt8.ofNat (sumL (n ++ c0 :: c1 :: d)).1, UInt8.ofNat (sumL (n ++ c0 :: c1 :: d)).2]))), .nilIface] := by
  unfold chunkV; rw [h, chunkB_ok h, errV_zero, ← h0, ← h1]; simp [chunkS, bodyL]
theorem chunkN_ok {n d : Bs} {c0 c1 : UInt8} (h : chunkF n d = 0) (h0 : UInt8.ofNat d.length = c0) (h1 : UInt8.ofNat (d.length / 256) = c1) :
    chunkN n d = .tuple #[.string (strOf (n ++ c0 :: c1 :: (d ++ [UInt8.ofNat (sumL (n ++ c0 :: c1 :: d)).1, UInt8.ofNat (sumL (n ++ c0 :: c1 :: d)).2]))), .int .i64 0] := by
  unfold chunkN; rw [h, chunkB_ok h, ← h0, ← h1]; simp [chunkS, bodyL]
set_option maxRecDepth 100000 in
set_option maxHeartbeats 400000 in
theorem cbytes_any (n d : Bs) (w : World) (hn : n.length ≤ maxLen) (hd : d.length ≤ maxLen) :
    Calls Try.prog 32 #[.agg #[.string (strOf n), .string (strOf d)]] w (Ret (chunkV n d) w) := by
  have hsn := strOf_size n
  have hsd := strOf_size d
  have Hn := hid hsn
  by_cases h1 : nameB n = true
  · by_cases h2 : 65535 < d.length
    · have hV := hid (chunkV_bad (chunkF_many h1 h2) (by decide))
      have H1 := hid h1
      clear h1
      go_enter Try.func32, Try.ntmps32
      go_wp2_with fail
      refine (name_any (strOf n) _ (by rw [Hn.out]; exact hn)).mono ?_
      rintro e w1 ⟨rfl, hb⟩
      rw [strOf_data', H1.out]
      have hb1 := ((Below.refl w.heap.size w).alloc (Nat.le_refl _) _).trans (hb.mono (by simp))
      obtain ⟨hc, hf⟩ := bcell hb
      clear hb
      go_wp2_with fail
      go_ret2
      exact ⟨ret_eq' hV.out, hb1⟩
    · have hn4 := nameB_four h1
      have hV := hid (fun c0 c1 => chunkV_ok (c0 := c0) (c1 := c1) (chunkF_ok h1 (show d.length ≤ 65535 by omega)))
      have H1 := hid h1
      have hn4' : n.length ≤ 4 := by omega
      clear h1 hn4
      obtain ⟨c0, hc0⟩ : ∃ c0, UInt8.ofNat d.length = c0 := ⟨_, rfl⟩
      obtain ⟨c1, hc1⟩ : ∃ c1, UInt8.ofNat (d.length / 256) = c1 := ⟨_, rfl⟩
      have hst := str_two ((d.length : Int) % 256) ((d.length : Int) / 256) c0 c1 (by rw [← hc0]; simp) (by rw [← hc1]; simp; omega)
      have HV := hid (hV.out c0 c1 hc0 hc1)
      have happ := strOf_append
      have hsz2 : (strOf n).size + (strOf [c0, c1]).size ≤ 1000000 := by rw [strOf_size, strOf_size]; simp; omega
      have hsz3 : (strOf (n ++ [c0, c1])).size + (strOf d).size ≤ 1000000 := by rw [strOf_size, strOf_size]; simp; omega
      clear hV hc0 hc1
      go_enter Try.func32, Try.ntmps32
      go_wp2_with fail
      refine (name_any (strOf n) _ (by rw [Hn.out]; exact hn)).mono ?_
      rintro e w1 ⟨rfl, hb⟩
      rw [strOf_data', H1.out]
      have hb1 := ((Below.refl w.heap.size w).alloc (Nat.le_refl _) _).trans (hb.mono (by simp))
      obtain ⟨hc, hf⟩ := bcell hb
      have hz0 := hb.size
      clear hb
      have hz : w.heap.size < w1.heap.size := by have := hb1.size; have := hz0; simp at this; omega
      go_wp2_with fail
      refine (sum_any (strOf (n ++ c0 :: c1 :: d)) _ (by rw [strOf_size]; simp; unfold maxLen; omega)).mono ?_
      rintro e w2 ⟨rfl, hb⟩
      rw [strOf_data']
      unfold sumV
      have hb2 := bnext ((hb1.alloc hb1.size _)) hb
      clear hb
      have hls := sumL_lt (n ++ c0 :: c1 :: d)
      have hst2 := str_two (((sumL (n ++ c0 :: c1 :: d)).1 : Nat) : Int) (((sumL (n ++ c0 :: c1 :: d)).2 : Nat) : Int) (UInt8.ofNat (sumL (n ++ c0 :: c1 :: d)).1) (UInt8.ofNat (sumL (n ++ c0 :: c1 :: d)).2) (by rw [ofNat_lt (by omega)]) (by rw [ofNat_lt (by omega)])
      generalize UInt8.ofNat (sumL (n ++ c0 :: c1 :: d)).1 = d0 at *
      generalize UInt8.ofNat (sumL (n ++ c0 :: c1 :: d)).2 = d1 at *
      have hsz4 : (strOf (n ++ c0 :: c1 :: d)).size + (strOf [d0, d1]).size ≤ 1000000 := by rw [strOf_size, strOf_size]; simp; omega
      generalize (sumL (n ++ c0 :: c1 :: d)).1 = q0 at *
      generalize (sumL (n ++ c0 :: c1 :: d)).2 = q1 at *
      clear hst
      go_wp2_with fail
      go_ret2
      exact ⟨ret_eq' HV.out, hb2.alloc hb2.size _⟩
  · have h1' : nameB n = false := by simpa using h1
    have hV := hid (chunkV_bad (d := d) (chunkF_name h1') (by decide))
    have H1 := hid h1'
    clear h1 h1'
    go_enter Try.func32, Try.ntmps32
    go_wp2_with fail
    refine (name_any (strOf n) _ (by rw [Hn.out]; exact hn)).mono ?_
    rintro e w1 ⟨rfl, hb⟩
    rw [strOf_data', H1.out]
    have hb1 := ((Below.refl w.heap.size w).alloc (Nat.le_refl _) _).trans (hb.mono (by simp))
    obtain ⟨hc, hf⟩ := bcell hb
    clear hb
    go_wp2_with fail
    go_ret2
    exact ⟨ret_eq' hV.out, hb1⟩
set_option maxRecDepth 100000 in
set_option maxHeartbeats 400000 in
theorem rcbytes_any (n d : Bs) (w : World) (hn : n.length ≤ maxLen) (hd : d.length ≤ maxLen) :
    Calls Try.prog 33 #[.string (strOf n), .string (strOf d)] w (Ret (chunkN n d) w) := by
  have hsn := strOf_size n
  have hsd := strOf_size d
  have Hn := hid hsn
  by_cases h1 : nameB n = true
  · by_cases h2 : 65535 < d.length
    · have hV := hid (chunkN_bad (chunkF_many h1 h2) (by decide))
      have H1 := hid h1
      clear h1
      go_enter Try.func33, Try.ntmps33
      go_wp2_with fail
      refine (rname_any (strOf n) _ (by rw [Hn.out]; exact hn)).mono ?_
      rintro e w1 ⟨rfl, hb⟩
      rw [strOf_data', H1.out]
      go_wp2_with fail
      go_ret2
      exact ⟨ret_eq' hV.out, hb⟩
    · have hn4 := nameB_four h1
      have hV := hid (fun c0 c1 => chunkN_ok (c0 := c0) (c1 := c1) (chunkF_ok h1 (show d.length ≤ 65535 by omega)))
      have H1 := hid h1
      have hn4' : n.length ≤ 4 := by omega
      clear h1 hn4
      obtain ⟨c0, hc0⟩ : ∃ c0, UInt8.ofNat d.length = c0 := ⟨_, rfl⟩
      obtain ⟨c1, hc1⟩ : ∃ c1, UInt8.ofNat (d.length / 256) = c1 := ⟨_, rfl⟩
      have hst := str_two ((d.length : Int) % 256) ((d.length : Int) / 256) c0 c1 (by rw [← hc0]; simp) (by rw [← hc1]; simp; omega)
      have HV := hid (hV.out c0 c1 hc0 hc1)
      have happ := strOf_append
      have hsz2 : (strOf n).size + (strOf [c0, c1]).size ≤ 1000000 := by rw [strOf_size, strOf_size]; simp; omega
      have hsz3 : (strOf (n ++ [c0, c1])).size + (strOf d).size ≤ 1000000 := by rw [strOf_size, strOf_size]; simp; omega
      clear hV hc0 hc1
      go_enter Try.func33, Try.ntmps33
      go_wp2_with fail
      refine (rname_any (strOf n) _ (by rw [Hn.out]; exact hn)).mono ?_
      rintro e w1 ⟨rfl, hb1⟩
      rw [strOf_data', H1.out]
      go_wp2_with fail
      refine (rsum_any (strOf (n ++ c0 :: c1 :: d)) _ (by rw [strOf_size]; simp; unfold maxLen; omega)).mono ?_
      rintro e w2 ⟨rfl, hb⟩
      rw [strOf_data']
      unfold sumV
      have hb2 := bnext ((hb1.alloc hb1.size _)) hb
      clear hb
      have hls := sumL_lt (n ++ c0 :: c1 :: d)
      have hst2 := str_two (((sumL (n ++ c0 :: c1 :: d)).1 : Nat) : Int) (((sumL (n ++ c0 :: c1 :: d)).2 : Nat) : Int) (UInt8.ofNat (sumL (n ++ c0 :: c1 :: d)).1) (UInt8.ofNat (sumL (n ++ c0 :: c1 :: d)).2) (by rw [ofNat_lt (by omega)]) (by rw [ofNat_lt (by omega)])
      generalize UInt8.ofNat (sumL (n ++ c0 :: c1 :: d)).1 = d0 at *
      generalize UInt8.ofNat (sumL (n ++ c0 :: c1 :: d)).2 = d1 at *
      have hsz4 : (strOf (n ++ c0 :: c1 :: d)).size + (strOf [d0, d1]).size ≤ 1000000 := by rw [strOf_size, strOf_size]; simp; omega
      generalize (sumL (n ++ c0 :: c1 :: d)).1 = q0 at *
      generalize (sumL (n ++ c0 :: c1 :: d)).2 = q1 at *
      clear hst
      go_wp2_with fail
      go_ret2
      exact ⟨ret_eq' HV.out, hb2.alloc hb2.size _⟩
  · have h1' : nameB n = false := by simpa using h1
    have hV := hid (chunkN_bad (d := d) (chunkF_name h1') (by decide))
    have H1 := hid h1'
    clear h1 h1'
    go_enter Try.func33, Try.ntmps33
    go_wp2_with fail
    refine (rname_any (strOf n) _ (by rw [Hn.out]; exact hn)).mono ?_
    rintro e w1 ⟨rfl, hb⟩
    rw [strOf_data', H1.out]
    go_wp2_with fail
    go_ret2
    exact ⟨ret_eq' hV.out, hb⟩
end Fb
