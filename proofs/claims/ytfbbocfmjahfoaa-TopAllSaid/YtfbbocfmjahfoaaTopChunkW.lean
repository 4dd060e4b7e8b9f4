/- The walk of flickerbooktop.TopChunk: it returns true and writes nothing that was there. Conditions: the texts are no longer than a Go text may be. -/
import Derived.Test.YtfbbocfmjahfoaaChunkFirst
namespace Fb
open Go Go.Proofs Go.RowKit
theorem name_WAIT : nameB [87, 65, 73, 84] = true := by decide
theorem name_wait : nameB [119, 97, 105, 116] = false := by decide
theorem chunkV_err {n d : Bs} (h : chunkF n d ≠ 0) : chunkV n d = .tuple #[.string ByteArray.empty, .iface 94 (.int .i64 (chunkF n d))] := by
  rw [chunkV_bad rfl h, errV_pos h]
theorem chunkV_fine {n d : Bs} (h : chunkF n d = 0) : chunkV n d = .tuple #[.string (strOf (chunkS n d)), .nilIface] := by
  unfold chunkV; rw [h, chunkB_ok h, errV_zero]
theorem firstV_chunk {n d r : Bs} (h : chunkF n d = 0) : firstV (chunkS n d ++ r) = .tuple #[.agg #[.string (strOf n), .string (strOf d)], .string (strOf r), .nilIface] := by
  obtain ⟨h1, h2⟩ := chunkF_zero h
  unfold firstV
  rw [firstF_chunk h1 h2, firstA_chunk h1 h2, firstD_chunk h1 h2, firstR_chunk h1 h2, errV_zero]
set_option maxRecDepth 100000 in
set_option maxHeartbeats 800000 in
theorem topChunk_walk (n d r : Bs) (w : World) (hn : n.length ≤ maxLen) (hd : d.length ≤ maxLen) (hr : r.length ≤ maxLen) :
    Calls Try.prog 7 #[.string (strOf n), .string (strOf d), .string (strOf r)] w (Ret (.bool true) w) := by
  have sn := strOf_size n
  have sd := strOf_size d
  have sr := strOf_size r
  have h1 := name_WAIT
  have h2 := name_wait
  have g : ∀ (K : n.length ≤ 10 → d.length ≤ 500 → r.length ≤ 500 → Calls Try.prog 7 #[.string (strOf n), .string (strOf d), .string (strOf r)] w (Ret (.bool true) w)),
      Calls Try.prog 7 #[.string (strOf n), .string (strOf d), .string (strOf r)] w (Ret (.bool true) w) := by
    intro K
    by_cases k1 : 10 < n.length
    · clear K
      go_enter Try.func7, Try.ntmps7
      go_wp2_with fail
      refine (name_any _ _ (by decide)).mono ?_
      rintro e w1 ⟨rfl, hb⟩
      rw [show ({ data := #[87, 65, 73, 84] } : ByteArray).data.toList = [87, 65, 73, 84] from rfl, h1]
      go_wp2_with fail
      refine (name_any _ _ (by decide)).mono ?_
      rintro e w2 ⟨rfl, hb2⟩
      rw [show ({ data := #[119, 97, 105, 116] } : ByteArray).data.toList = [119, 97, 105, 116] from rfl, h2]
      go_wp2_with fail
      go_ret
      exact ⟨rfl, bnext hb hb2⟩
    by_cases k2 : 500 < d.length
    · clear K
      go_enter Try.func7, Try.ntmps7
      go_wp2_with fail
      refine (name_any _ _ (by decide)).mono ?_
      rintro e w1 ⟨rfl, hb⟩
      rw [show ({ data := #[87, 65, 73, 84] } : ByteArray).data.toList = [87, 65, 73, 84] from rfl, h1]
      go_wp2_with fail
      refine (name_any _ _ (by decide)).mono ?_
      rintro e w2 ⟨rfl, hb2⟩
      rw [show ({ data := #[119, 97, 105, 116] } : ByteArray).data.toList = [119, 97, 105, 116] from rfl, h2]
      go_wp2_with fail
      go_ret
      exact ⟨rfl, bnext hb hb2⟩
    by_cases k3 : 500 < r.length
    · clear K
      go_enter Try.func7, Try.ntmps7
      go_wp2_with fail
      refine (name_any _ _ (by decide)).mono ?_
      rintro e w1 ⟨rfl, hb⟩
      rw [show ({ data := #[87, 65, 73, 84] } : ByteArray).data.toList = [87, 65, 73, 84] from rfl, h1]
      go_wp2_with fail
      refine (name_any _ _ (by decide)).mono ?_
      rintro e w2 ⟨rfl, hb2⟩
      rw [show ({ data := #[119, 97, 105, 116] } : ByteArray).data.toList = [119, 97, 105, 116] from rfl, h2]
      go_wp2_with fail
      go_ret
      exact ⟨rfl, bnext hb hb2⟩
    exact K (by omega) (by omega) (by omega)
  refine g ?_
  intro k1 k2 k3
  clear g hn hd hr
  go_enter Try.func7, Try.ntmps7
  go_wp2_with fail
  refine (name_any _ _ (by decide)).mono ?_
  rintro e w1 ⟨rfl, hb⟩
  rw [show ({ data := #[87, 65, 73, 84] } : ByteArray).data.toList = [87, 65, 73, 84] from rfl, h1]
  go_wp2_with fail
  refine (name_any _ _ (by decide)).mono ?_
  rintro e w2 ⟨rfl, hb2⟩
  rw [show ({ data := #[119, 97, 105, 116] } : ByteArray).data.toList = [119, 97, 105, 116] from rfl, h2]
  have hB := bnext hb hb2
  clear hb hb2 h1 h2
  go_wp2_with fail
  refine (cbytes_any n d _ (by unfold maxLen; omega) (by unfold maxLen; omega)).mono ?_
  rintro e w3 ⟨rfl, hb⟩
  have hB3 := bnext hB hb
  clear hB hb
  by_cases hf : chunkF n d = 0
  · rw [chunkV_fine hf]
    have hV := hid (firstV_chunk (r := r) hf)
    obtain ⟨hnm, -⟩ := chunkF_zero hf
    have hlen := chunkS_len (d := d) hnm
    have happ := strOf_append (chunkS n d) r
    have hsz : (strOf (chunkS n d)).size + (strOf r).size ≤ 1000000 := by rw [strOf_size, sr, hlen]; omega
    clear hf hnm hlen
    go_wp2_with fail
    refine (first_any _ _ (by rw [strOf_size]; rw [strOf_size, sr] at hsz; simp; omega)).mono ?_
    rintro e w4 ⟨rfl, hb⟩
    have hB := bnext hB3 hb
    clear hb hB3
    rw [strOf_data', hV.out]
    go_wp2_with fail
    go_ret
    refine ⟨rfl, ?_⟩
    (repeat (first | with_reducible exact hB | with_reducible refine Below.alloc ?_ (by have := hB.size; simp; try omega) _ | with_reducible refine Below.setCell ?_ (by have := hB.size; simp; try omega) _ | with_reducible refine below_drewN ?_ _ | with_reducible refine Below.drew ?_))
  · rw [chunkV_err hf]
    have hnm : nameB n = false := by
      cases h : nameB n
      · rfl
      · exact absurd (chunkF_ok h (by omega)) hf
    have Hnm := hid hnm
    clear hf hnm
    go_wp2_with fail
    refine (name_any _ _ (by rw [sn]; unfold maxLen; omega)).mono ?_
    rintro e w4 ⟨rfl, hb⟩
    have hB := bnext hB3 hb
    clear hb hB3
    rw [strOf_data', Hnm.out]
    go_wp2_with fail
    go_ret
    exact ⟨rfl, hB⟩
theorem topChunk_row (w : World) (n : ByteArray) (hn : n.size ≤ maxLen) (d : ByteArray) (hd : d.size ≤ maxLen) (r : ByteArray) (hr : r.size ≤ maxLen) :
    Calls Try.prog 7 #[.string n, .string d, .string r] w (Ret (.bool true) w) := by
  obtain ⟨n, rfl⟩ := str_lists n
  obtain ⟨d, rfl⟩ := str_lists d
  obtain ⟨r, rfl⟩ := str_lists r
  rw [strOf_size] at hn hd hr
  exact topChunk_walk n d r w hn hd hr
end Fb
