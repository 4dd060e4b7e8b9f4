/- The walk of flickerbooktop.TopSum: it returns true and writes nothing that was there. Conditions: the texts are no longer than a Go text may be. -/
import Derived.Test.YtfbbocfmjahfoaaTopChunkW
import Derived.Test.YtfbbocfmjahfoaaSameWalk
import Derived.Laws.BitsAllLaws
import Derived.Laws.BitsLemmas
import Derived.RegionTactic
namespace Fb
open Go Go.Proofs Go.RowKit
theorem and_1023 (a : Int) : ∃ j : Nat, j ≤ 1023 ∧ bits .and .i64 a 1023 = (j : Int) := by
  refine ⟨(BitVec.ofInt 64 a &&& BitVec.ofInt 64 1023).toNat, ?_, ?_⟩
  · rw [BitVec.toNat_and]
    exact Nat.le_trans Nat.and_le_right (by decide)
  · have h : (BitVec.ofInt 64 a &&& BitVec.ofInt 64 1023).toNat ≤ 1023 := by
      rw [BitVec.toNat_and]
      exact Nat.le_trans Nat.and_le_right (by decide)
    show IntKind.i64.wrap ((BitVec.ofInt 64 a &&& BitVec.ofInt 64 1023).toNat : Int) = _
    rw [IntKind.wrap_i64]
    omega
theorem str_one_at (a : Int) (c : UInt8) (ha : a = (c.toNat : Int)) (g : Nat) (W : World) (hc : W.cell? ⟨g, 0, none⟩ = some (.int .u8 a)) :
    (convert 63 9 (.slice (some ⟨g, 0, none⟩) 1 1)).run Try.prog W = .ok (.string (strOf [c])) W := by
  subst ha
  refine run_string_row ⟨by simp [byteCells], fun _ => ⟨_, 0, rfl, World.block_lt_of_cell? W _ hc, fun j u hu => ?_⟩⟩ Try.underlying63 Try.underlying5 Try.underlying9
  match j, hu with
  | 0, hu => simp [byteCells] at hu; subst hu; exact hc
set_option maxRecDepth 100000 in
set_option maxHeartbeats 800000 in
theorem topSum_small (n d : ByteArray) (at_ by_ : Int) (w : World) (h : 200 < d.size ∨ (d.size ≤ 200 ∧ by_ < 1) ∨ (d.size ≤ 200 ∧ 1 ≤ by_ ∧ 255 < by_)) :
    Calls Try.prog 8 #[.string n, .string d, .int .i64 at_, .int .i64 by_] w (Ret (.bool true) w) := by
  have h0 : sumV [] = .tuple #[.int .i64 1, .int .i64 0] := rfl
  rcases h with h | ⟨g0, h⟩ | ⟨g0, g1, h⟩
  all_goals
    go_enter Try.func8, Try.ntmps8
    go_wp2_with fail
    refine (sum_any _ _ (by decide)).mono ?_
    rintro e w1 ⟨rfl, hb⟩
    rw [show ({ data := #[] } : ByteArray).data.toList = [] from rfl, h0]
    go_wp2_with fail
    go_ret
    exact ⟨rfl, hb⟩
set_option maxRecDepth 100000 in
set_option maxHeartbeats 800000 in
theorem topSum_walk (n d : Bs) (at_ by_ : Int) (w : World) (hn : n.length ≤ maxLen) (hd : d.length ≤ 200) (b1 : 1 ≤ by_) (b2 : by_ ≤ 255) :
    Calls Try.prog 8 #[.string (strOf n), .string (strOf d), .int .i64 at_, .int .i64 by_] w (Ret (.bool true) w) := by
  have h0 : sumV [] = .tuple #[.int .i64 1, .int .i64 0] := rfl
  have sd := strOf_size d
  obtain ⟨j, hj, hand⟩ := and_1023 at_
  go_enter Try.func8, Try.ntmps8
  go_wp2_with fail
  refine (sum_any _ _ (by decide)).mono ?_
  rintro e w1 ⟨rfl, hB1⟩
  rw [show ({ data := #[] } : ByteArray).data.toList = [] from rfl, h0]
  go_wp2_with fail
  refine (cbytes_any n d _ hn (by unfold maxLen; omega)).mono ?_
  rintro e w2 ⟨rfl, hb⟩
  have hB2 := bnext hB1 hb
  clear hB1 hb
  by_cases hf : chunkF n d = 0
  · rw [chunkV_fine hf]
    obtain ⟨hnm, hd6⟩ := chunkF_zero hf
    have hlen := chunkS_len (d := d) hnm
    have HS := hid (fun k c => spoilt (n := n) (d := d) (k := k) (c := c) hnm hd6)
    generalize chunkS n d = cs at *
    clear hf hnm hd6 hn
    have scs := strOf_size cs
    rw [hlen] at scs
    go_upto_region 10 with fail
    have hr : (j : Int) % ((d.length : Int) + 2) = ((j % (d.length + 2) : Nat) : Int) := by simp
    have hrl : j % (d.length + 2) < d.length + 2 := Nat.mod_lt _ (by omega)
    rw [hr]
    clear hr hand
    generalize j % (d.length + 2) = r at hrl
    have hw : wrap64 (6 + (r : Int)) = ((6 + r : Nat) : Int) := by
      unfold wrap64
      omega
    rw [hw]
    clear hw
    obtain ⟨k, hk⟩ : ∃ k, 6 + r = k := ⟨_, rfl⟩
    rw [hk]
    have hk6 : 6 ≤ k := by omega
    have hk8 : k < 8 + d.length := by omega
    clear hk hrl hj
    have hks : k < (strOf cs).size := by omega
    have hx := get_byte (strOf cs) k hks
    rw [strOf_data'] at hx
    have hb := UInt8.toNat_lt ((strOf cs)[k]'hks)
    have HS' := hid (fun c => HS.out k c hk6 hk8)
    rw [hx] at HS'
    clear HS hx
    obtain ⟨by', rfl⟩ : ∃ q : Nat, by_ = (q : Int) := ⟨by_.toNat, by omega⟩
    obtain ⟨m, hm⟩ : ∃ m : Nat, (((strOf cs)[k]'hks).toNat + by') % 256 = m := ⟨_, rfl⟩
    have hm' : (((((strOf cs)[k]'hks).toNat : Int) + (by' : Int)) % 256) = (m : Int) := by omega
    have hm256 : m < 256 := by omega
    have Hk := hid hk6
    go_upto_region 11 with fail
    rw [hm']
    clear hm hm'
    by_cases hq : (m : Int) % 251 = (((strOf cs)[k]'hks).toNat : Int) % 251
    · have hq' : ((m : Int) % 251 == (((strOf cs)[k]'hks).toNat : Int) % 251) = true := by simpa using hq
      clear hq
      go_wp2_with fail
      go_ret
      exact ⟨rfl, hB2⟩
    · have hq' : ((m : Int) % 251 == (((strOf cs)[k]'hks).toNat : Int) % 251) = false := by simpa using hq
      have hF := HS'.out (UInt8.ofNat m) (by rw [ofNat_lt hm256]; omega)
      have HF := hid hF
      have e0 : (strOf cs).extract 0 k = strOf (cs.take k) := by rw [extract_strOf, List.drop_zero]
      have e1 : (strOf cs).extract (k + 1) (8 + d.length) = strOf (cs.drop (k + 1)) := by rw [extract_strOf, List.take_of_length_le (by omega)]
      have happ := strOf_append
      have hset : cs.take k ++ UInt8.ofNat m :: cs.drop (k + 1) = cs.set k (UInt8.ofNat m) := (List.set_eq_take_append_cons_drop (l := cs) (i := k) (a := UInt8.ofNat m) ▸ by rw [if_pos (by omega)])
      have hst := str_one_at m (UInt8.ofNat m) (by rw [ofNat_lt hm256]) w2.heap.size
      have z1 : (strOf (cs.take k)).size + (strOf [UInt8.ofNat m]).size ≤ 1000000 := by rw [strOf_size, strOf_size]; simp; omega
      have z2 : (strOf (cs.take k ++ [UInt8.ofNat m])).size + (strOf (cs.drop (k + 1))).size ≤ 1000000 := by rw [strOf_size, strOf_size]; simp; omega
      have Hset := hid hset
      clear hF hq hset
      generalize hc : UInt8.ofNat m = c at *
      have Hc := hid hc
      clear hc
      go_wp2_with fail
      have s1 : IntKind.i64.wrap ((k : Int) + 1) = (k : Int) + 1 := IntWalk.i64_in _ (by omega)
      have s2 : (0 : Int) ≤ (k : Int) + 1 := by omega
      have s3 : ((k : Int) + 1).toNat = k + 1 := by omega
      have s4 : (k : Int) + 1 ≤ 8 + (d.length : Int) := by omega
      have s5 : (k : Int) ≤ 8 + (d.length : Int) := by omega
      have s6 : (m : Int) < 256 := by omega
      go_region
      all_goals
        clear s1 hst z1 z2
        go_wp2_with fail
        rw [Hset.out]
        refine (first_any _ _ (by rw [strOf_size, List.length_set]; omega)).mono ?_
        rintro e w3 ⟨rfl, hb⟩
        have hB3 := bnext (Below.drew (hB2.alloc hB2.size (.cells #[.int .u8 (m : Int)] 5))) hb
        clear hb
        rw [strOf_data', firstV_bad HF.out (by decide)]
        go_wp2_with fail
        refine (number_any 6 _ (by decide)).mono ?_
        rintro e w4 ⟨rfl, hb⟩
        go_wp2_with fail
        go_ret
        exact ⟨rfl, bnext hB3 hb⟩
  · rw [chunkV_err hf]
    go_wp2_with fail
    go_ret
    exact ⟨rfl, hB2⟩
theorem topSum_row (w : World) (n : ByteArray) (hn : n.size ≤ maxLen) (d : ByteArray) (_hd : d.size ≤ maxLen) (at_ : Int) (_h1 : (Lit.int .i64 at_).wf = true) (by_ : Int) (_h2 : (Lit.int .i64 by_).wf = true) :
    Calls Try.prog 8 #[.string n, .string d, .int .i64 at_, .int .i64 by_] w (Ret (.bool true) w) := by
  by_cases h : 200 < d.size ∨ (d.size ≤ 200 ∧ by_ < 1) ∨ (d.size ≤ 200 ∧ 1 ≤ by_ ∧ 255 < by_)
  · exact topSum_small n d at_ by_ w h
  · obtain ⟨n, rfl⟩ := str_lists n
    obtain ⟨d, rfl⟩ := str_lists d
    rw [strOf_size] at h hn
    exact topSum_walk n d at_ by_ w hn (by omega) (by omega) (by omega)
end Fb
