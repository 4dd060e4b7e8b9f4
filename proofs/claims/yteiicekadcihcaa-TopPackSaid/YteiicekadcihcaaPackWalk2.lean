/- The reference's Packed returns what the plain law of packing says. Condition: the text has at most a million bytes. -/
import Derived.Test.YteiicekadcihcaaPackWalk
set_option linter.unusedSimpArgs false
set_option linter.unusedVariables false
namespace Fb
open Go Go.Proofs Go.RowKit
theorem rp_flush {L B : List UInt8} {k m : Nat} (h : PackInv L B (k - m)) (hmk : m ≤ k) (hk : k < L.length) (h255 : m + 1 ≤ 255) (hs : SameRun L (k - m) (m + 1)) (he : k + 1 = L.length ∨ (k + 1 < L.length ∧ L[k + 1]? ≠ L[k]?) ∨ m + 1 = 255) :
    PackInv L (B ++ [UInt8.ofNat (m + 1), L[k]]) (k + 1) := by
  obtain ⟨j, rfl⟩ : ∃ j, k = j + m := ⟨k - m, by omega⟩
  have e : j + m - m = j := by omega
  rw [e] at h hs
  exact h.flush hk h255 hs he
theorem rp_more {L : List UInt8} {k m : Nat} (hmk : m ≤ k) (hs : SameRun L (k - m) (m + 1)) (e : L[k + 1]? = L[k]?) : SameRun L (k + 1 - (m + 1)) (m + 1 + 1) := by
  obtain ⟨j, rfl⟩ : ∃ j, k = j + m := ⟨k - m, by omega⟩
  have e1 : j + m - m = j := by omega
  have e2 : j + m + 1 - (m + 1) = j := by omega
  rw [e1] at hs
  rw [e2]
  exact hs.more e
theorem rp_inv {L B : List UInt8} {k m : Nat} (h : PackInv L B (k - m)) : PackInv L B (k + 1 - (m + 1)) := by
  rw [show k + 1 - (m + 1) = k - m from by omega]; exact h
theorem str2_row (w : World) (q : Nat) (n : Int) (m : Nat) (hn : n = (m : Int)) (hm : m ≤ 255) (c : UInt8) (t : TypeId) : Row ((w.drewN q).alloc (.cells #[.int .u8 n, .int .u8 (c.toNat : Int)] t)) (some ⟨w.heap.size, 0, none⟩) 2 1 (byteCells [UInt8.ofNat m, c]) := by
  subst hn
  refine ⟨by simp [byteCells], fun _ => ⟨_, 0, rfl, by simp, fun j u hu => ?_⟩⟩
  have e : byteCells [UInt8.ofNat m, c] = [.int .u8 (m : Int), .int .u8 (c.toNat : Int)] := by simp [byteCells, Nat.mod_eq_of_lt (show m < 256 by omega)]
  rw [e] at hu
  have := cell_two_new (w.drewN q) _ _ t j u hu
  by_cases hj : j = 0
  · subst hj; simpa [Addr.add] using this
  · simpa [Addr.add, hj] using this
theorem strOf_append (a b : List UInt8) : strOf a ++ strOf b = strOf (a ++ b) := by
  unfold strOf
  rw [ByteArray.mk_append_mk]
theorem strOf_size (a : List UInt8) : (strOf a).size = a.length := by simp [strOf, ByteArray.size]
set_option maxRecDepth 100000 in
set_option maxHeartbeats 1000000 in
theorem rpacked_any (s : ByteArray) (w : World) (hs : s.size ≤ 1000000) :
    Calls Try.prog 16 #[.string s] w (Ret (.string (strOf (pack s.data.toList))) w) := by
  have hsz : s.data.toList.length = s.size := by simp
  have Hsz := hid hsz
  clear hsz
  go_enter Try.func16, Try.ntmps16
  go_wp2
  go_loopw [3, 4, 5] (fun o n i wr => ∃ (k m : Nat) (B : List UInt8), k ≤ s.size ∧ i = .int .i64 k ∧ n = .int .i64 m ∧ m ≤ k ∧ m ≤ 254 ∧ o = .string (strOf B) ∧ B.length ≤ 2 * k ∧ (k < s.size → SameRun s.data.toList (k - m) (m + 1)) ∧ (k = s.size → m = 0) ∧ PackInv s.data.toList B (k - m) ∧ Below w.heap.size w wr) (fun _ _ i _ => s.size - (intOf i).toNat)
  case atStart => exact ⟨0, 0, [], by omega, rfl, rfl, by omega, by omega, rfl, by simp, fun _ => SameRun.one _ _, fun _ => rfl, PackInv.start _, Below.refl _ _⟩
  case round =>
    obtain ⟨k, m, B, hk, rfl, rfl, hmk, hm, rfl, hB, HS0, H0, HP, hbel⟩ := hrel
    by_cases hlt : k < s.size
    · have HS := HS0 hlt
      clear H0 HS0
      have hl : k < s.data.toList.length := by rw [Hsz.out]; exact hlt
      have flush : ∀ (q : Nat), (k + 1 = s.data.toList.length ∨ (k + 1 < s.data.toList.length ∧ s.data.toList[k + 1]? ≠ s.data.toList[k]?) ∨ m + 1 = 255) → PackInv s.data.toList (B ++ [UInt8.ofNat (m + 1), s.data.toList[k]]) (k + 1) := fun q he => rp_flush HP hmk hl (by omega) HS he
      have hst0 : ∀ q : Nat, _ := fun q => run_string_row (P := Try.prog) (c := 2) (src := 47) (dst := 9) (str2_row wr q ((m : Int) + 1) (m + 1) (by omega) (by omega) s[k] 5) Try.underlying47 Try.underlying5 Try.underlying9
      go_upto_region 7 with fail
      go_cut [32] (fun t wi => ∃ (b : Bool) (q : Nat), t = .bool b ∧ wi = wr.drewN q ∧ (b = true → k + 1 = s.data.toList.length ∨ (k + 1 < s.data.toList.length ∧ s.data.toList[k + 1]? ≠ s.data.toList[k]?) ∨ m + 1 = 255) ∧ (b = false → k + 1 < s.size ∧ m + 1 < 255 ∧ s.data.toList[k + 1]? = s.data.toList[k]?))
      case first =>
        clear flush hst0 HS HP hbel
        have e1 : IntKind.i64.wrap ((k : Int) + 1) = (k : Int) + 1 := IntWalk.i64_in _ (by omega)
        have e2 : 0 ≤ (k : Int) + 1 := by omega
        have e3 : ((k : Int) + 1).toNat = k + 1 := by omega
        have e6 : (k : Int) < (s.size : Int) := by omega
        by_cases g1 : k + 1 = s.size
        · have g1' : ((k : Int) + 1 == (s.size : Int)) = true := by simp; omega
          go_quiet (fail)
          go_wp2_with fail
          go_meet
          case rel => exact ⟨true, nq, rfl, rfl, fun _ => .inl (by rw [Hsz.out]; exact g1), fun h => by cases h⟩
        · have g1' : ((k : Int) + 1 == (s.size : Int)) = false := by simp; omega
          have g2 : (k : Int) + 1 < (s.size : Int) := by omega
          have g3 : k + 1 < s.size := by omega
          by_cases g4 : s[k + 1] = s[k]
          · have g4' : (((s[k + 1]'g3).toNat : Int) != ((s[k]'hlt).toNat : Int)) = false := by rw [g4]; simp
            go_quiet (fail)
            go_wp2_with fail
            go_meet
            case rel =>
              have ge := byte_eq' g3 hlt g4
              refine ⟨decide (m + 1 = 255), nq, ?_, rfl, fun h => .inr (.inr (by simpa using h)), fun h => ⟨g3, by simp at h; omega, ge⟩⟩
              congr 1
              rw [Bool.eq_iff_iff]
              simp
              omega
          · have g4' : (((s[k + 1]'g3).toNat : Int) != ((s[k]'hlt).toNat : Int)) = true := by
              simp; intro h; exact g4 (UInt8.toNat.inj (by omega))
            go_quiet (fail)
            go_wp2_with fail
            go_meet
            case rel => exact ⟨true, nq, rfl, rfl, fun _ => .inr (.inl ⟨by rw [Hsz.out]; exact g3, byte_ne' g3 hlt g4⟩), fun h => by cases h⟩
      case rest =>
        obtain ⟨b, q, rfl, rfl, ht, hf⟩ := hcut
        cases b
        · have hf' := hf rfl
          clear hf ht flush hst0
          go_wp2_with fail
          go_roundw
          case rel => exact ⟨k + 1, m + 1, B, by omega, by go_num, by go_num, by omega, by omega, rfl, by omega, fun _ => rp_more hmk HS hf'.2.2, fun h => by omega, rp_inv HP, below_drewN hbel q⟩
          case measure => simp [intOf]; omega
        · have HP' := flush 0 (ht rfl)
          have hst := hst0 q
          clear hf ht flush HP HS hst0
          generalize UInt8.ofNat (m + 1) = c0 at hst HP'
          have hA : (strOf B).size + (strOf [c0, s[k]]).size ≤ 3000000 := by simp [strOf_size]; omega
          go_wp2_with fail
          go_roundw
          case rel => exact ⟨k + 1, 0, _, by omega, by go_num, rfl, by omega, by omega, congrArg Value.string (strOf_append _ _), by simp; omega, fun _ => SameRun.one _ _, fun h => rfl, HP', (below_drewN hbel q).alloc (by simpa using hbel.size) _⟩
          case measure => simp [intOf]; omega
    · have hks : k = s.size := by omega
      have hm0 := H0 hks
      have HP' := hid (HP.done (by rw [Hsz.out]; omega))
      clear HS0 H0 HP hks hm0
      go_wp2
      go_ret
      exact ⟨ret_str (by rw [HP'.out]), hbel⟩
end Fb
