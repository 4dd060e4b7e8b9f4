/- pack.Pack, pack.Unpack and the reference's two return what the plain laws of packing say. Conditions: the text has at most a million bytes. The reference's Packed returns what the plain law of packing says. Condition: the text has at most a million bytes. pack.Unpack returns what the plain law of unpacking says. Conditions: at most a million bytes, and a bound below a thousand millions. -/
import Derived.Test.YtcmbbicemddggaaDoorProg
import Derived.Test.YtcmbbicemddggaaDoorPlainA
import Derived.Test.YtcmbbicemddggaaDoorPicInts
import Derived.Deep.QuietTactic
import Derived.BigQuiet
import Derived.Deep.CutBlock
import Derived.Deep.DeepCutAuto
namespace Fb
open Go Go.Proofs Go.RowKit
theorem info5 : (Tryd.prog.info? 5).map (fun i => (i.zero, i.size, i.bytes)) = some (some (.int .u8 0), 1, 1) := by kernel_rfl
theorem own_push2 {w1 : World} {base : Nat} {v' : Value} {B : List UInt8} {m : Nat} {c : UInt8} (hm : m ≤ 255) (hown' : w1.ownsRow base 5 1 v' (B.length + 2) (byteCells B ++ [.int .u8 (m : Int), .int .u8 (c.toNat : Int)])) :
    w1.ownsRow base 5 1 v' (B ++ [UInt8.ofNat m, c]).length (byteCells (B ++ [UInt8.ofNat m, c])) := by
  simpa [byteCells, Nat.mod_eq_of_lt (show m < 256 by omega)] using hown'
theorem byte_eq {s : ByteArray} {i j : Nat} (hi : i < s.size) (hj : j < s.size) (h : (((s[i]'hi).toNat : Int) == ((s[j]'hj).toNat : Int)) = true) : s.data.toList[i]? = s.data.toList[j]? := by
  have e0 : (((s[i]'hi).toNat : Int)) = ((s[j]'hj).toNat : Int) := by simpa using h
  have e : (s[i]'hi).toNat = (s[j]'hj).toNat := by omega
  have e' : s[i]'hi = s[j]'hj := UInt8.toNat.inj e
  rw [List.getElem?_eq_getElem (by simpa using hi), List.getElem?_eq_getElem (by simpa using hj)]
  exact congrArg some e'
theorem byte_eq' {s : ByteArray} {i j : Nat} (hi : i < s.size) (hj : j < s.size) (e' : s[i]'hi = s[j]'hj) : s.data.toList[i]? = s.data.toList[j]? := by
  rw [List.getElem?_eq_getElem (by simpa using hi), List.getElem?_eq_getElem (by simpa using hj)]
  exact congrArg some e'
theorem byte_ne' {s : ByteArray} {i j : Nat} (hi : i < s.size) (hj : j < s.size) (h : ¬ s[i]'hi = s[j]'hj) : s.data.toList[i]? ≠ s.data.toList[j]? := by
  intro e
  rw [List.getElem?_eq_getElem (by simpa using hi), List.getElem?_eq_getElem (by simpa using hj)] at e
  exact h (by injection e)
theorem byte_ne {s : ByteArray} {i j : Nat} (hi : i < s.size) (hj : j < s.size) (h : (((s[i]'hi).toNat : Int) == ((s[j]'hj).toNat : Int)) = false) : s.data.toList[i]? ≠ s.data.toList[j]? := by
  intro e
  rw [List.getElem?_eq_getElem (by simpa using hi), List.getElem?_eq_getElem (by simpa using hj)] at e
  have e' : s[i]'hi = s[j]'hj := by injection e
  rw [e'] at h
  simp at h
set_option maxRecDepth 100000 in
set_option maxHeartbeats 1000000 in
theorem pack_any (s : ByteArray) (w : World) (hs : s.size ≤ 1000000) :
    Calls Tryd.prog 53 #[.string s] w (Ret (.string (strOf (pack s.data.toList))) w) := by
  obtain ⟨i0, hi, hz0, hz1, hz2⟩ := info_parts info5
  have hsz : s.data.toList.length = s.size := by simp
  have Hsz := hid hsz
  clear hsz
  go_enter Tryd.func53, Tryd.ntmps53
  go_wp2
  go_loopw [3, 4] (fun b i wr => ∃ (k : Nat) (B : List UInt8), k ≤ s.size ∧ i = .int .i64 k ∧ wr.ownsRow w.heap.size 5 1 b B.length (byteCells B) ∧ B.length ≤ 2 * k ∧ PackInv s.data.toList B k ∧ Below w.heap.size w wr) (fun _ i _ => s.size - (intOf i).toNat)
  case atStart => exact ⟨0, [], by omega, rfl, World.ownsRow_nil _ _ _ _, by simp, PackInv.start _, Below.refl _ _⟩
  case round =>
    obtain ⟨k, B, hk, rfl, hown, hB, HP, hbel⟩ := hrel
    by_cases hlt : k < s.size
    · obtain ⟨wo, rfl⟩ : ∃ wo : World, wo = wr := ⟨_, rfl⟩
      go_upto_block 2 with fail
      go_cut [5] (fun n wi => ∃ m q : Nat, n = .int .i64 m ∧ 1 ≤ m ∧ m ≤ 255 ∧ k + m ≤ s.size ∧ SameRun s.data.toList k m ∧ (m = 255 ∨ k + m = s.data.toList.length ∨ (k + m < s.data.toList.length ∧ s.data.toList[k + m]? ≠ s.data.toList[k]?)) ∧ wi = wo.drewN q)
      case first =>
        clear hown HP hbel
        go_wp2_with fail
        go_loopw [5] (fun n wi => ∃ m q : Nat, n = .int .i64 m ∧ 1 ≤ m ∧ m ≤ 255 ∧ k + m ≤ s.size ∧ SameRun s.data.toList k m ∧ wi = wo.drewN q) (fun n _ => s.size - (intOf n).toNat)
        case atStart => exact ⟨1, 0, rfl, by omega, by omega, by omega, SameRun.one _ _, rfl⟩
        case round =>
          obtain ⟨m, q, rfl, h1, h2, h3, HS, rfl⟩ := hrel
          have e1 : IntKind.i64.wrap ((k : Int) + (m : Int)) = (k : Int) + (m : Int) := IntWalk.i64_in _ (by omega)
          have e2 : 0 ≤ (k : Int) + (m : Int) := by omega
          have e3 : ((k : Int) + (m : Int)).toNat = k + m := by omega
          have e6 : (k : Int) < (s.size : Int) := by omega
          by_cases g1 : k + m < s.size
          · have g1' : (k : Int) + (m : Int) < (s.size : Int) := by omega
            by_cases g2 : m < 255
            · have g2' : (m : Int) < 255 := by omega
              go_wp2_with fail
              go_quiet (fail)
              clear e1
              go_wp2_with fail
              · go_roundw
                case rel =>
                  refine ⟨m + 1, q + nq, by go_num, by omega, by omega, by omega, HS.succ ?_, by simp⟩
                  exact byte_eq g1 hlt (by assumption)
                case measure => simp [intOf]; omega
              · go_meet
                case rel =>
                  exact ⟨m, q + nq, rfl, h1, h2, h3, HS, .inr (.inr ⟨by rw [Hsz.out]; exact g1, byte_ne g1 hlt (by assumption)⟩), by simp⟩
            · have g2' : decide ((m : Int) < 255) = false := by simp; omega
              go_wp2_with fail
              go_quiet (fail)
              clear e1
              go_wp2_with fail
              go_meet
              case rel =>
                exact ⟨m, q + nq, rfl, h1, h2, h3, HS, .inl (by omega), by simp [World.drewN_drewN]⟩
          · have g1' : decide ((k : Int) + (m : Int) < (s.size : Int)) = false := by simp; omega
            go_wp2_with fail
            go_quiet (fail)
            clear e1
            go_wp2_with fail
            go_meet
            case rel =>
              exact ⟨m, q + nq, rfl, h1, h2, h3, HS, .inr (.inl (by rw [Hsz.out]; omega)), by simp [World.drewN_drewN]⟩
      case rest =>
        obtain ⟨m, q, rfl, h1, h2, h3, HS, he, rfl⟩ := hcut
        go_wp2_with (at_builtin; refine wpList_append_own _ rfl _ _ 55 rfl w.heap.size 5 i0 (.int .u8 0) 1 1 Tryd.underlying55 hi hz0 hz1 hz2 rfl (by decide) _ _ _ rfl (World.ownsRow.alloc (w := wo.drewN q) hown _) ⟨wo.heap.size, 0, none⟩ 2 2 [.int .u8 (m : Int), .int .u8 (s[k].toNat : Int)] rfl rfl ?c1 ?c2 ?c3 ?c4 ?c5 ?_)
        case c1 => exact cell_two_new (wo.drewN q) _ _ _
        case c2 => intro u hu; simp at hu; rcases hu with rfl | rfl <;> rfl
        case c3 => unfold maxLen; omega
        case c4 => omega
        case c5 => have := hbel.size; simp; omega
        intro v' w1 hown' hgrow _
        have HO := own_push2 h2 hown'
        have hbel1 : Below w.heap.size w w1 := ((below_drewN hbel q).alloc (by have := hbel.size; simpa using this) _).grown hgrow (by have := hbel.size; simp; omega) (fun g hg => (hown.lt g hg).1)
        have hl : k < s.data.toList.length := by rw [Hsz.out]; exact hlt
        have hl2 : k + m ≤ s.data.toList.length := by rw [Hsz.out]; exact h3
        have HP' := HP.step h1 hl2 h2 HS he
        clear hown' hgrow hown HP he
        go_wp2_with fail
        go_roundw
        case rel => exact ⟨k + m, _, by omega, by go_num, HO, by simp; omega, HP', hbel1⟩
        case measure => simp [intOf]; omega
    · have hstr := fun (c : Nat) A (hx : Row wr A B.length 1 (byteCells B)) => run_string_row (c := c) (src := 55) (dst := 9) hx Tryd.underlying55 Tryd.underlying5 Tryd.underlying9
      obtain ⟨A, c, rfl, -, -⟩ := own_slice hown
      have hst := hstr c A (Row.of_own hown)
      have HP' := hid (HP.done (by rw [Hsz.out]; omega))
      clear hstr hown HP
      go_wp2
      go_ret
      exact ⟨ret_str (by rw [HP'.out]), hbel⟩
end Fb
namespace Fb
open Go Go.Proofs Go.RowKit
theorem rp_flush {L B : List UInt8} {k m : Nat} (h : PackInv L B (k - m)) (hmk : m ≤ k) (hk : k < L.length) (h255 : m + 1 ≤ 255) (hs : SameRun L (k - m) (m + 1)) (he : k + 1 = L.length ∨ (k + 1 < L.length ∧ L[k + 1]? ≠ L[k]?) ∨ m + 1 = 255) :
    PackInv L (B ++ [UInt8.ofNat (m + 1), L[k]]) (k + 1) := by
  obtain ⟨j, rfl⟩ : ∃ j, k = j + m := ⟨k - m, by omega⟩
  have e : j + m - m = j := by omega
  rw [e] at h hs
  exact h.flush hk h255 hs he
theorem rp_more {L : List UInt8} {k m : Nat} (hmk : m ≤ k) (hs : SameRun L (k - m) (m + 1)) (e : L[k + 1]? = L[k]?) : SameRun L (k + 1 - (m + 1)) (m + 1 + 1) := by
  obtain ⟨j, rfl⟩ : ∃ j, k = j + m := ⟨k - m, by omega⟩
  have e1 : j + m - m = j := by omega
  have e2 : j + m + 1 - (m + 1) = j := by omega
  rw [e1] at hs
  rw [e2]
  exact hs.more e
theorem rp_inv {L B : List UInt8} {k m : Nat} (h : PackInv L B (k - m)) : PackInv L B (k + 1 - (m + 1)) := by
  rw [show k + 1 - (m + 1) = k - m from by omega]; exact h
theorem str2_row (w : World) (q : Nat) (n : Int) (m : Nat) (hn : n = (m : Int)) (hm : m ≤ 255) (c : UInt8) (t : TypeId) : Row ((w.drewN q).alloc (.cells #[.int .u8 n, .int .u8 (c.toNat : Int)] t)) (some ⟨w.heap.size, 0, none⟩) 2 1 (byteCells [UInt8.ofNat m, c]) := by
  subst hn
  refine ⟨by simp [byteCells], fun _ => ⟨_, 0, rfl, by simp, fun j u hu => ?_⟩⟩
  have e : byteCells [UInt8.ofNat m, c] = [.int .u8 (m : Int), .int .u8 (c.toNat : Int)] := by simp [byteCells, Nat.mod_eq_of_lt (show m < 256 by omega)]
  rw [e] at hu
  have := cell_two_new (w.drewN q) _ _ t j u hu
  by_cases hj : j = 0
  · subst hj; simpa [Addr.add] using this
  · simpa [Addr.add, hj] using this
theorem strOf_append (a b : List UInt8) : strOf a ++ strOf b = strOf (a ++ b) := by
  unfold strOf
  rw [ByteArray.mk_append_mk]
theorem strOf_size (a : List UInt8) : (strOf a).size = a.length := by simp [strOf, ByteArray.size]
end Fb
namespace Fb
open Go Go.Proofs Go.RowKit
def unpV (L : List UInt8) (most : Int) : Value := .tuple #[.string (strOf (unpack L most).1), errV (unpack L most).2]
theorem unpV_of {L B : List UInt8} {most : Int} {f : Nat} (h : unpack L most = (B, f)) : unpV L most = .tuple #[.string (strOf B), errV f] := by unfold unpV; rw [h]
theorem own_rep {w1 : World} {base m : Nat} {v' : Value} {B : List UInt8} {c c0 : UInt8} (hc : c = c0) (h : w1.ownsRow base 5 1 v' (B.length + m + 1) (byteCells (B ++ List.replicate m c0) ++ [.int .u8 (c.toNat : Int)])) :
    w1.ownsRow base 5 1 v' (B ++ List.replicate (m + 1) c0).length (byteCells (B ++ List.replicate (m + 1) c0)) := by
  subst hc
  rw [rep_succ, byteCells_append, List.length_append (bs := [c]), List.length_append, List.length_replicate]
  exact h
theorem ret_eq {a b : Value} (h : b = a) : Ending.returned a = .returned b := by rw [h]
set_option maxRecDepth 100000 in
set_option maxHeartbeats 1000000 in
theorem unpack_any (s : ByteArray) (most : Int) (w : World) (hs : s.size ≤ 1000000) (hm : most ≤ 1000000000) :
    Calls Tryd.prog 58 #[.string s, .int .i64 most] w (Ret (unpV s.data.toList most) w) := by
  obtain ⟨i0, hi, hz0, hz1, hz2⟩ := info_parts info_u8
  have hsz : s.data.toList.length = s.size := by simp
  have Hsz := hid hsz
  clear hsz
  by_cases hodd : s.size % 2 = 1
  · have hV := hid (unpV_of (unpack_odd (L := s.data.toList) (most := most) (by rw [Hsz.out]; exact hodd)))
    have h1 : (0 : Int) < (s.size : Int) % 2 := by omega
    clear hodd
    go_enter Tryd.func58, Tryd.ntmps58
    go_wp2
    go_ret2
    exact ⟨ret_eq hV.out, Below.refl _ _⟩
  · have h1 : ¬ (0 : Int) < (s.size : Int) % 2 := by omega
    have hst := UnpInv.start s.data.toList most (by rw [Hsz.out]; omega)
    go_enter Tryd.func58, Tryd.ntmps58
    go_wp2
    go_loopw [6, 7] (fun b i wr => ∃ (k : Nat) (B : List UInt8), k ≤ s.size ∧ k % 2 = 0 ∧ i = .int .i64 k ∧ wr.ownsRow w.heap.size 5 1 b B.length (byteCells B) ∧ B.length ≤ 255 * k ∧ UnpInv s.data.toList B k most ∧ Below w.heap.size w wr) (fun _ i _ => s.size - (intOf i).toNat)
    case atStart => exact ⟨0, [], by omega, by omega, rfl, World.ownsRow_nil _ _ _ _, by simp, hst, Below.refl _ _⟩
    case round =>
      clear hst
      obtain ⟨k, B, hk, hk2, rfl, hown, hB, HP, hbel⟩ := hrel
      by_cases hlt : k < s.size
      · have hlt1 : k + 1 < s.size := by omega
        have hl : k + 1 < s.data.toList.length := by rw [Hsz.out]; exact hlt1
        have hn := UInt8.toNat_lt s[k]
        have hn1 := UInt8.toNat_lt s[k + 1]
        obtain ⟨wo, rfl⟩ : ∃ wo : World, wo = wr := ⟨_, rfl⟩
        by_cases h0 : (s[k]).toNat = 0
        · have hV := hid (unpV_of (HP.zero hl h0))
          clear HP hown
          go_wp2
          go_ret2
          exact ⟨ret_eq hV.out, hbel⟩
        · obtain ⟨A, c, rfl, hA, hc⟩ := own_slice hown
          by_cases h1 : most < (B.length : Int) + (s[k]).toNat
          · have hV := hid (unpV_of (HP.much hl h0 h1))
            clear HP hown hA
            go_wp2
            go_ret2
            exact ⟨ret_eq hV.out, hbel⟩
          · have hst := HP.step hl h0 (by have : s.data.toList[k].toNat = (s[k]).toNat := rfl
                                          omega)
            have h1' : (B.length : Int) + (s[k]).toNat ≤ most := by omega
            have hl1 : s.data.toList[k + 1] = s[k + 1] := rfl
            have hl0 : s.data.toList[k].toNat = (s[k]).toNat := rfl
            rw [hl0, hl1] at hst
            generalize hc0 : s[k + 1] = c0 at hst hn1
            have Hc0 := hid hc0
            clear HP hA hl0 hl1 hc0
            obtain ⟨n0, hn0⟩ : ∃ n0 : Nat, (s[k]).toNat = n0 := ⟨_, rfl⟩
            have Hn0 := hid hn0
            rw [hn0] at hst h1 h1' h0 hn
            clear hn0 h1
            have h1'' : (B.length : Int) + (s[k]).toNat ≤ most := by rw [Hn0.out]; exact h1'
            have h0' : (((s[k]).toNat : Int) == 0) = false := by rw [Hn0.out]; simp; exact h0
            go_wp2
            clear h1''
            go_loopw [6, 35] (fun b j wi => ∃ m : Nat, m ≤ n0 ∧ j = .int .i64 m ∧ wi.ownsRow w.heap.size 5 1 b (B ++ List.replicate m c0).length (byteCells (B ++ List.replicate m c0)) ∧ Below w.heap.size w wi) (fun _ j _ => n0 - (intOf j).toNat)
            case atStart => exact ⟨0, by omega, rfl, by simpa using hown, hbel⟩
            case round =>
              obtain ⟨m, hm, rfl, hown1, hbel1⟩ := hrel
              by_cases hlt2 : m < n0
              · have hx : (m : Int) < ((s[k]).toNat : Int) := by rw [Hn0.out]; omega
                go_wp2_with (at_builtin; refine wpList_append_own _ rfl _ _ 55 rfl w.heap.size 5 i0 (.int .u8 0) 1 1 Tryd.underlying55 hi hz0 hz1 hz2 rfl (by decide) _ _ _ rfl (hown1.alloc _) ⟨wr.heap.size, 0, none⟩ 1 1 [.int .u8 (s[k + 1].toNat : Int)] rfl rfl ?c1 ?c2 ?c3 ?c4 ?c5 ?_)
                case c1 => exact cell_one_new _ _ _
                case c2 => intro u hu; simp at hu; subst hu; rfl
                case c3 => unfold maxLen; simp; omega
                case c4 => simp; omega
                case c5 => have := hbel1.size; simp; omega
                intro v' w1 hown' hgrow _
                have HO := own_rep Hc0.out hown'
                have hbel2 : Below w.heap.size w w1 := (hbel1.alloc hbel1.size _).grown hgrow (by have := hbel1.size; simp; omega) (fun g hg => (hown1.lt g hg).1)
                clear hown' hgrow hown1
                go_wp2_with fail
                go_roundw
                case rel => exact ⟨m + 1, by omega, by go_num, HO, hbel2⟩
                case measure => simp [intOf]; omega
              · have hx : ((s[k]).toNat : Int) ≤ (m : Int) := by rw [Hn0.out]; omega
                obtain rfl : m = n0 := by omega
                clear Hc0
                go_wp2
                go_roundw
                case rel => exact ⟨k + 2, _, by omega, by omega, by go_num, hown1, by simp; omega, hst, hbel1⟩
                case measure => simp [intOf]; omega
      · have hV := hid (unpV_of (HP.done (by rw [Hsz.out]; omega)))
        have hst0 := fun (c : Nat) A (hx : Row wr A B.length 1 (byteCells B)) => run_string_row (P := Tryd.prog) (c := c) (src := 55) (dst := 9) hx Tryd.underlying55 Tryd.underlying5 Tryd.underlying9
        obtain ⟨A, c, rfl, -, -⟩ := own_slice hown
        have hst := hst0 c A (Row.of_own hown)
        clear hst0 hown HP
        go_wp2
        go_ret2
        exact ⟨ret_eq hV.out, hbel⟩
def unpN (L : List UInt8) (most : Int) : Value := .tuple #[.string (strOf (unpack L most).1), .int .i64 (unpack L most).2]
theorem unpN_of {L B : List UInt8} {most : Int} {f : Nat} (h : unpack L most = (B, f)) : unpN L most = .tuple #[.string (strOf B), .int .i64 f] := by unfold unpN; rw [h]
theorem one_ext {s : ByteArray} {i : Nat} (h : i < s.size) : s.extract i (i + 1) = strOf [s[i]] := by
  apply ByteArray.ext
  simp [strOf]
  apply Array.ext
  · simp; omega
  · intro j h1 h2
    simp at h2
    subst h2
    simp
    rfl
end Fb
