/- pack.Pack, pack.Unpack and the reference's two return what the plain laws of packing say. Conditions: the text has at most a million bytes. -/
import Derived.Test.YteiicekadcihcaaProg
import Derived.Test.YteiicekadcihcaaBase
import Derived.Test.YteiicekadcihcaaPackLaw
import Derived.Deep.QuietTactic
import Derived.BigQuiet
import Derived.Deep.CutBlock
import Derived.Deep.DeepCutAuto
set_option linter.unusedSimpArgs false
set_option linter.unusedVariables false
namespace Fb
open Go Go.Proofs Go.RowKit
theorem info5 : (Try.prog.info? 5).map (fun i => (i.zero, i.size, i.bytes)) = some (some (.int .u8 0), 1, 1) := by kernel_rfl
theorem own_push2 {w1 : World} {base : Nat} {v' : Value} {B : List UInt8} {m : Nat} {c : UInt8} (hm : m ≤ 255) (hown' : w1.ownsRow base 5 1 v' (B.length + 2) (byteCells B ++ [.int .u8 (m : Int), .int .u8 (c.toNat : Int)])) :
    w1.ownsRow base 5 1 v' (B ++ [UInt8.ofNat m, c]).length (byteCells (B ++ [UInt8.ofNat m, c])) := by
  simpa [byteCells, Nat.mod_eq_of_lt (show m < 256 by omega)] using hown'
theorem byte_eq {s : ByteArray} {i j : Nat} (hi : i < s.size) (hj : j < s.size) (h : (((s[i]'hi).toNat : Int) == ((s[j]'hj).toNat : Int)) = true) : s.data.toList[i]? = s.data.toList[j]? := by
  have e0 : (((s[i]'hi).toNat : Int)) = ((s[j]'hj).toNat : Int) := by simpa using h
  have e : (s[i]'hi).toNat = (s[j]'hj).toNat := by omega
  have e' : s[i]'hi = s[j]'hj := UInt8.toNat.inj e
  rw [List.getElem?_eq_getElem (by simpa using hi), List.getElem?_eq_getElem (by simpa using hj)]
  exact congrArg some e'
theorem byte_eq' {s : ByteArray} {i j : Nat} (hi : i < s.size) (hj : j < s.size) (e' : s[i]'hi = s[j]'hj) : s.data.toList[i]? = s.data.toList[j]? := by
  rw [List.getElem?_eq_getElem (by simpa using hi), List.getElem?_eq_getElem (by simpa using hj)]
  exact congrArg some e'
theorem byte_ne' {s : ByteArray} {i j : Nat} (hi : i < s.size) (hj : j < s.size) (h : ¬ s[i]'hi = s[j]'hj) : s.data.toList[i]? ≠ s.data.toList[j]? := by
  intro e
  rw [List.getElem?_eq_getElem (by simpa using hi), List.getElem?_eq_getElem (by simpa using hj)] at e
  exact h (by injection e)
theorem byte_ne {s : ByteArray} {i j : Nat} (hi : i < s.size) (hj : j < s.size) (h : (((s[i]'hi).toNat : Int) == ((s[j]'hj).toNat : Int)) = false) : s.data.toList[i]? ≠ s.data.toList[j]? := by
  intro e
  rw [List.getElem?_eq_getElem (by simpa using hi), List.getElem?_eq_getElem (by simpa using hj)] at e
  have e' : s[i]'hi = s[j]'hj := by injection e
  rw [e'] at h
  simp at h
set_option maxRecDepth 100000 in
set_option maxHeartbeats 1000000 in
theorem pack_any (s : ByteArray) (w : World) (hs : s.size ≤ 1000000) :
    Calls Try.prog 13 #[.string s] w (Ret (.string (strOf (pack s.data.toList))) w) := by
  obtain ⟨i0, hi, hz0, hz1, hz2⟩ := info_parts info5
  have hsz : s.data.toList.length = s.size := by simp
  have Hsz := hid hsz
  clear hsz
  go_enter Try.func13, Try.ntmps13
  go_wp2
  go_loopw [3, 4] (fun b i wr => ∃ (k : Nat) (B : List UInt8), k ≤ s.size ∧ i = .int .i64 k ∧ wr.ownsRow w.heap.size 5 1 b B.length (byteCells B) ∧ B.length ≤ 2 * k ∧ PackInv s.data.toList B k ∧ Below w.heap.size w wr) (fun _ i _ => s.size - (intOf i).toNat)
  case atStart => exact ⟨0, [], by omega, rfl, World.ownsRow_nil _ _ _ _, by simp, PackInv.start _, Below.refl _ _⟩
  case round =>
    obtain ⟨k, B, hk, rfl, hown, hB, HP, hbel⟩ := hrel
    by_cases hlt : k < s.size
    · obtain ⟨wo, rfl⟩ : ∃ wo : World, wo = wr := ⟨_, rfl⟩
      go_upto_block 2 with fail
      go_cut [5] (fun n wi => ∃ m q : Nat, n = .int .i64 m ∧ 1 ≤ m ∧ m ≤ 255 ∧ k + m ≤ s.size ∧ SameRun s.data.toList k m ∧ (m = 255 ∨ k + m = s.data.toList.length ∨ (k + m < s.data.toList.length ∧ s.data.toList[k + m]? ≠ s.data.toList[k]?)) ∧ wi = wo.drewN q)
      case first =>
        clear hown HP hbel
        go_wp2_with fail
        go_loopw [5] (fun n wi => ∃ m q : Nat, n = .int .i64 m ∧ 1 ≤ m ∧ m ≤ 255 ∧ k + m ≤ s.size ∧ SameRun s.data.toList k m ∧ wi = wo.drewN q) (fun n _ => s.size - (intOf n).toNat)
        case atStart => exact ⟨1, 0, rfl, by omega, by omega, by omega, SameRun.one _ _, rfl⟩
        case round =>
          obtain ⟨m, q, rfl, h1, h2, h3, HS, rfl⟩ := hrel
          have e1 : IntKind.i64.wrap ((k : Int) + (m : Int)) = (k : Int) + (m : Int) := IntWalk.i64_in _ (by omega)
          have e2 : 0 ≤ (k : Int) + (m : Int) := by omega
          have e3 : ((k : Int) + (m : Int)).toNat = k + m := by omega
          have e6 : (k : Int) < (s.size : Int) := by omega
          by_cases g1 : k + m < s.size
          · have g1' : (k : Int) + (m : Int) < (s.size : Int) := by omega
            by_cases g2 : m < 255
            · have g2' : (m : Int) < 255 := by omega
              go_wp2_with fail
              go_quiet (fail)
              clear e1
              go_wp2_with fail
              · go_roundw
                case rel =>
                  refine ⟨m + 1, q + nq, by go_num, by omega, by omega, by omega, HS.succ ?_, by simp [World.drewN_drewN]⟩
                  exact byte_eq g1 hlt (by assumption)
                case measure => simp [intOf]; omega
              · go_meet
                case rel =>
                  exact ⟨m, q + nq, rfl, h1, h2, h3, HS, .inr (.inr ⟨by rw [Hsz.out]; exact g1, byte_ne g1 hlt (by assumption)⟩), by simp⟩
            · have g2' : decide ((m : Int) < 255) = false := by simp; omega
              go_wp2_with fail
              go_quiet (fail)
              clear e1
              go_wp2_with fail
              go_meet
              case rel =>
                exact ⟨m, q + nq, rfl, h1, h2, h3, HS, .inl (by omega), by simp [World.drewN_drewN]⟩
          · have g1' : decide ((k : Int) + (m : Int) < (s.size : Int)) = false := by simp; omega
            go_wp2_with fail
            go_quiet (fail)
            clear e1
            go_wp2_with fail
            go_meet
            case rel =>
              exact ⟨m, q + nq, rfl, h1, h2, h3, HS, .inr (.inl (by rw [Hsz.out]; omega)), by simp [World.drewN_drewN]⟩
      case rest =>
        obtain ⟨m, q, rfl, h1, h2, h3, HS, he, rfl⟩ := hcut
        go_wp2_with (at_builtin; refine wpList_append_own _ rfl _ _ 47 rfl w.heap.size 5 i0 (.int .u8 0) 1 1 Try.underlying47 hi hz0 hz1 hz2 rfl (by decide) _ _ _ rfl (World.ownsRow.alloc (w := wo.drewN q) hown _) ⟨wo.heap.size, 0, none⟩ 2 2 [.int .u8 (m : Int), .int .u8 (s[k].toNat : Int)] rfl rfl ?c1 ?c2 ?c3 ?c4 ?c5 ?_)
        case c1 => exact cell_two_new (wo.drewN q) _ _ _
        case c2 => intro u hu; simp at hu; rcases hu with rfl | rfl <;> rfl
        case c3 => unfold maxLen; omega
        case c4 => omega
        case c5 => have := hbel.size; simp; omega
        intro v' w1 hown' hgrow _
        have HO := own_push2 h2 hown'
        have hbel1 : Below w.heap.size w w1 := ((below_drewN hbel q).alloc (by have := hbel.size; simpa using this) _).grown hgrow (by have := hbel.size; simp; omega) (fun g hg => (hown.lt g hg).1)
        have hl : k < s.data.toList.length := by rw [Hsz.out]; exact hlt
        have hl2 : k + m ≤ s.data.toList.length := by rw [Hsz.out]; exact h3
        have HP' := HP.step h1 hl2 h2 HS he
        clear hown' hgrow hown HP he
        go_wp2_with fail
        go_roundw
        case rel => exact ⟨k + m, _, by omega, by go_num, HO, by simp; omega, HP', hbel1⟩
        case measure => simp [intOf]; omega
    · have hstr := fun (c : Nat) A (hx : Row wr A B.length 1 (byteCells B)) => run_string_row (c := c) (src := 47) (dst := 9) hx Try.underlying47 Try.underlying5 Try.underlying9
      obtain ⟨A, c, rfl, -, -⟩ := own_slice hown
      have hst := hstr c A (Row.of_own hown)
      have HP' := hid (HP.done (by rw [Hsz.out]; omega))
      clear hstr hown HP
      go_wp2
      go_ret
      exact ⟨ret_str (by rw [HP'.out]), hbel⟩
end Fb
