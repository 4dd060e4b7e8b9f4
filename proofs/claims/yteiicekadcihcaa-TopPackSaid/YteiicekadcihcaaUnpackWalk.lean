/- pack.Unpack returns what the plain law of unpacking says. Conditions: at most a million bytes, and a bound below a thousand millions. -/
import Derived.Test.YteiicekadcihcaaPackWalk2
import Derived.Test.YteiicekadcihcaaErr
set_option linter.unusedSimpArgs false
set_option linter.unusedVariables false
namespace Fb
open Go Go.Proofs Go.RowKit
def unpV (L : List UInt8) (most : Int) : Value := .tuple #[.string (strOf (unpack L most).1), errV (unpack L most).2]
theorem unpV_of {L B : List UInt8} {most : Int} {f : Nat} (h : unpack L most = (B, f)) : unpV L most = .tuple #[.string (strOf B), errV f] := by unfold unpV; rw [h]
theorem own_rep {w1 : World} {base m : Nat} {v' : Value} {B : List UInt8} {c c0 : UInt8} (hc : c = c0) (h : w1.ownsRow base 5 1 v' (B.length + m + 1) (byteCells (B ++ List.replicate m c0) ++ [.int .u8 (c.toNat : Int)])) :
    w1.ownsRow base 5 1 v' (B ++ List.replicate (m + 1) c0).length (byteCells (B ++ List.replicate (m + 1) c0)) := by
  subst hc
  rw [rep_succ, byteCells_append, List.length_append (bs := [c]), List.length_append, List.length_replicate]
  exact h
theorem ret_eq {a b : Value} (h : b = a) : Ending.returned a = .returned b := by rw [h]
set_option maxRecDepth 100000 in
set_option maxHeartbeats 1000000 in
theorem unpack_any (s : ByteArray) (most : Int) (w : World) (hs : s.size ≤ 1000000) (hm : most ≤ 1000000000) :
    Calls Try.prog 14 #[.string s, .int .i64 most] w (Ret (unpV s.data.toList most) w) := by
  obtain ⟨i0, hi, hz0, hz1, hz2⟩ := info_parts info_u8
  have hsz : s.data.toList.length = s.size := by simp
  have Hsz := hid hsz
  clear hsz
  by_cases hodd : s.size % 2 = 1
  · have hV := hid (unpV_of (unpack_odd (L := s.data.toList) (most := most) (by rw [Hsz.out]; exact hodd)))
    have h1 : (0 : Int) < (s.size : Int) % 2 := by omega
    clear hodd
    go_enter Try.func14, Try.ntmps14
    go_wp2
    go_ret2
    exact ⟨ret_eq hV.out, Below.refl _ _⟩
  · have h1 : ¬ (0 : Int) < (s.size : Int) % 2 := by omega
    have hst := UnpInv.start s.data.toList most (by rw [Hsz.out]; omega)
    go_enter Try.func14, Try.ntmps14
    go_wp2
    go_loopw [6, 7] (fun b i wr => ∃ (k : Nat) (B : List UInt8), k ≤ s.size ∧ k % 2 = 0 ∧ i = .int .i64 k ∧ wr.ownsRow w.heap.size 5 1 b B.length (byteCells B) ∧ B.length ≤ 255 * k ∧ UnpInv s.data.toList B k most ∧ Below w.heap.size w wr) (fun _ i _ => s.size - (intOf i).toNat)
    case atStart => exact ⟨0, [], by omega, by omega, rfl, World.ownsRow_nil _ _ _ _, by simp, hst, Below.refl _ _⟩
    case round =>
      clear hst
      obtain ⟨k, B, hk, hk2, rfl, hown, hB, HP, hbel⟩ := hrel
      by_cases hlt : k < s.size
      · have hlt1 : k + 1 < s.size := by omega
        have hl : k + 1 < s.data.toList.length := by rw [Hsz.out]; exact hlt1
        have hn := UInt8.toNat_lt s[k]
        have hn1 := UInt8.toNat_lt s[k + 1]
        obtain ⟨wo, rfl⟩ : ∃ wo : World, wo = wr := ⟨_, rfl⟩
        by_cases h0 : (s[k]).toNat = 0
        · have hV := hid (unpV_of (HP.zero hl h0))
          clear HP hown
          go_wp2
          go_ret2
          exact ⟨ret_eq hV.out, hbel⟩
        · obtain ⟨A, c, rfl, hA, hc⟩ := own_slice hown
          by_cases h1 : most < (B.length : Int) + (s[k]).toNat
          · have hV := hid (unpV_of (HP.much hl h0 h1))
            clear HP hown hA
            go_wp2
            go_ret2
            exact ⟨ret_eq hV.out, hbel⟩
          · have hst := HP.step hl h0 (by have : s.data.toList[k].toNat = (s[k]).toNat := rfl
                                          omega)
            have h1' : (B.length : Int) + (s[k]).toNat ≤ most := by omega
            have hl1 : s.data.toList[k + 1] = s[k + 1] := rfl
            have hl0 : s.data.toList[k].toNat = (s[k]).toNat := rfl
            rw [hl0, hl1] at hst
            generalize hc0 : s[k + 1] = c0 at hst hn1
            have Hc0 := hid hc0
            clear HP hA hl0 hl1 hc0
            obtain ⟨n0, hn0⟩ : ∃ n0 : Nat, (s[k]).toNat = n0 := ⟨_, rfl⟩
            have Hn0 := hid hn0
            rw [hn0] at hst h1 h1' h0 hn
            clear hn0 h1
            have h1'' : (B.length : Int) + (s[k]).toNat ≤ most := by rw [Hn0.out]; exact h1'
            have h0' : (((s[k]).toNat : Int) == 0) = false := by rw [Hn0.out]; simp; exact h0
            go_wp2
            clear h1''
            go_loopw [6, 35] (fun b j wi => ∃ m : Nat, m ≤ n0 ∧ j = .int .i64 m ∧ wi.ownsRow w.heap.size 5 1 b (B ++ List.replicate m c0).length (byteCells (B ++ List.replicate m c0)) ∧ Below w.heap.size w wi) (fun _ j _ => n0 - (intOf j).toNat)
            case atStart => exact ⟨0, by omega, rfl, by simpa using hown, hbel⟩
            case round =>
              obtain ⟨m, hm, rfl, hown1, hbel1⟩ := hrel
              by_cases hlt2 : m < n0
              · have hx : (m : Int) < ((s[k]).toNat : Int) := by rw [Hn0.out]; omega
                go_wp2_with (at_builtin; refine wpList_append_own _ rfl _ _ 47 rfl w.heap.size 5 i0 (.int .u8 0) 1 1 Try.underlying47 hi hz0 hz1 hz2 rfl (by decide) _ _ _ rfl (hown1.alloc _) ⟨wr.heap.size, 0, none⟩ 1 1 [.int .u8 (s[k + 1].toNat : Int)] rfl rfl ?c1 ?c2 ?c3 ?c4 ?c5 ?_)
                case c1 => exact cell_one_new _ _ _
                case c2 => intro u hu; simp at hu; subst hu; rfl
                case c3 => unfold maxLen; simp; omega
                case c4 => simp; omega
                case c5 => have := hbel1.size; simp; omega
                intro v' w1 hown' hgrow _
                have HO := own_rep Hc0.out hown'
                have hbel2 : Below w.heap.size w w1 := (hbel1.alloc hbel1.size _).grown hgrow (by have := hbel1.size; simp; omega) (fun g hg => (hown1.lt g hg).1)
                clear hown' hgrow hown1
                go_wp2_with fail
                go_roundw
                case rel => exact ⟨m + 1, by omega, by go_num, HO, hbel2⟩
                case measure => simp [intOf]; omega
              · have hx : ((s[k]).toNat : Int) ≤ (m : Int) := by rw [Hn0.out]; omega
                obtain rfl : m = n0 := by omega
                clear Hc0
                go_wp2
                go_roundw
                case rel => exact ⟨k + 2, _, by omega, by omega, by go_num, hown1, by simp; omega, hst, hbel1⟩
                case measure => simp [intOf]; omega
      · have hV := hid (unpV_of (HP.done (by rw [Hsz.out]; omega)))
        have hst0 := fun (c : Nat) A (hx : Row wr A B.length 1 (byteCells B)) => run_string_row (P := Try.prog) (c := c) (src := 47) (dst := 9) hx Try.underlying47 Try.underlying5 Try.underlying9
        obtain ⟨A, c, rfl, -, -⟩ := own_slice hown
        have hst := hst0 c A (Row.of_own hown)
        clear hst0 hown HP
        go_wp2
        go_ret2
        exact ⟨ret_eq hV.out, hbel⟩
def unpN (L : List UInt8) (most : Int) : Value := .tuple #[.string (strOf (unpack L most).1), .int .i64 (unpack L most).2]
theorem unpN_of {L B : List UInt8} {most : Int} {f : Nat} (h : unpack L most = (B, f)) : unpN L most = .tuple #[.string (strOf B), .int .i64 f] := by unfold unpN; rw [h]
theorem one_ext {s : ByteArray} {i : Nat} (h : i < s.size) : s.extract i (i + 1) = strOf [s[i]] := by
  apply ByteArray.ext
  simp [strOf]
  apply Array.ext
  · simp; omega
  · intro j h1 h2
    simp at h2
    subst h2
    simp
    rfl
set_option maxRecDepth 100000 in
set_option maxHeartbeats 1000000 in
theorem runpacked_any (s : ByteArray) (most : Int) (w : World) (hs : s.size ≤ 1000000) (hm : most ≤ 1000000000) :
    Calls Try.prog 15 #[.string s, .int .i64 most] w (Ret (unpN s.data.toList most) w) := by
  have hsz : s.data.toList.length = s.size := by simp
  have Hsz := hid hsz
  clear hsz
  by_cases hodd : s.size % 2 = 1
  · have hV := hid (unpN_of (unpack_odd (L := s.data.toList) (most := most) (by rw [Hsz.out]; exact hodd)))
    have h1 : ((s.size : Int) % 2 == 1) = true := by simp; omega
    clear hodd
    go_enter Try.func15, Try.ntmps15
    go_wp2
    go_ret2
    exact ⟨ret_eq hV.out, Below.refl _ _⟩
  · have h1 : ((s.size : Int) % 2 == 1) = false := by simp; omega
    have hst := UnpInv.start s.data.toList most (by rw [Hsz.out]; omega)
    go_enter Try.func15, Try.ntmps15
    go_wp2
    go_loopw [6, 7] (fun b i wr => ∃ (k : Nat) (B : List UInt8), k ≤ s.size ∧ k % 2 = 0 ∧ i = .int .i64 k ∧ b = .string (strOf B) ∧ B.length ≤ 255 * k ∧ UnpInv s.data.toList B k most ∧ Below w.heap.size w wr) (fun _ i _ => s.size - (intOf i).toNat)
    case atStart => exact ⟨0, [], by omega, by omega, rfl, rfl, by simp, hst, Below.refl _ _⟩
    case round =>
      clear hst
      obtain ⟨k, B, hk, hk2, rfl, rfl, hB, HP, hbel⟩ := hrel
      have hBs : (strOf B).size = B.length := strOf_size B
      by_cases hlt : k < s.size
      · have hlt1 : k + 1 < s.size := by omega
        have hl : k + 1 < s.data.toList.length := by rw [Hsz.out]; exact hlt1
        have hn := UInt8.toNat_lt s[k]
        by_cases h0 : (s[k]).toNat = 0
        · have hV := hid (unpN_of (HP.zero hl h0))
          have h0' : (((s[k]).toNat : Int) == 0) = true := by rw [h0]; rfl
          clear HP hBs h0
          go_wp2
          go_ret2
          exact ⟨ret_eq hV.out, hbel⟩
        · have h0' : (((s[k]).toNat : Int) == 0) = false := by simp; omega
          by_cases h1 : most < (B.length : Int) + (s[k]).toNat
          · have hV := hid (unpN_of (HP.much hl h0 h1))
            clear HP
            go_wp2
            go_ret2
            exact ⟨ret_eq hV.out, hbel⟩
          · have hst := HP.step hl h0 (by have : s.data.toList[k].toNat = (s[k]).toNat := rfl
                                          omega)
            have h1' : (B.length : Int) + (s[k]).toNat ≤ most := by omega
            have hl1 : s.data.toList[k + 1] = s[k + 1] := rfl
            have hl0 : s.data.toList[k].toNat = (s[k]).toNat := rfl
            rw [hl0, hl1] at hst
            obtain ⟨n0, hn0⟩ : ∃ n0 : Nat, (s[k]).toNat = n0 := ⟨_, rfl⟩
            have Hn0 := hid hn0
            rw [hn0] at hst h1 h0 hn
            rw [hn0] at h1'
            clear HP hl0 hl1 hn0 h1
            have h1'' : (B.length : Int) + (s[k]).toNat ≤ most := by rw [Hn0.out]; exact h1'
            go_wp2
            clear h1''
            go_loopw [6, 8] (fun b j wi => ∃ m : Nat, m ≤ n0 ∧ j = .int .i64 m ∧ b = .string (strOf (B ++ List.replicate m s[k + 1])) ∧ Below w.heap.size w wi) (fun _ j _ => n0 - (intOf j).toNat)
            case atStart => exact ⟨0, by omega, rfl, by simp, hbel⟩
            case round =>
              obtain ⟨m, hm, rfl, rfl, hbel1⟩ := hrel
              by_cases hlt2 : m < n0
              · have hx : (m : Int) < ((s[k]).toNat : Int) := by rw [Hn0.out]; omega
                have hex := one_ext hlt1
                have hA : (strOf (B ++ List.replicate m s[k + 1])).size + (strOf [s[k + 1]]).size ≤ 2000000000 := by simp [strOf_size]; omega
                go_wp2
                go_roundw
                case rel => exact ⟨m + 1, by omega, by go_num, congrArg Value.string (by rw [strOf_append, rep_succ]), hbel1⟩
                case measure => simp [intOf]; omega
              · have hx : ((s[k]).toNat : Int) ≤ (m : Int) := by rw [Hn0.out]; omega
                obtain rfl : m = n0 := by omega
                clear Hn0
                go_wp2
                go_roundw
                case rel => exact ⟨k + 2, _, by omega, by omega, by go_num, rfl, by simp; omega, hst, hbel1⟩
                case measure => simp [intOf]; omega
      · have hV := hid (unpN_of (HP.done (by rw [Hsz.out]; omega)))
        clear HP hBs
        go_wp2
        go_ret2
        exact ⟨ret_eq hV.out, hbel⟩
end Fb
