/- picture.row returns a row of bytes that were told. Conditions: few bytes, a row of bytes above, a way below four. -/
import Derived.Test.YtcmbbicemddggaaDoorPlainA
import Derived.Test.YtcmbbicemddggaaDoorPicTold
namespace Fb
open Go Go.Proofs Go.RowKit Go.Sort
attribute [local go_sem ↓] Go.wp_at_zero Go.wp_at_succ
theorem info_int : (Tryd.prog.info? 3).map (fun i => (i.zero, i.size, i.bytes)) = some (some (.int .i64 0), 1, 8) := by kernel_rfl
/-- the call returns a slice of ints in new memory -/
def RetInts (l : List Int) (w : World) (e : Ending) (w' : World) : Prop := ∃ (A : Option Addr) (c : Nat), e = .returned (.slice A l.length c) ∧ Ints w' A l.length l ∧ (∀ a, A = some a → w.heap.size ≤ a.block) ∧ Typed w' A l.length 3 ∧ Below w.heap.size w w'
theorem own_ints {w : World} {base n c : Nat} {A : Option Addr} {l : List Int} (h : w.ownsRow base 3 1 (.slice A n c) n (l.map (Value.int .i64))) (hl : l.length = n) : Ints w A n l := ⟨hl, Row.of_own h⟩
theorem own_row {w1 : World} {base : Nat} {v : Value} {s : List UInt8} {up : List Int} {way k : Nat} {x : Int} (h : w1.ownsRow base 3 1 v (k + 1) ((rowOf s up way k).map (Value.int .i64) ++ [.int .i64 x])) (hx : x = (((s.getD k 0).toNat : Int) + guessI way (atI (rowOf s up way k) ((k : Int) - 2)) (atI up k)) % 256) :
    w1.ownsRow base 3 1 v (k + 1) ((rowOf s up way (k + 1)).map (Value.int .i64)) := by
  subst hx
  rw [rowOf_succ, List.map_append]
  exact h
theorem getD_str (s : ByteArray) (k : Nat) (h : k < s.size) : (s.data.toList.getD k 0).toNat = (s[k]).toNat := by
  have hk : k < s.data.toList.length := by simpa using h
  rw [List.getD_eq_getElem?_getD, List.getElem?_eq_getElem hk, Option.getD_some]; rfl
theorem ret_slice {A : Option Addr} {n m c : Nat} (h : n = m) : Ending.returned (.slice A n c) = .returned (.slice A m c) := by rw [h]
set_option maxRecDepth 100000 in
set_option maxHeartbeats 2000000 in
theorem row_any (s : ByteArray) (B : Option Addr) (m d : Nat) (up : List Int) (way : Nat) (w : World) (hu : Ints w B m up) (bn : s.size ≤ 1000) (bm : m ≤ 1000) (hw : way < 4) (bu : ∀ v ∈ up, 0 ≤ v ∧ v ≤ 255) :
    Calls Tryd.prog 59 #[.string s, .slice B m d, .int .i64 way] w (RetInts (rowOf s.data.toList up way s.size) w) := by
  obtain ⟨i0, hi, hz0, hz1, hz2⟩ := info_parts info_int
  have HU := hid hu
  have HBU := hid bu
  have Hcf := hid (guess_hcf way hw)
  have wb1 : (0 : Int) ≤ (way : Int) := by omega
  have wb2 : (way : Int) < 4 := by omega
  clear hu bu
  go_enter Tryd.func59, Tryd.ntmps59
  go_wp2_with fail
  go_loopw [7, 11] (fun v i wr => ∃ k : Nat, k ≤ s.size ∧ i = .int .i64 k ∧ wr.ownsRow w.heap.size 3 1 v k ((rowOf s.data.toList up way k).map (Value.int .i64)) ∧ Below w.heap.size w wr) (fun _ i _ => s.size - (intOf i).toNat)
  case atStart => exact ⟨0, by omega, rfl, World.ownsRow_nil _ _ _ _, Below.refl _ _⟩
  case round =>
    obtain ⟨k, hk, rfl, hown, hbel⟩ := hrel
    by_cases hlt : k < s.size
    · obtain ⟨A0, c0, rfl, -, -⟩ := own_slice hown
      have q1 : (0 : Int) ≤ (k : Int) := by omega
      have q2 : (k : Int) < (s.size : Int) := by omega
      have hbr := rowOf_bytes s.data.toList up way k
      have g1 := atI_bytes hbr ((k : Int) - 2)
      have g2 := atI_bytes HBU.out (k : Int)
      have g3 := UInt8.toNat_lt s[k]
      have g5 := getD_str s k hlt
      have hint := own_ints hown (rowOf_len _ _ _ _)
      have c1 := fun W (h : Below wr.heap.size wr W) => at_any A0 k c0 (rowOf s.data.toList up way k) ((k : Int) - 2) W (hint.below h) (by omega)
      have c2 := fun W (h : Below wr.heap.size wr W) => at_any B m d up (k : Int) W (HU.out.below (bnext hbel h)) (by omega)
      have c3 := fun W => guess_any way hw (atI (rowOf s.data.toList up way k) ((k : Int) - 2)) (atI up (k : Int)) W g1 g2
      have g4 := guessI_bd (way := way) g1 g2
      have Hpush := hid (fun (w1 : World) (v : Value) hh => own_row (w1 := w1) (base := w.heap.size) (v := v) (s := s.data.toList) (up := up) (way := way) (k := k) (x := (((s[k]'hlt).toNat : Int) + guessI way (atI (rowOf s.data.toList up way k) ((k : Int) - 2)) (atI up (k : Int))) % 256) hh (by rw [g5]))
      clear g5 hint hbr
      generalize atI (rowOf s.data.toList up way k) ((k : Int) - 2) = x1 at *
      generalize atI up (k : Int) = x2 at *
      generalize guessI way x1 x2 = x3 at *
      have C1 := hid c1
      have C2 := hid c2
      have C3 := hid c3
      have e1 : IntKind.i64.wrap ((k : Int) - 2) = (k : Int) - 2 := IntWalk.i64_in _ (by omega)
      have e0 : IntKind.i64.wrap ((s[k]'hlt).toNat : Int) = ((s[k]'hlt).toNat : Int) := IntWalk.i64_in _ (by omega)
      have e2 : IntKind.i64.wrap (((s[k]'hlt).toNat : Int) + x3) = ((s[k]'hlt).toNat : Int) + x3 := IntWalk.i64_in _ (by omega)
      have e3 : (((s[k]'hlt).toNat : Int) + x3).tmod 256 = (((s[k]'hlt).toNat : Int) + x3) % 256 := Int.tmod_eq_emod_of_nonneg (by omega)
      obtain ⟨x4, hx4⟩ : ∃ x4 : Int, (((s[k]'hlt).toNat : Int) + x3) % 256 = x4 := ⟨_, rfl⟩
      have e4 : IntKind.i64.wrap x4 = x4 := IntWalk.i64_in _ (by omega)
      rw [hx4] at e3 Hpush
      clear c1 c2 c3 hx4
      go_upto_region 5 with fail
      have HBW : Below wr.heap.size wr wr.drew := (Below.refl _ _).drew
      have Hown := hid hown
      clear hown
      have hcf := Hcf.out
      go_region_law
        (first
          | ((have HO := own_keep Hown.out (HBW.alloc HBW.size (.cells #[.int .i64 x4] 3)); refine step_append_lies _ (by rfl) _ _ _ (by rfl) w.heap.size 3 i0 (.int .i64 0) 1 8 Tryd.underlying83 hi hz0 hz1 hz2 rfl (by decide) _ _ _ (by rfl) HO ⟨_, 0, none⟩ 1 1 [.int .i64 x4] (by rfl) rfl (cell_one_new _ _ _) (by intro u hu; simp at hu; subst hu; rfl) (by decide) (by unfold maxLen; omega) (by omega) (by have h1 := hbel.size; have h2 := HBW.size; simp; omega) _ rfl ?_; intro g cap w1 hown1 hgrow hat hlt1))
          | (go_simp; (first
              | (go_at_call 52; (with_reducible refine (guesses_at way hw _).mono ?_); rintro e w' ⟨gg, rfl, hgc, hgl, hbw⟩; have HBW := bnext HBW hbw)
              | (go_at_call 68; (first | (with_reducible refine (C1.out _ HBW).mono ?_) | (with_reducible refine (C2.out _ HBW).mono ?_)); rintro e w' ⟨rfl, rfl⟩)
              | ((with_reducible refine (C3.out _).mono ?_); rintro e w' ⟨rfl, rfl⟩))))
      all_goals (have HW := (bnext hbel (HBW.alloc HBW.size (.cells #[.int .i64 x4] 3))).grown hgrow (by have h1 := hbel.size; have h2 := HBW.size; simp; omega) (fun g hg => (HO.lt g hg).1))
      all_goals (have HP := Hpush.out _ _ hown1)
      all_goals (clear hgrow hown1 HO hgc hgl hbw HBW Hpush hcf Hcf C1 C2 C3 hat hlt1 e0 e1 e2 e3 e4)
      all_goals (go_wp2_with fail)
      all_goals go_roundw
      all_goals (try (case rel => exact ⟨k + 1, by omega, by go_num, HP, HW⟩))
      all_goals (try (case measure => simp [intOf]; omega))
    · obtain rfl : k = s.size := by omega
      obtain ⟨A0, c0, rfl, hA, -⟩ := own_slice hown
      have hint := own_ints hown (rowOf_len _ _ _ _)
      have HT := hid (Typed.own hown)
      have Hln := hid (rowOf_len s.data.toList up way s.size)
      have HI := hid hint
      clear hown Hcf HU hint
      go_wp2_with fail
      go_ret
      exact ⟨A0, c0, ret_slice Hln.out.symm, by rw [Hln.out]; exact HI.out, fun a ha => (hA a ha).1, by rw [Hln.out]; exact HT.out, hbel⟩
end Fb
