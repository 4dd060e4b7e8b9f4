/- picture.guesses returns a new slice of four functions, told and row: see PicWalk. Conditions: none. picture.told returns what is told of a row in a way. Conditions: rows of bytes, few of them, a way below four. -/
import Derived.Test.YtcmbbicemddggaaDoorPicInts
import Derived.Test.YtcmbbicemddggaaDoorPicLaw3
import Derived.Test.YtcmbbicemddggaaDoorPlainA
import Derived.Deep.RegionLaw
import Derived.Deep.DrawnRows
import Derived.Deep.AppendLies
import Derived.OneCell
import Derived.Conc.MuLone
namespace Fb
open Go Go.Proofs Go.RowKit Go.Sort
/-- the four functions -/
def guessObj : Go.Obj := .cells #[.func (.func 69) #[] #[], .func (.func 70) #[] #[], .func (.func 71) #[] #[], .func (.func 72) #[] #[]] 139
/-- the number of the function of a way -/
def guessF (way : Nat) : FuncId := match way with | 0 => 69 | 1 => 70 | 2 => 71 | _ => 72
set_option maxHeartbeats 400000 in
theorem guesses_any (w : World) : Calls Tryd.prog 52 #[] w fun e w' => e = .returned (.slice (some ⟨w.heap.size, 0, none⟩) 4 4) ∧ w' = w.alloc (.cells #[.func (.func 69) #[] #[], .func (.func 70) #[] #[], .func (.func 71) #[] #[], .func (.func 72) #[] #[]] 139) := by
  go_enter Tryd.func52, Tryd.ntmps52
  go_wp2
  go_ret
  exact ⟨rfl, rfl⟩
theorem guess_any (way : Nat) (h : way < 4) (a b : Int) (w : World) (ha : 0 ≤ a ∧ a ≤ 255) (hb : 0 ≤ b ∧ b ≤ 255) : Calls Tryd.prog (guessF way) #[.int .i64 a, .int .i64 b] w fun e w' => e = .returned (.int .i64 (guessI way a b)) ∧ w = w' := by
  rcases (show way = 0 ∨ way = 1 ∨ way = 2 ∨ way = 3 by omega) with rfl | rfl | rfl | rfl
  · exact guess0_any a b w
  · exact guess1_any a b w
  · exact guess2_any a b w
  · exact guess3_any a b w ha hb
end Fb
namespace Fb
open Go Go.Proofs Go.RowKit Go.Sort
attribute [local go_sem ↓] Go.wp_at_zero Go.wp_at_succ
/-- the functions in new memory: the one of the way asked for -/
def RetGs (way : Nat) (w : World) (e : Ending) (w' : World) : Prop := ∃ g : Nat, e = .returned (.slice (some ⟨g, 0, none⟩) 4 4) ∧ w'.cell? ⟨g, way, none⟩ = some (.func (.func (guessF way)) #[] #[]) ∧ g < w'.heap.size ∧ Below w.heap.size w w'
theorem guesses_at (way : Nat) (h : way < 4) (w : World) : Calls Tryd.prog 52 #[] w (RetGs way w) := by
  refine (guesses_any w).mono ?_
  rintro e w' ⟨rfl, rfl⟩
  refine ⟨w.heap.size, rfl, ?_, by simp, (Below.refl _ _).alloc (Nat.le_refl _) _⟩
  rcases (show way = 0 ∨ way = 1 ∨ way = 2 ∨ way = 3 by omega) with rfl | rfl | rfl | rfl <;> simp [guessF]
set_option maxRecDepth 100000 in
theorem guess_hcf (way : Nat) (h : way < 4) (args : Array Value) (W : World) : (callFunc (guessF way) args).run Tryd.prog W = .ok (.enter (guessF way) args) W := by
  rcases (show way = 0 ∨ way = 1 ∨ way = 2 ∨ way = 3 by omega) with rfl | rfl | rfl | rfl
  · exact Go.MuLone.run_callFunc_enter (P := Tryd.prog) (f := 69) rfl (by kernel_rfl) rfl args W
  · exact Go.MuLone.run_callFunc_enter (P := Tryd.prog) (f := 70) rfl (by kernel_rfl) rfl args W
  · exact Go.MuLone.run_callFunc_enter (P := Tryd.prog) (f := 71) rfl (by kernel_rfl) rfl args W
  · exact Go.MuLone.run_callFunc_enter (P := Tryd.prog) (f := 72) rfl (by kernel_rfl) rfl args W
/-- a byte that is appended -/
theorem own_told {w1 : World} {base : Nat} {v : Value} {r up : List Int} {way k : Nat} {x : Int} (h : w1.ownsRow base 5 1 v (k + 1) (byteCells (toldI r up way k) ++ [.int .u8 x])) (hx : x = ((byteI (atI r k - guessI way (atI r ((k : Int) - 2)) (atI up k))).toNat : Int)) :
    w1.ownsRow base 5 1 v (k + 1) (byteCells (toldI r up way (k + 1))) := by
  subst hx
  rw [toldI_succ, byteCells_append]
  exact h
theorem byte_wrap {n : Int} (_h : -1000 ≤ n ∧ n ≤ 1000) : IntKind.u8.wrap n = ((byteI n).toNat : Int) := by
  rw [byteI_nat, IntKind.wrap_u8]
set_option maxRecDepth 100000 in
set_option maxHeartbeats 2000000 in
theorem told_any (A B : Option Addr) (n m c d : Nat) (r up : List Int) (way : Nat) (w : World) (hr : Ints w A n r) (hu : Ints w B m up) (bn : n ≤ 1000) (bm : m ≤ 1000) (hw : way < 4)
    (br : ∀ v ∈ r, 0 ≤ v ∧ v ≤ 255) (bu : ∀ v ∈ up, 0 ≤ v ∧ v ≤ 255) :
    Calls Tryd.prog 51 #[.slice A n c, .slice B m d, .int .i64 way] w (Ret (.string (strOf (toldI r up way n))) w) := by
  obtain ⟨i0, hi, hz0, hz1, hz2⟩ := info_parts info_u8
  have Hl := hid hr.1
  have HR := hid hr
  have HU := hid hu
  have HBR := hid br
  have HBU := hid bu
  have Hcf := hid (guess_hcf way hw)
  have wb1 : (0 : Int) ≤ (way : Int) := by omega
  have wb2 : (way : Int) < 4 := by omega
  clear hr hu br bu
  go_enter Tryd.func51, Tryd.ntmps51
  go_wp2_with fail
  go_loopw [7, 12] (fun v i wr => ∃ k : Nat, k ≤ n ∧ i = .int .i64 k ∧ wr.ownsRow w.heap.size 5 1 v k (byteCells (toldI r up way k)) ∧ Below w.heap.size w wr) (fun _ i _ => n - (intOf i).toNat)
  case atStart => exact ⟨0, by omega, rfl, World.ownsRow_nil _ _ _ _, Below.refl _ _⟩
  case round =>
    obtain ⟨k, hk, rfl, hown, hbel⟩ := hrel
    by_cases hlt : k < n
    · have k1 : k < r.length := by rw [Hl.out]; exact hlt
      obtain ⟨b, off, rfl, hb, hc⟩ := HR.out.cell k1
      have hc1 := (hbel.cell (p := ⟨b, off + k, none⟩) hb).trans hc
      have q1 : (0 : Int) ≤ (k : Int) := by omega
      have q2 : (k : Int) < (n : Int) := by omega
      have g1 := atI_bytes HBR.out ((k : Int) - 2)
      have g2 := atI_bytes HBU.out (k : Int)
      have g3 := HBR.out _ (List.getElem_mem k1)
      have hrk := hid (atI_at k1)
      have c1 := fun W (h : Below wr.heap.size wr W) => at_any (some ⟨b, off, none⟩) n c r ((k : Int) - 2) W (HR.out.below (bnext hbel h)) (by omega)
      have c2 := fun W (h : Below wr.heap.size wr W) => at_any B m d up (k : Int) W (HU.out.below (bnext hbel h)) (by omega)
      have c3 := fun W => guess_any way hw (atI r ((k : Int) - 2)) (atI up (k : Int)) W g1 g2
      have g4 := guessI_bd (way := way) g1 g2
      have Hpush := hid (fun (w1 : World) (v : Value) hh => own_told (w1 := w1) (base := w.heap.size) (v := v) (r := r) (up := up) (way := way) (k := k) (x := IntKind.u8.wrap (r[k]'k1 - guessI way (atI r ((k : Int) - 2)) (atI up (k : Int)))) hh (by rw [byte_wrap (by omega), hrk.out]))
      clear hrk
      generalize atI r ((k : Int) - 2) = x1 at *
      generalize atI up (k : Int) = x2 at *
      generalize guessI way x1 x2 = x3 at *
      generalize r[k] = x0 at *
      have C1 := hid c1
      have C2 := hid c2
      have C3 := hid c3
      have w1 : IntKind.i64.wrap ((k : Int) - 2) = (k : Int) - 2 := IntWalk.i64_in _ (by omega)
      have w2 : IntKind.i64.wrap (x0 - x3) = x0 - x3 := IntWalk.i64_in _ (by omega)
      clear c1 c2 c3 hc
      go_upto_region 5 with fail
      have HBW : Below wr.heap.size wr wr.drew := (Below.refl _ _).drew
      have Hown := hid hown
      clear hown
      have hcf := Hcf.out
      go_region_law
        (first
          | ((have HO := own_keep Hown.out (HBW.alloc HBW.size (.cells #[.int .u8 (IntKind.u8.wrap (x0 - x3))] 5)); refine step_append_lies _ (by rfl) _ _ _ (by rfl) w.heap.size 5 i0 (.int .u8 0) 1 1 Tryd.underlying55 hi hz0 hz1 hz2 rfl (by decide) _ _ _ (by rfl) HO ⟨_, 0, none⟩ 1 1 [.int .u8 (IntKind.u8.wrap (x0 - x3))] (by rfl) rfl (cell_one_new _ _ _) (by intro u hu; simp at hu; subst hu; rfl) (by decide) (by unfold maxLen; omega) (by omega) (by have h1 := hbel.size; have h2 := HBW.size; simp; omega) _ rfl ?_; intro g cap w1 hown1 hgrow hat hlt1))
          | (go_simp; (first
              | (go_at_call 52; (with_reducible refine (guesses_at way hw _).mono ?_); rintro e w' ⟨gg, rfl, hgc, hgl, hbw⟩; have HBW := bnext HBW hbw)
              | (go_at_call 68; (first | (with_reducible refine (C1.out _ HBW).mono ?_) | (with_reducible refine (C2.out _ HBW).mono ?_)); rintro e w' ⟨rfl, rfl⟩)
              | ((with_reducible refine (C3.out _).mono ?_); rintro e w' ⟨rfl, rfl⟩))))
      all_goals (have HW := (bnext hbel (HBW.alloc HBW.size (.cells #[.int .u8 (IntKind.u8.wrap (x0 - x3))] 5))).grown hgrow (by have h1 := hbel.size; have h2 := HBW.size; simp; omega) (fun g hg => (HO.lt g hg).1))
      all_goals (have HP := Hpush.out _ _ hown1)
      all_goals (clear hgrow hown1 HO hgc hgl hbw HBW Hpush hcf Hcf C1 C2 C3 hat hlt1 hc1)
      all_goals (go_wp2_with fail)
      all_goals go_roundw
      all_goals (try (case rel => exact ⟨k + 1, by omega, by go_num, HP, HW⟩))
      all_goals (try (case measure => simp [intOf]; omega))
    · obtain rfl : k = n := by omega
      have hst0 := fun (c : Nat) A (hx : Row wr A k 1 (byteCells (toldI r up way k))) => run_string_row (P := Tryd.prog) (c := c) (src := 55) (dst := 9) hx Tryd.underlying55 Tryd.underlying5 Tryd.underlying9
      obtain ⟨A0, c0, rfl, -, -⟩ := own_slice hown
      have hst := hst0 c0 A0 (Row.of_own hown)
      clear hst0 hown Hcf HR HU
      go_wp2_with fail
      go_ret
      exact ⟨rfl, hbel⟩
end Fb
