/- reel.Length, At, the reference's, LightPicture, LightFrames: they return what the plain laws of frames say. Conditions: delays from 0 to 99, at most 50 frames. -/
import Derived.Test.YtfbbocfmjahfoaaReelSame
namespace Fb
open Go Go.Proofs Go.RowKit Go.Sort
def frs (rs : List (FAt FFrame)) : List FFrame := rs.map (·.x)
theorem frs_len (rs : List (FAt FFrame)) : (frs rs).length = rs.length := by simp [frs]
theorem frs_at (rs : List (FAt FFrame)) (k : Nat) (h : k < rs.length) (h' : k < (frs rs).length) : (frs rs)[k] = rs[k].x := by simp [frs]
theorem frs_take (rs : List (FAt FFrame)) (k : Nat) (h : k < rs.length) : delays ((frs rs).take (k + 1)) = delays ((frs rs).take k) + rs[k].x.delay := by
  rw [delays_take _ _ (by rw [frs_len]; exact h), frs_at _ _ h]
theorem FineFr.at_ {rs : List (FAt FFrame)} (h : FineFr (frs rs)) {k : Nat} (k1 : k < rs.length) : 0 ≤ rs[k].x.delay ∧ rs[k].x.delay ≤ 10000 := h _ (List.mem_map.2 ⟨rs[k], List.getElem_mem k1, rfl⟩)
set_option maxRecDepth 100000 in
set_option maxHeartbeats 800000 in
theorem length_any (A : Option Addr) (n c : Nat) (rs : List (FAt FFrame)) (w : World) (hl : Frames w A n rs) (hn : n ≤ 1000) (hf : FineFr (frs rs)) :
    Calls Try.prog 19 #[.slice A n c] w (Ret (.int .i64 (delays (frs rs))) w) := by
  have Hl := hid hl.1
  have HF := hid hf
  by_cases h0 : n = 0
  · subst h0
    have e1 : rs = [] := List.eq_nil_of_length_eq_zero Hl.out
    have hr := hid (show delays (frs rs) = 0 by rw [e1]; rfl)
    clear hl e1
    go_enter Try.func19, Try.ntmps19
    go_wp2
    go_loop [3, 8] (fun t i => i = .int .i64 0 ∧ t = .int .i64 0) (fun _ _ => 0)
    case atStart => exact ⟨rfl, rfl⟩
    case round =>
      obtain ⟨rfl, rfl⟩ := hrel
      go_wp2
      go_ret
      exact ⟨ret_int hr.out.symm, Below.refl _ _⟩
  · obtain ⟨b, o, rfl, hb, hc⟩ := hl.open_ (by omega)
    have Hc := hid hc
    clear hl hc
    go_enter Try.func19, Try.ntmps19
    go_wp2
    go_loopw [3, 8] (fun t i wr => ∃ k : Nat, k ≤ n ∧ i = .int .i64 k ∧ t = .int .i64 (delays ((frs rs).take k)) ∧ Below w.heap.size w wr) (fun _ i _ => n - (intOf i).toNat)
    case atStart => exact ⟨0, by omega, rfl, rfl, Below.refl _ _⟩
    case round =>
      obtain ⟨k, hk, rfl, rfl, hbel⟩ := hrel
      have hbd := delays_bd (HF.out.take k)
      have hlen : ((frs rs).take k).length ≤ k := List.length_take_le _ _
      by_cases hlt : k < n
      · have k1 : k < rs.length := by rw [Hl.out]; exact hlt
        obtain ⟨c0, c1, c2, c3⟩ := Hc.out k k1
        have d0 := (hbel.cell (p := ⟨b, o + k * 4, none⟩) hb).trans c0
        have d1 := (hbel.cell (p := ⟨b, o + k * 4 + 1, none⟩) hb).trans c1
        have d2 := (hbel.cell (p := ⟨b, o + k * 4 + 2, none⟩) hb).trans c2
        have d3 := (hbel.cell (p := ⟨b, o + k * 4 + 3, none⟩) hb).trans c3
        have hst := hid (frs_take rs k k1)
        have hdl := HF.out.at_ k1
        clear c0 c1 c2 c3
        generalize delays ((frs rs).take k) = D at *
        generalize rs[k].x.delay = E at *
        go_wp2_with fail
        go_roundw
        case rel =>
          refine ⟨k + 1, by omega, by go_num, by rw [hst.out], ?_⟩
          (have hB := hbel; repeat (first | with_reducible exact hB | with_reducible refine Below.alloc ?_ (by have := hB.size; simp; try omega) _ | with_reducible refine Below.setCell ?_ (by have := hB.size; simp; try omega) _ | with_reducible refine below_drewN ?_ _ | with_reducible refine Below.drew ?_))
        case measure => simp [intOf]; omega
      · obtain rfl : k = n := by omega
        have hr := hid (show delays ((frs rs).take k) = delays (frs rs) by rw [List.take_of_length_le (by rw [frs_len, Hl.out]; omega)])
        go_wp2_with fail
        go_ret
        exact ⟨ret_int hr.out, hbel⟩
set_option maxRecDepth 100000 in
set_option maxHeartbeats 800000 in
theorem rlength_any (A : Option Addr) (n c : Nat) (rs : List (FAt FFrame)) (w : World) (hl : Frames w A n rs) (hn : n ≤ 1000) (hf : FineFr (frs rs)) :
    Calls Try.prog 24 #[.slice A n c] w (Ret (.int .i64 (delays (frs rs))) w) := by
  have Hl := hid hl.1
  have HF := hid hf
  by_cases h0 : n = 0
  · subst h0
    have e1 : rs = [] := List.eq_nil_of_length_eq_zero Hl.out
    have hr := hid (show delays (frs rs) = 0 by rw [e1]; rfl)
    clear hl e1
    go_enter Try.func24, Try.ntmps24
    go_wp2
    go_loop [3, 4] (fun t i => i = .int .i64 0 ∧ t = .int .i64 0) (fun _ _ => 0)
    case atStart => exact ⟨rfl, rfl⟩
    case round =>
      obtain ⟨rfl, rfl⟩ := hrel
      go_wp2
      go_ret
      exact ⟨ret_int hr.out.symm, Below.refl _ _⟩
  · obtain ⟨b, o, rfl, hb, hc⟩ := hl.open_ (by omega)
    have Hc := hid hc
    clear hl hc
    go_enter Try.func24, Try.ntmps24
    go_wp2
    go_loopw [3, 4] (fun t i wr => ∃ k : Nat, k ≤ n ∧ i = .int .i64 k ∧ t = .int .i64 (delays ((frs rs).take k)) ∧ Below w.heap.size w wr) (fun _ i _ => n - (intOf i).toNat)
    case atStart => exact ⟨0, by omega, rfl, rfl, Below.refl _ _⟩
    case round =>
      obtain ⟨k, hk, rfl, rfl, hbel⟩ := hrel
      have hbd := delays_bd (HF.out.take k)
      have hlen : ((frs rs).take k).length ≤ k := List.length_take_le _ _
      by_cases hlt : k < n
      · have k1 : k < rs.length := by rw [Hl.out]; exact hlt
        obtain ⟨c0, c1, c2, c3⟩ := Hc.out k k1
        have d3 := (hbel.cell (p := ⟨b, o + k * 4 + 3, none⟩) hb).trans c3
        have hst := hid (frs_take rs k k1)
        have hdl := HF.out.at_ k1
        clear c0 c1 c2 c3
        generalize delays ((frs rs).take k) = D at *
        generalize rs[k].x.delay = E at *
        go_wp2_with fail
        go_roundw
        case rel =>
          refine ⟨k + 1, by omega, by go_num, by rw [hst.out], ?_⟩
          (have hB := hbel; repeat (first | with_reducible exact hB | with_reducible refine Below.alloc ?_ (by have := hB.size; simp; try omega) _ | with_reducible refine Below.setCell ?_ (by have := hB.size; simp; try omega) _ | with_reducible refine below_drewN ?_ _ | with_reducible refine Below.drew ?_))
        case measure => simp [intOf]; omega
      · obtain rfl : k = n := by omega
        have hr := hid (show delays ((frs rs).take k) = delays (frs rs) by rw [List.take_of_length_le (by rw [frs_len, Hl.out]; omega)])
        go_wp2_with fail
        go_ret
        exact ⟨ret_int hr.out, hbel⟩
theorem AtInv.hit' {rs : List (FAt FFrame)} {m D : Int} {k : Nat} (h : AtInv (frs rs) m k) (hD : delays ((frs rs).take k) = D) (hk : k < rs.length) (hm : m - D < rs[k].x.delay) : atL (frs rs) m = k :=
  h.hit (by rw [frs_len]; exact hk) (by rw [hD, frs_at rs k hk]; exact hm)
theorem AtInv.step' {rs : List (FAt FFrame)} {m D : Int} {k : Nat} (h : AtInv (frs rs) m k) (hD : delays ((frs rs).take k) = D) (hk : k < rs.length) (hm : ¬ m - D < rs[k].x.delay) : AtInv (frs rs) m (k + 1) :=
  h.step (by rw [frs_len]; exact hk) (by rw [hD, frs_at rs k hk]; exact hm)
set_option maxRecDepth 100000 in
set_option maxHeartbeats 800000 in
theorem at_any (A : Option Addr) (n c : Nat) (rs : List (FAt FFrame)) (m : Int) (w : World) (hl : Frames w A n rs) (hn : n ≤ 1000) (hf : FineFr (frs rs)) (hm : m ≤ 9223372036854775807) :
    Calls Try.prog 20 #[.slice A n c, .int .i64 m] w (Ret (.int .i64 (atL (frs rs) m)) w) := by
  have Hl := hid hl.1
  have HF := hid hf
  by_cases hneg : m < 0
  · have hr := hid (atL_neg (l := frs rs) hneg)
    clear hl
    go_enter Try.func20, Try.ntmps20
    go_wp2
    go_ret
    exact ⟨ret_int hr.out.symm, Below.refl _ _⟩
  by_cases h0 : n = 0
  · subst h0
    have e1 : rs = [] := List.eq_nil_of_length_eq_zero Hl.out
    have hr := hid (show atL (frs rs) m = -1 by rw [e1]; unfold atL; rw [if_neg hneg]; rfl)
    clear hl e1
    go_enter Try.func20, Try.ntmps20
    go_wp2
    go_loop [1, 11] (fun t i => i = .int .i64 0 ∧ t = .int .i64 m) (fun _ _ => 0)
    case atStart => exact ⟨rfl, rfl⟩
    case round =>
      obtain ⟨rfl, rfl⟩ := hrel
      go_wp2
      go_ret
      exact ⟨ret_int hr.out.symm, Below.refl _ _⟩
  · obtain ⟨b, o, rfl, hb, hc⟩ := hl.open_ (by omega)
    have Hc := hid hc
    clear hl hc
    go_enter Try.func20, Try.ntmps20
    go_wp2
    go_loopw [1, 11] (fun t i wr => ∃ (k : Nat) (D : Int), k ≤ n ∧ i = .int .i64 k ∧ t = .int .i64 (m - D) ∧ delays ((frs rs).take k) = D ∧ AtInv (frs rs) m k ∧ Below w.heap.size w wr) (fun _ i _ => n - (intOf i).toNat)
    case atStart => exact ⟨0, 0, by omega, rfl, by simp, rfl, AtInv.start _ _ (by omega), Below.refl _ _⟩
    case round =>
      obtain ⟨k, D, hk, rfl, rfl, hD, HI, hbel⟩ := hrel
      have hbd := delays_bd (HF.out.take k)
      have hle := HI.2.1
      rw [hD] at hbd hle
      have HD := hid hD
      clear hD
      by_cases hlt : k < n
      · have k1 : k < rs.length := by rw [Hl.out]; exact hlt
        obtain ⟨c0, c1, c2, c3⟩ := Hc.out k k1
        have d0 := (hbel.cell (p := ⟨b, o + k * 4, none⟩) hb).trans c0
        have d1 := (hbel.cell (p := ⟨b, o + k * 4 + 1, none⟩) hb).trans c1
        have d2 := (hbel.cell (p := ⟨b, o + k * 4 + 2, none⟩) hb).trans c2
        have d3 := (hbel.cell (p := ⟨b, o + k * 4 + 3, none⟩) hb).trans c3
        have hdl := HF.out.at_ k1
        clear c0 c1 c2 c3
        by_cases hh : m - D < rs[k].x.delay
        · have hr := hid (HI.hit' HD.out k1 hh)
          clear HI
          generalize rs[k].x.delay = E at *
          go_wp2_with fail
          go_ret
          refine ⟨ret_int hr.out.symm, ?_⟩
          (have hB := hbel; repeat (first | with_reducible exact hB | with_reducible refine Below.alloc ?_ (by have := hB.size; simp; try omega) _ | with_reducible refine Below.setCell ?_ (by have := hB.size; simp; try omega) _ | with_reducible refine below_drewN ?_ _ | with_reducible refine Below.drew ?_))
        · have hst := HI.step' HD.out k1 hh
          have hdd := hid (show delays ((frs rs).take (k + 1)) = D + rs[k].x.delay by rw [frs_take rs k k1, HD.out])
          clear HI
          generalize rs[k].x.delay = E at *
          go_wp2_with fail
          go_roundw
          case rel =>
            refine ⟨k + 1, D + E, by omega, by go_num, by congr 1; omega, hdd.out, hst, ?_⟩
            (have hB := hbel; repeat (first | with_reducible exact hB | with_reducible refine Below.alloc ?_ (by have := hB.size; simp; try omega) _ | with_reducible refine Below.setCell ?_ (by have := hB.size; simp; try omega) _ | with_reducible refine below_drewN ?_ _ | with_reducible refine Below.drew ?_))
          case measure => simp [intOf]; omega
      · obtain rfl : k = n := by omega
        have hr := hid (HI.done (by rw [frs_len, Hl.out]; omega))
        clear HI
        go_wp2_with fail
        go_ret
        exact ⟨ret_int hr.out.symm, hbel⟩
set_option maxRecDepth 100000 in
set_option maxHeartbeats 800000 in
theorem rat_any (A : Option Addr) (n c : Nat) (rs : List (FAt FFrame)) (m : Int) (w : World) (hl : Frames w A n rs) (hn : n ≤ 1000) (hf : FineFr (frs rs)) :
    Calls Try.prog 25 #[.slice A n c, .int .i64 m] w (Ret (.int .i64 (atL (frs rs) m)) w) := by
  have Hl := hid hl.1
  have HF := hid hf
  by_cases h0 : n = 0
  · subst h0
    have e1 : rs = [] := List.eq_nil_of_length_eq_zero Hl.out
    have hr := hid (show atL (frs rs) m = -1 by rw [e1]; unfold atL; split <;> rfl)
    clear hl e1
    go_enter Try.func25, Try.ntmps25
    go_wp2
    go_loop [5, 6] (fun t i => i = .int .i64 0 ∧ t = .int .i64 0) (fun _ _ => 0)
    case atStart => exact ⟨rfl, rfl⟩
    case round =>
      obtain ⟨rfl, rfl⟩ := hrel
      go_wp2
      go_ret
      exact ⟨ret_int hr.out.symm, Below.refl _ _⟩
  · obtain ⟨b, o, rfl, hb, hc⟩ := hl.open_ (by omega)
    have Hc := hid hc
    clear hl hc
    go_enter Try.func25, Try.ntmps25
    go_wp2
    by_cases hneg : m < 0
    · have hr := hid (atL_neg (l := frs rs) hneg)
      go_loopw [5, 6] (fun t i wr => ∃ k : Nat, k ≤ n ∧ i = .int .i64 k ∧ t = .int .i64 (delays ((frs rs).take k)) ∧ Below w.heap.size w wr) (fun _ i _ => n - (intOf i).toNat)
      case atStart => exact ⟨0, by omega, rfl, rfl, Below.refl _ _⟩
      case round =>
        obtain ⟨k, hk, rfl, rfl, hbel⟩ := hrel
        have hbd := delays_bd (HF.out.take k)
        have hlen : ((frs rs).take k).length ≤ k := List.length_take_le _ _
        by_cases hlt : k < n
        · have k1 : k < rs.length := by rw [Hl.out]; exact hlt
          obtain ⟨c0, c1, c2, c3⟩ := Hc.out k k1
          have d3 := (hbel.cell (p := ⟨b, o + k * 4 + 3, none⟩) hb).trans c3
          have hst := hid (frs_take rs k k1)
          have hdl := HF.out.at_ k1
          clear c0 c1 c2 c3
          generalize delays ((frs rs).take k) = D at *
          generalize rs[k].x.delay = E at *
          have hlo : ¬ D ≤ m := by omega
          go_wp2_with fail
          go_roundw
          case rel =>
            refine ⟨k + 1, by omega, by go_num, by rw [hst.out], ?_⟩
            (have hB := hbel; repeat (first | with_reducible exact hB | with_reducible refine Below.alloc ?_ (by have := hB.size; simp; try omega) _ | with_reducible refine Below.setCell ?_ (by have := hB.size; simp; try omega) _ | with_reducible refine below_drewN ?_ _ | with_reducible refine Below.drew ?_))
          case measure => simp [intOf]; omega
        · obtain rfl : k = n := by omega
          go_wp2_with fail
          go_ret
          exact ⟨ret_int hr.out.symm, hbel⟩
    · go_loopw [5, 6] (fun t i wr => ∃ (k : Nat) (D : Int), k ≤ n ∧ i = .int .i64 k ∧ t = .int .i64 D ∧ delays ((frs rs).take k) = D ∧ AtInv (frs rs) m k ∧ Below w.heap.size w wr) (fun _ i _ => n - (intOf i).toNat)
      case atStart => exact ⟨0, 0, by omega, rfl, rfl, rfl, AtInv.start _ _ (by omega), Below.refl _ _⟩
      case round =>
        obtain ⟨k, D, hk, rfl, rfl, hD, HI, hbel⟩ := hrel
        have hbd := delays_bd (HF.out.take k)
        have hlen : ((frs rs).take k).length ≤ k := List.length_take_le _ _
        have hle := HI.2.1
        rw [hD] at hbd hle
        have HD := hid hD
        clear hD
        by_cases hlt : k < n
        · have k1 : k < rs.length := by rw [Hl.out]; exact hlt
          obtain ⟨c0, c1, c2, c3⟩ := Hc.out k k1
          have d3 := (hbel.cell (p := ⟨b, o + k * 4 + 3, none⟩) hb).trans c3
          have hdl := HF.out.at_ k1
          clear c0 c1 c2 c3
          by_cases hh : m - D < rs[k].x.delay
          · have hr := hid (HI.hit' HD.out k1 hh)
            clear HI
            generalize rs[k].x.delay = E at *
            have hh' : m < D + E := by omega
            go_wp2_with fail
            go_ret
            refine ⟨ret_int hr.out.symm, ?_⟩
            (have hB := hbel; repeat (first | with_reducible exact hB | with_reducible refine Below.alloc ?_ (by have := hB.size; simp; try omega) _ | with_reducible refine Below.setCell ?_ (by have := hB.size; simp; try omega) _ | with_reducible refine below_drewN ?_ _ | with_reducible refine Below.drew ?_))
          · have hst := HI.step' HD.out k1 hh
            have hdd := hid (show delays ((frs rs).take (k + 1)) = D + rs[k].x.delay by rw [frs_take rs k k1, HD.out])
            clear HI
            generalize rs[k].x.delay = E at *
            have hh' : ¬ m < D + E := by omega
            go_wp2_with fail
            go_roundw
            case rel =>
              refine ⟨k + 1, D + E, by omega, by go_num, rfl, hdd.out, hst, ?_⟩
              (have hB := hbel; repeat (first | with_reducible exact hB | with_reducible refine Below.alloc ?_ (by have := hB.size; simp; try omega) _ | with_reducible refine Below.setCell ?_ (by have := hB.size; simp; try omega) _ | with_reducible refine below_drewN ?_ _ | with_reducible refine Below.drew ?_))
            case measure => simp [intOf]; omega
        · obtain rfl : k = n := by omega
          have hr := hid (HI.done (by rw [frs_len, Hl.out]; omega))
          clear HI
          go_wp2_with fail
          go_ret
          exact ⟨ret_int hr.out.symm, hbel⟩
end Fb
