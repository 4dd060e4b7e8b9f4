/- cmp.Compare of ints, the search for an object: they return what the plain law says. Conditions: numbers rise; few objects. -/
import Derived.Test.YtbddmpbifkgloaaObjsMem
namespace Fb
open Go Go.Proofs Go.RowKit Go.Sort
set_option maxHeartbeats 400000 in
theorem isnan_any (x : Int) (w : World) : Calls Try.prog 70 #[.int .i64 x] w fun e w' => e = .returned (.bool false) ∧ w = w' := by
  go_enter Try.func70, Try.ntmps70
  go_wp2
  go_ret
  exact ⟨by simp, rfl⟩
def cmpI (a b : Int) : Int := if a < b then -1 else if b < a then 1 else 0
set_option maxRecDepth 100000 in
set_option maxHeartbeats 800000 in
theorem compare_any (a b : Int) (w : World) : Calls Try.prog 55 #[.int .i64 a, .int .i64 b] w fun e w' => e = .returned (.int .i64 (cmpI a b)) ∧ w = w' := by
  by_cases h1 : a < b
  · have hr := hid (show cmpI a b = -1 by unfold cmpI; rw [if_pos h1])
    go_enter Try.func55, Try.ntmps55
    go_wp2_with fail
    refine (isnan_any _ _).mono ?_
    rintro e w1 ⟨rfl, rfl⟩
    go_wp2_with fail
    refine (isnan_any _ _).mono ?_
    rintro e w1 ⟨rfl, rfl⟩
    go_wp2_with fail
    go_ret
    exact ⟨by rw [hr.out]; rfl, rfl⟩
  · by_cases h2 : b < a
    · have hr := hid (show cmpI a b = 1 by unfold cmpI; rw [if_neg h1, if_pos h2])
      go_enter Try.func55, Try.ntmps55
      go_wp2_with fail
      refine (isnan_any _ _).mono ?_
      rintro e w1 ⟨rfl, rfl⟩
      go_wp2_with fail
      refine (isnan_any _ _).mono ?_
      rintro e w1 ⟨rfl, rfl⟩
      go_wp2_with fail
      go_ret
      exact ⟨by rw [hr.out]; rfl, rfl⟩
    · have hr := hid (show cmpI a b = 0 by unfold cmpI; rw [if_neg h1, if_neg h2])
      go_enter Try.func55, Try.ntmps55
      go_wp2_with fail
      refine (isnan_any _ _).mono ?_
      rintro e w1 ⟨rfl, rfl⟩
      go_wp2_with fail
      refine (isnan_any _ _).mono ?_
      rintro e w1 ⟨rfl, rfl⟩
      go_wp2_with fail
      go_ret
      exact ⟨by rw [hr.out]; rfl, rfl⟩
set_option maxRecDepth 100000 in
set_option maxHeartbeats 800000 in
theorem findcmp_any (r : FAt FObj) (n : Int) (w : World) : Calls Try.prog 54 #[objV r, .int .i64 n] w (Ret (.int .i64 (cmpI r.x.id n)) w) := by
  obtain ⟨⟨oi, ox, oy, ⟨ow, oh, ol⟩, ⟨orx, ory, orw, orh⟩, os⟩, oA, on, oc⟩ := r
  simp only
  go_enter Try.func54, Try.ntmps54
  go_wp2_with fail
  refine (compare_any _ _ _).mono ?_
  rintro e w1 ⟨rfl, rfl⟩
  go_wp2_with fail
  go_ret
  exact ⟨rfl, by (repeat (first | with_reducible exact Below.refl _ _ | with_reducible refine Below.alloc ?_ (by first | omega | (simp; done) | (simp; omega)) _ | with_reducible refine below_drewN ?_ _ | with_reducible refine Below.drew ?_))⟩
/-- the first place that is not below the number -/
def LowAt (rs : List (FAt FObj)) (t : Int) (i : Nat) : Prop := i ≤ rs.length ∧ (∀ k (h : k < rs.length), k < i → rs[k].x.id < t) ∧ (∀ k (h : k < rs.length), i ≤ k → t ≤ rs[k].x.id)
def isAt (rs : List (FAt FObj)) (t : Int) (i : Nat) : Bool := decide (∃ h : i < rs.length, rs[i].x.id = t)
def RetFound (rs : List (FAt FObj)) (t : Int) (w : World) (e : Ending) (w' : World) : Prop :=
  ∃ i : Nat, e = .returned (.tuple #[.int .i64 i, .bool (isAt rs t i)]) ∧ LowAt rs t i ∧ Below w.heap.size w w'
/-- between: all below i are lower, none from j on is -/
def Between (rs : List (FAt FObj)) (t : Int) (i j : Nat) : Prop := i ≤ j ∧ j ≤ rs.length ∧ (∀ k (h : k < rs.length), k < i → rs[k].x.id < t) ∧ (∀ k (h : k < rs.length), j ≤ k → t ≤ rs[k].x.id)
theorem rise_ids {rs : List (FAt FObj)} (h : Rise (dat rs)) {i j : Nat} (hij : i ≤ j) (hj : j < rs.length) : rs[i].x.id ≤ rs[j].x.id := by
  have := rise_at_le h hij (show j < (dat rs).length by rw [dat_len]; exact hj)
  rw [dat_at, dat_at] at this
  exact this
theorem between_up {rs : List (FAt FObj)} {t : Int} {i j h : Nat} (hr : Rise (dat rs)) (hb : Between rs t i j) (h2 : h < j) (hl : h < rs.length) (hx : rs[h].x.id < t) : Between rs t (h + 1) j :=
  ⟨by omega, hb.2.1, fun k hk hki => by have := rise_ids hr (i := k) (j := h) (by omega) hl; omega, hb.2.2.2⟩
theorem between_down {rs : List (FAt FObj)} {t : Int} {i j h : Nat} (hr : Rise (dat rs)) (hb : Between rs t i j) (h1 : i ≤ h) (hl : h < rs.length) (hx : ¬ rs[h].x.id < t) : Between rs t i h :=
  ⟨h1, by omega, hb.2.2.1, fun k hk hki => by have := rise_ids hr (i := h) (j := k) (by omega) hk; omega⟩
theorem half_wrap (i j : Nat) (h : i ≤ 1000) (h' : j ≤ 1000) : (((i : Int) + (j : Int)).toNat / 2 : Nat) = (i + j) / 2 := by omega
set_option maxRecDepth 100000 in
set_option maxHeartbeats 1600000 in
theorem bsearch_any (A : Option Addr) (n c : Nat) (rs : List (FAt FObj)) (t : Int) (w : World) (h : Objs w A n rs) (hr : Rise (dat rs)) (hn : n ≤ 1000) :
    Calls Try.prog 53 #[.slice A n c, .int .i64 t, .func (.func 54) #[] #[]] w (RetFound rs t w) := by
  have Hl := hid h.1
  have HO := hid h
  have HR := hid hr
  clear h hr
  go_enter Try.func53, Try.ntmps53
  go_wp2_with fail
  go_loopw [9, 10] (fun a b wr => ∃ i j : Nat, a = .int .i64 i ∧ b = .int .i64 j ∧ Hid (Between rs t i j) ∧ i ≤ j ∧ j ≤ n ∧ Below w.heap.size w wr) (fun a b _ => (intOf b).toNat - (intOf a).toNat)
  case atStart => exact ⟨0, n, rfl, rfl, hid ⟨by omega, by rw [Hl.out]; omega, fun k hk h => absurd h (by omega), fun k hk h => absurd h (by rw [Hl.out] at hk; omega)⟩, by omega, by omega, Below.refl _ _⟩
  case round =>
    obtain ⟨i, j, rfl, rfl, HB, hij, hjn, hbel⟩ := hrel
    by_cases hlt : i < j
    · obtain ⟨b, off, rfl, hbs, hc⟩ := HO.out.open_ (by omega)
      have k2 : (i + j) / 2 < rs.length := by rw [Hl.out]; omega
      obtain ⟨d0, d1, d2, d3, d4, d5, d6, d7, d8, d9, d10⟩ := hc.cells hbel hbs k2
      have Hup := hid (fun hx => between_up HR.out HB.out (show (i + j) / 2 < j by omega) k2 hx)
      have Hdn := hid (fun hx => between_down HR.out HB.out (show i ≤ (i + j) / 2 by omega) k2 hx)
      generalize rs[(i + j) / 2] = r at *
      have hc1 := fun W => findcmp_any r t W
      have Hc := hid hc1
      clear hc1
      by_cases hx : r.x.id < t
      · have hcm := hid (show cmpI r.x.id t = -1 by unfold cmpI; rw [if_pos hx])
        have HB2 := hid (Hup.out hx)
        clear Hup Hdn hx
        go_wp2_with fail
        refine (Hc.out _).mono ?_
        rintro e w1 ⟨rfl, hb1⟩
        rw [hcm.out]
        have hbel' := bnext hbel hb1
        clear hbel hb1 d0 d1 d2 d3 d4 d5 d6 d7 d8 d9 d10
        go_wp2_with fail
        go_roundw
        case rel => exact ⟨(i + j) / 2 + 1, j, by go_num, rfl, HB2, by omega, hjn, hbel'⟩
        case measure => simp [intOf]; omega
      · have hcm := hid (show ¬ cmpI r.x.id t < 0 by unfold cmpI; rw [if_neg hx]; split <;> omega)
        have HB2 := hid (Hdn.out hx)
        clear Hup Hdn hx
        go_wp2_with fail
        refine (Hc.out _).mono ?_
        rintro e w1 ⟨rfl, hb1⟩
        generalize cmpI r.x.id t = z at *
        have hz := hcm.out
        have hbel' := bnext hbel hb1
        clear hbel hb1 d0 d1 d2 d3 d4 d5 d6 d7 d8 d9 d10
        go_wp2_with fail
        go_roundw
        case rel => exact ⟨i, (i + j) / 2, rfl, by go_num, HB2, by omega, by omega, hbel'⟩
        case measure => simp [intOf]; omega
    · obtain rfl : i = j := by omega
      have hlow := hid (show LowAt rs t i from ⟨HB.out.2.1, HB.out.2.2.1, HB.out.2.2.2⟩)
      by_cases hin : i < n
      · obtain ⟨b, off, rfl, hbs, hc⟩ := HO.out.open_ (by omega)
        have k2 : i < rs.length := by rw [Hl.out]; omega
        obtain ⟨d0, d1, d2, d3, d4, d5, d6, d7, d8, d9, d10⟩ := hc.cells hbel hbs k2
        have his : isAt rs t i = decide (rs[i].x.id = t) := by
          unfold isAt
          rw [Bool.eq_iff_iff]
          simp [k2]
        have hge := hlow.out.2.2 i k2 (by omega)
        have His := hid his
        clear his
        generalize rs[i] = r at *
        have hc1 := fun W => findcmp_any r t W
        have Hc := hid hc1
        clear hc1
        by_cases hx : r.x.id = t
        · have hcm := hid (show cmpI r.x.id t = 0 by unfold cmpI; rw [if_neg (by omega), if_neg (by omega)])
          have hr := hid (show isAt rs t i = true by rw [His.out]; simp [hx])
          clear hx hge His
          go_wp2_with fail
          refine (Hc.out _).mono ?_
          rintro e w1 ⟨rfl, hb1⟩
          rw [hcm.out]
          have hbel' := bnext hbel hb1
          clear hbel hb1 d0 d1 d2 d3 d4 d5 d6 d7 d8 d9 d10
          go_wp2_with fail
          go_ret2
          exact ⟨i, by rw [hr.out]; rfl, hlow.out, hbel'⟩
        · have hcm : ¬ cmpI r.x.id t = 0 := by unfold cmpI; rw [if_neg (by omega), if_pos (by omega)]; omega
          have hr := hid (show isAt rs t i = false by rw [His.out]; simp [hx])
          generalize cmpI r.x.id t = z at *
          have hz : (z == 0) = false := by simpa using hcm
          clear hx hge His hcm
          go_wp2_with fail
          refine (Hc.out _).mono ?_
          rintro e w1 ⟨rfl, hb1⟩
          have hbel' := bnext hbel hb1
          clear hbel hb1 d0 d1 d2 d3 d4 d5 d6 d7 d8 d9 d10
          go_wp2_with fail
          go_ret2
          exact ⟨i, by rw [hr.out]; rfl, hlow.out, hbel'⟩
      · have hr := hid (show isAt rs t i = false by unfold isAt; rw [decide_eq_false_iff_not]; rintro ⟨hh, -⟩; rw [Hl.out] at hh; omega)
        obtain rfl : i = n := by omega
        go_wp2_with fail
        go_ret2
        exact ⟨i, by rw [hr.out]; rfl, hlow.out, hbel⟩
set_option maxRecDepth 100000 in
set_option maxHeartbeats 800000 in
/-- objects.find -/
theorem find_any (A : Option Addr) (n c : Nat) (rs : List (FAt FObj)) (t : Int) (w : World) (h : Objs w A n rs) (hr : Rise (dat rs)) (hn : n ≤ 1000) :
    Calls Try.prog 35 #[.slice A n c, .int .i64 t] w (RetFound rs t w) := by
  have Hc := hid (fun W (e : w = W) => bsearch_any A n c rs t W (e ▸ h) hr hn)
  clear h hr hn
  go_enter Try.func35, Try.ntmps35
  go_wp2_with fail
  refine (Hc.out _ rfl).mono ?_
  rintro e w1 ⟨i, rfl, hl, hb⟩
  have hl' := hid hl
  clear hl
  go_wp2_with fail
  go_ret2
  exact ⟨i, rfl, hl'.out, hb⟩
end Fb
