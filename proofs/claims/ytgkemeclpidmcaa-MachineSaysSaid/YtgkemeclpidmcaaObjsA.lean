/- Objects in memory: the cells of a slice of objects; what a call leaves that returns one. Conditions: none; plain lemmas. cmp.Compare of ints, the search for an object: they return what the plain law says. Conditions: numbers rise; few objects. slices.Clone and slices.Insert at objects: a slice of its own, with one element more. Conditions: the slice is the call's own; few elements. objects.Get, objects.Set: they return what the plain law says. Conditions: numbers rise; few objects. -/
import Derived.Test.YtgkemeclpidmcaaPlainB
import Derived.Test.YtgkemeclpidmcaaChecks
import Derived.Test.YtgkemeclpidmcaaBlend
import Derived.Test.YtgkemeclpidmcaaWalksA
import Derived.Lib.Overlaps
import Derived.Lib.AppendZerosOnto
import Derived.Lib.Walk
set_option linter.unusedSimpArgs false
set_option linter.unusedVariables false
namespace Fb
open Go Go.Proofs Go.RowKit Go.Sort
/-- the data of what lies in memory -/
def dat (rs : List (FAt FObj)) : List FObj := rs.map (·.x)
theorem dat_len (rs : List (FAt FObj)) : (dat rs).length = rs.length := by simp [dat]
theorem dat_at {rs : List (FAt FObj)} {k : Nat} (h : k < rs.length) : (dat rs)[k]'(by rw [dat_len]; exact h) = rs[k].x := by simp [dat]
def ObAt (w : World) (b off : Nat) (rs : List (FAt FObj)) : Prop := ∀ k (h : k < rs.length), w.cell? ⟨b, off + k * 11, none⟩ = some (.int .i64 rs[k].x.id) ∧ w.cell? ⟨b, off + k * 11 + 1, none⟩ = some (.int .i64 rs[k].x.x) ∧
  w.cell? ⟨b, off + k * 11 + 2, none⟩ = some (.int .i64 rs[k].x.y) ∧ w.cell? ⟨b, off + k * 11 + 3, none⟩ = some (.int .i64 rs[k].x.pic.w) ∧ w.cell? ⟨b, off + k * 11 + 4, none⟩ = some (.int .i64 rs[k].x.pic.h) ∧
  w.cell? ⟨b, off + k * 11 + 5, none⟩ = some (.slice rs[k].A rs[k].n rs[k].c) ∧ w.cell? ⟨b, off + k * 11 + 6, none⟩ = some (.int .i64 rs[k].x.clip.x) ∧ w.cell? ⟨b, off + k * 11 + 7, none⟩ = some (.int .i64 rs[k].x.clip.y) ∧
  w.cell? ⟨b, off + k * 11 + 8, none⟩ = some (.int .i64 rs[k].x.clip.w) ∧ w.cell? ⟨b, off + k * 11 + 9, none⟩ = some (.int .i64 rs[k].x.clip.h) ∧ w.cell? ⟨b, off + k * 11 + 10, none⟩ = some (.bool rs[k].x.shown)
theorem Objs.open_ {w : World} {A : Option Addr} {n : Nat} {rs : List (FAt FObj)} (h : Objs w A n rs) (hn : 0 < n) : ∃ b off, A = some ⟨b, off, none⟩ ∧ b < w.heap.size ∧ ObAt w b off rs := by
  obtain ⟨b, off, e, hb, hc⟩ := h.2.1.2 hn
  refine ⟨b, off, e, hb, fun k hk => ?_⟩
  have e0 : rs[k]? = some rs[k] := List.getElem?_eq_getElem hk
  have f := fun j hj => flat_at (enc := obCells) (size := 11) (fun _ => rfl) rs k j _ e0 hj
  refine ⟨?_, ?_, ?_, ?_, ?_, ?_, ?_, ?_, ?_, ?_, ?_⟩
  · have := hc (k * 11 + 0) _ (f 0 (by omega)); simpa using this
  · have := hc (k * 11 + 1) _ (f 1 (by omega)); simpa [Nat.add_assoc] using this
  · have := hc (k * 11 + 2) _ (f 2 (by omega)); simpa [Nat.add_assoc] using this
  · have := hc (k * 11 + 3) _ (f 3 (by omega)); simpa [Nat.add_assoc] using this
  · have := hc (k * 11 + 4) _ (f 4 (by omega)); simpa [Nat.add_assoc] using this
  · have := hc (k * 11 + 5) _ (f 5 (by omega)); simpa [Nat.add_assoc] using this
  · have := hc (k * 11 + 6) _ (f 6 (by omega)); simpa [Nat.add_assoc] using this
  · have := hc (k * 11 + 7) _ (f 7 (by omega)); simpa [Nat.add_assoc] using this
  · have := hc (k * 11 + 8) _ (f 8 (by omega)); simpa [Nat.add_assoc] using this
  · have := hc (k * 11 + 9) _ (f 9 (by omega)); simpa [Nat.add_assoc] using this
  · have := hc (k * 11 + 10) _ (f 10 (by omega)); simpa [Nat.add_assoc] using this
theorem Objs.below {w w' : World} {A : Option Addr} {n : Nat} {rs : List (FAt FObj)} (h : Objs w A n rs) (hb : Below w.heap.size w w') : Objs w' A n rs :=
  ⟨h.1, h.2.1.below hb, fun r hr => (h.2.2 r hr).below hb⟩
theorem Objs.alloc {w : World} {A : Option Addr} {n : Nat} {rs : List (FAt FObj)} (h : Objs w A n rs) (o : Go.Obj) : Objs (w.alloc o) A n rs := h.below ((Below.refl _ _).alloc (Nat.le_refl _) o)
/-- the cells of one object, in any world that has kept them -/
def ObCells (w : World) (b o : Nat) (r : FAt FObj) : Prop := w.cell? ⟨b, o, none⟩ = some (.int .i64 r.x.id) ∧ w.cell? ⟨b, o + 1, none⟩ = some (.int .i64 r.x.x) ∧
  w.cell? ⟨b, o + 2, none⟩ = some (.int .i64 r.x.y) ∧ w.cell? ⟨b, o + 3, none⟩ = some (.int .i64 r.x.pic.w) ∧ w.cell? ⟨b, o + 4, none⟩ = some (.int .i64 r.x.pic.h) ∧
  w.cell? ⟨b, o + 5, none⟩ = some (.slice r.A r.n r.c) ∧ w.cell? ⟨b, o + 6, none⟩ = some (.int .i64 r.x.clip.x) ∧ w.cell? ⟨b, o + 7, none⟩ = some (.int .i64 r.x.clip.y) ∧
  w.cell? ⟨b, o + 8, none⟩ = some (.int .i64 r.x.clip.w) ∧ w.cell? ⟨b, o + 9, none⟩ = some (.int .i64 r.x.clip.h) ∧ w.cell? ⟨b, o + 10, none⟩ = some (.bool r.x.shown)
theorem ObAt.cells {w w' : World} {B b off : Nat} {rs : List (FAt FObj)} (h : ObAt w b off rs) (hb : Below B w w') (hB : b < B) {k : Nat} (hk : k < rs.length) : ObCells w' b (off + k * 11) rs[k] := by
  obtain ⟨c0, c1, c2, c3, c4, c5, c6, c7, c8, c9, c10⟩ := h k hk
  have f : ∀ o v, w.cell? ⟨b, o, none⟩ = some v → w'.cell? ⟨b, o, none⟩ = some v := fun o v hv => (hb.cell (p := ⟨b, o, none⟩) hB).trans hv
  exact ⟨f _ _ c0, f _ _ c1, f _ _ c2, f _ _ c3, f _ _ c4, f _ _ c5, f _ _ c6, f _ _ c7, f _ _ c8, f _ _ c9, f _ _ c10⟩
theorem ObCells.below {w w' : World} {B b o : Nat} {r : FAt FObj} (h : ObCells w b o r) (hb : Below B w w') (hB : b < B) : ObCells w' b o r := by
  obtain ⟨c0, c1, c2, c3, c4, c5, c6, c7, c8, c9, c10⟩ := h
  have f : ∀ o v, w.cell? ⟨b, o, none⟩ = some v → w'.cell? ⟨b, o, none⟩ = some v := fun o v hv => (hb.cell (p := ⟨b, o, none⟩) hB).trans hv
  exact ⟨f _ _ c0, f _ _ c1, f _ _ c2, f _ _ c3, f _ _ c4, f _ _ c5, f _ _ c6, f _ _ c7, f _ _ c8, f _ _ c9, f _ _ c10⟩
/-- a box of its own that holds the object -/
def ObBox (w : World) (g : Nat) (r : FAt FObj) : Prop := w.cell? ⟨g, 0, none⟩ = some (.int .i64 r.x.id) ∧ w.cell? ⟨g, 1, none⟩ = some (.int .i64 r.x.x) ∧ w.cell? ⟨g, 2, none⟩ = some (.int .i64 r.x.y) ∧ w.cell? ⟨g, 3, none⟩ = some (.int .i64 r.x.pic.w) ∧ w.cell? ⟨g, 4, none⟩ = some (.int .i64 r.x.pic.h) ∧ w.cell? ⟨g, 5, none⟩ = some (.slice r.A r.n r.c) ∧ w.cell? ⟨g, 6, none⟩ = some (.int .i64 r.x.clip.x) ∧ w.cell? ⟨g, 7, none⟩ = some (.int .i64 r.x.clip.y) ∧ w.cell? ⟨g, 8, none⟩ = some (.int .i64 r.x.clip.w) ∧ w.cell? ⟨g, 9, none⟩ = some (.int .i64 r.x.clip.h) ∧ w.cell? ⟨g, 10, none⟩ = some (.bool r.x.shown)
theorem ObBox.below {w w' : World} {B g : Nat} {r : FAt FObj} (h : ObBox w g r) (hb : Below B w w') (hB : g < B) : ObBox w' g r := by
  obtain ⟨c0, c1, c2, c3, c4, c5, c6, c7, c8, c9, c10⟩ := h
  have f : ∀ o v, w.cell? ⟨g, o, none⟩ = some v → w'.cell? ⟨g, o, none⟩ = some v := fun o v hv => (hb.cell (p := ⟨g, o, none⟩) hB).trans hv
  exact ⟨f _ _ c0, f _ _ c1, f _ _ c2, f _ _ c3, f _ _ c4, f _ _ c5, f _ _ c6, f _ _ c7, f _ _ c8, f _ _ c9, f _ _ c10⟩
/-- the call returns a slice of these objects; what was there is as it was -/
def RetObjs (P : List FObj) (w : World) (e : Ending) (w' : World) : Prop := ∃ (A : Option Addr) (n c : Nat) (rs : List (FAt FObj)), e = .returned (.slice A n c) ∧ Objs w' A n rs ∧ dat rs = P ∧ Below w.heap.size w w'
end Fb
namespace Fb
open Go Go.Proofs Go.RowKit Go.Sort
set_option maxHeartbeats 400000 in
theorem isnan_any (x : Int) (w : World) : Calls Try.prog 94 #[.int .i64 x] w fun e w' => e = .returned (.bool false) ∧ w = w' := by
  go_enter Try.func94, Try.ntmps94
  go_wp2
  go_ret
  exact ⟨by simp, rfl⟩
def cmpI (a b : Int) : Int := if a < b then -1 else if b < a then 1 else 0
set_option maxRecDepth 100000 in
set_option maxHeartbeats 800000 in
theorem compare_any (a b : Int) (w : World) : Calls Try.prog 90 #[.int .i64 a, .int .i64 b] w fun e w' => e = .returned (.int .i64 (cmpI a b)) ∧ w = w' := by
  by_cases h1 : a < b
  · have hr := hid (show cmpI a b = -1 by unfold cmpI; rw [if_pos h1])
    go_enter Try.func90, Try.ntmps90
    go_wp2_with fail
    refine (isnan_any _ _).mono ?_
    rintro e w1 ⟨rfl, rfl⟩
    go_wp2_with fail
    refine (isnan_any _ _).mono ?_
    rintro e w1 ⟨rfl, rfl⟩
    go_wp2_with fail
    go_ret
    exact ⟨by rw [hr.out]; rfl, rfl⟩
  · by_cases h2 : b < a
    · have hr := hid (show cmpI a b = 1 by unfold cmpI; rw [if_neg h1, if_pos h2])
      go_enter Try.func90, Try.ntmps90
      go_wp2_with fail
      refine (isnan_any _ _).mono ?_
      rintro e w1 ⟨rfl, rfl⟩
      go_wp2_with fail
      refine (isnan_any _ _).mono ?_
      rintro e w1 ⟨rfl, rfl⟩
      go_wp2_with fail
      go_ret
      exact ⟨by rw [hr.out]; rfl, rfl⟩
    · have hr := hid (show cmpI a b = 0 by unfold cmpI; rw [if_neg h1, if_neg h2])
      go_enter Try.func90, Try.ntmps90
      go_wp2_with fail
      refine (isnan_any _ _).mono ?_
      rintro e w1 ⟨rfl, rfl⟩
      go_wp2_with fail
      refine (isnan_any _ _).mono ?_
      rintro e w1 ⟨rfl, rfl⟩
      go_wp2_with fail
      go_ret
      exact ⟨by rw [hr.out]; rfl, rfl⟩
set_option maxRecDepth 100000 in
set_option maxHeartbeats 800000 in
theorem findcmp_any (r : FAt FObj) (n : Int) (w : World) : Calls Try.prog 89 #[objV r, .int .i64 n] w (Ret (.int .i64 (cmpI r.x.id n)) w) := by
  obtain ⟨⟨oi, ox, oy, ⟨ow, oh, ol⟩, ⟨orx, ory, orw, orh⟩, os⟩, oA, on, oc⟩ := r
  simp only
  go_enter Try.func89, Try.ntmps89
  go_wp2_with fail
  refine (compare_any _ _ _).mono ?_
  rintro e w1 ⟨rfl, rfl⟩
  go_wp2_with fail
  go_ret
  exact ⟨rfl, by (repeat (first | with_reducible exact Below.refl _ _ | with_reducible refine Below.alloc ?_ (by first | omega | (simp; done) | (simp; omega)) _ | with_reducible refine below_drewN ?_ _ | with_reducible refine Below.drew ?_))⟩
/-- the first place that is not below the number -/
def LowAt (rs : List (FAt FObj)) (t : Int) (i : Nat) : Prop := i ≤ rs.length ∧ (∀ k (h : k < rs.length), k < i → rs[k].x.id < t) ∧ (∀ k (h : k < rs.length), i ≤ k → t ≤ rs[k].x.id)
def isAt (rs : List (FAt FObj)) (t : Int) (i : Nat) : Bool := decide (∃ h : i < rs.length, rs[i].x.id = t)
def RetFound (rs : List (FAt FObj)) (t : Int) (w : World) (e : Ending) (w' : World) : Prop :=
  ∃ i : Nat, e = .returned (.tuple #[.int .i64 i, .bool (isAt rs t i)]) ∧ LowAt rs t i ∧ Below w.heap.size w w'
/-- between: all below i are lower, none from j on is -/
def Between (rs : List (FAt FObj)) (t : Int) (i j : Nat) : Prop := i ≤ j ∧ j ≤ rs.length ∧ (∀ k (h : k < rs.length), k < i → rs[k].x.id < t) ∧ (∀ k (h : k < rs.length), j ≤ k → t ≤ rs[k].x.id)
theorem rise_ids {rs : List (FAt FObj)} (h : Rise (dat rs)) {i j : Nat} (hij : i ≤ j) (hj : j < rs.length) : rs[i].x.id ≤ rs[j].x.id := by
  have := rise_at_le h hij (show j < (dat rs).length by rw [dat_len]; exact hj)
  rw [dat_at, dat_at] at this
  exact this
theorem between_up {rs : List (FAt FObj)} {t : Int} {i j h : Nat} (hr : Rise (dat rs)) (hb : Between rs t i j) (h2 : h < j) (hl : h < rs.length) (hx : rs[h].x.id < t) : Between rs t (h + 1) j :=
  ⟨by omega, hb.2.1, fun k hk hki => by have := rise_ids hr (i := k) (j := h) (by omega) hl; omega, hb.2.2.2⟩
theorem between_down {rs : List (FAt FObj)} {t : Int} {i j h : Nat} (hr : Rise (dat rs)) (hb : Between rs t i j) (h1 : i ≤ h) (hl : h < rs.length) (hx : ¬ rs[h].x.id < t) : Between rs t i h :=
  ⟨h1, by omega, hb.2.2.1, fun k hk hki => by have := rise_ids hr (i := h) (j := k) (by omega) hk; omega⟩
theorem half_wrap (i j : Nat) (h : i ≤ 1000) (h' : j ≤ 1000) : (((i : Int) + (j : Int)).toNat / 2 : Nat) = (i + j) / 2 := by omega
set_option maxRecDepth 100000 in
set_option maxHeartbeats 1600000 in
theorem bsearch_any (A : Option Addr) (n c : Nat) (rs : List (FAt FObj)) (t : Int) (w : World) (h : Objs w A n rs) (hr : Rise (dat rs)) (hn : n ≤ 1000) :
    Calls Try.prog 88 #[.slice A n c, .int .i64 t, .func (.func 89) #[] #[]] w (RetFound rs t w) := by
  have Hl := hid h.1
  have HO := hid h
  have HR := hid hr
  clear h hr
  go_enter Try.func88, Try.ntmps88
  go_wp2_with fail
  go_loopw [9, 10] (fun a b wr => ∃ i j : Nat, a = .int .i64 i ∧ b = .int .i64 j ∧ Hid (Between rs t i j) ∧ i ≤ j ∧ j ≤ n ∧ Below w.heap.size w wr) (fun a b _ => (intOf b).toNat - (intOf a).toNat)
  case atStart => exact ⟨0, n, rfl, rfl, hid ⟨by omega, by rw [Hl.out]; omega, fun k hk h => absurd h (by omega), fun k hk h => absurd h (by rw [Hl.out] at hk; omega)⟩, by omega, by omega, Below.refl _ _⟩
  case round =>
    obtain ⟨i, j, rfl, rfl, HB, hij, hjn, hbel⟩ := hrel
    by_cases hlt : i < j
    · obtain ⟨b, off, rfl, hbs, hc⟩ := HO.out.open_ (by omega)
      have k2 : (i + j) / 2 < rs.length := by rw [Hl.out]; omega
      obtain ⟨d0, d1, d2, d3, d4, d5, d6, d7, d8, d9, d10⟩ := hc.cells hbel hbs k2
      have Hup := hid (fun hx => between_up HR.out HB.out (show (i + j) / 2 < j by omega) k2 hx)
      have Hdn := hid (fun hx => between_down HR.out HB.out (show i ≤ (i + j) / 2 by omega) k2 hx)
      generalize rs[(i + j) / 2] = r at *
      have hc1 := fun W => findcmp_any r t W
      have Hc := hid hc1
      clear hc1
      by_cases hx : r.x.id < t
      · have hcm := hid (show cmpI r.x.id t = -1 by unfold cmpI; rw [if_pos hx])
        have HB2 := hid (Hup.out hx)
        clear Hup Hdn hx
        go_wp2_with fail
        refine (Hc.out _).mono ?_
        rintro e w1 ⟨rfl, hb1⟩
        rw [hcm.out]
        have hbel' := bnext hbel hb1
        clear hbel hb1 d0 d1 d2 d3 d4 d5 d6 d7 d8 d9 d10
        go_wp2_with fail
        go_roundw
        case rel => exact ⟨(i + j) / 2 + 1, j, by go_num, rfl, HB2, by omega, hjn, hbel'⟩
        case measure => simp [intOf]; omega
      · have hcm := hid (show ¬ cmpI r.x.id t < 0 by unfold cmpI; rw [if_neg hx]; split <;> omega)
        have HB2 := hid (Hdn.out hx)
        clear Hup Hdn hx
        go_wp2_with fail
        refine (Hc.out _).mono ?_
        rintro e w1 ⟨rfl, hb1⟩
        generalize cmpI r.x.id t = z at *
        have hz := hcm.out
        have hbel' := bnext hbel hb1
        clear hbel hb1 d0 d1 d2 d3 d4 d5 d6 d7 d8 d9 d10
        go_wp2_with fail
        go_roundw
        case rel => exact ⟨i, (i + j) / 2, rfl, by go_num, HB2, by omega, by omega, hbel'⟩
        case measure => simp [intOf]; omega
    · obtain rfl : i = j := by omega
      have hlow := hid (show LowAt rs t i from ⟨HB.out.2.1, HB.out.2.2.1, HB.out.2.2.2⟩)
      by_cases hin : i < n
      · obtain ⟨b, off, rfl, hbs, hc⟩ := HO.out.open_ (by omega)
        have k2 : i < rs.length := by rw [Hl.out]; omega
        obtain ⟨d0, d1, d2, d3, d4, d5, d6, d7, d8, d9, d10⟩ := hc.cells hbel hbs k2
        have his : isAt rs t i = decide (rs[i].x.id = t) := by
          unfold isAt
          rw [Bool.eq_iff_iff]
          simp [k2]
        have hge := hlow.out.2.2 i k2 (by omega)
        have His := hid his
        clear his
        generalize rs[i] = r at *
        have hc1 := fun W => findcmp_any r t W
        have Hc := hid hc1
        clear hc1
        by_cases hx : r.x.id = t
        · have hcm := hid (show cmpI r.x.id t = 0 by unfold cmpI; rw [if_neg (by omega), if_neg (by omega)])
          have hr := hid (show isAt rs t i = true by rw [His.out]; simp [hx])
          clear hx hge His
          go_wp2_with fail
          refine (Hc.out _).mono ?_
          rintro e w1 ⟨rfl, hb1⟩
          rw [hcm.out]
          have hbel' := bnext hbel hb1
          clear hbel hb1 d0 d1 d2 d3 d4 d5 d6 d7 d8 d9 d10
          go_wp2_with fail
          go_ret2
          exact ⟨i, by rw [hr.out]; rfl, hlow.out, hbel'⟩
        · have hcm : ¬ cmpI r.x.id t = 0 := by unfold cmpI; rw [if_neg (by omega), if_pos (by omega)]; omega
          have hr := hid (show isAt rs t i = false by rw [His.out]; simp [hx])
          generalize cmpI r.x.id t = z at *
          have hz : (z == 0) = false := by simpa using hcm
          clear hx hge His hcm
          go_wp2_with fail
          refine (Hc.out _).mono ?_
          rintro e w1 ⟨rfl, hb1⟩
          have hbel' := bnext hbel hb1
          clear hbel hb1 d0 d1 d2 d3 d4 d5 d6 d7 d8 d9 d10
          go_wp2_with fail
          go_ret2
          exact ⟨i, by rw [hr.out]; rfl, hlow.out, hbel'⟩
      · have hr := hid (show isAt rs t i = false by unfold isAt; rw [decide_eq_false_iff_not]; rintro ⟨hh, -⟩; rw [Hl.out] at hh; omega)
        obtain rfl : i = n := by omega
        go_wp2_with fail
        go_ret2
        exact ⟨i, by rw [hr.out]; rfl, hlow.out, hbel⟩
set_option maxRecDepth 100000 in
set_option maxHeartbeats 800000 in
/-- objects.find -/
theorem find_any (A : Option Addr) (n c : Nat) (rs : List (FAt FObj)) (t : Int) (w : World) (h : Objs w A n rs) (hr : Rise (dat rs)) (hn : n ≤ 1000) :
    Calls Try.prog 75 #[.slice A n c, .int .i64 t] w (RetFound rs t w) := by
  have Hc := hid (fun W (e : w = W) => bsearch_any A n c rs t W (e ▸ h) hr hn)
  clear h hr hn
  go_enter Try.func75, Try.ntmps75
  go_wp2_with fail
  refine (Hc.out _ rfl).mono ?_
  rintro e w1 ⟨i, rfl, hl, hb⟩
  have hl' := hid hl
  clear hl
  go_wp2_with fail
  go_ret2
  exact ⟨i, rfl, hl'.out, hb⟩
end Fb
namespace Fb
open Go Go.Proofs Go.RowKit Go.Sort
theorem info_ob : (Try.prog.info? 89).map (fun i => (i.zero, i.size, i.bytes)) = some (some (.agg #[.int .i64 0, .int .i64 0, .int .i64 0, .int .i64 0, .int .i64 0, .slice none 0 0, .int .i64 0, .int .i64 0, .int .i64 0, .int .i64 0, .bool false]), 11, 104) := by kernel_rfl
theorem info_size_ob : (Try.prog.info? 89).map (·.size) = some 11 := by kernel_rfl
theorem size_ob (w : World) : (Go.sizeOf 89).run Try.prog w = .ok 11 w := by kernel_rfl
theorem obCells_one {rs : List (FAt FObj)} {u : Value} (h : u ∈ rs.flatMap obCells) : u.oneCell' = true := by
  obtain ⟨r, _, hr⟩ := List.mem_flatMap.1 h
  simp [obCells] at hr
  rcases hr with rfl | rfl | rfl | rfl | rfl | rfl | rfl | rfl | rfl | rfl | rfl <;> rfl
theorem ob_len (rs : List (FAt FObj)) : (rs.flatMap obCells).length = rs.length * 11 := flat_len (enc := obCells) (fun _ => rfl) rs
theorem ob_take (rs : List (FAt FObj)) (i : Nat) : (rs.flatMap obCells).take (i * 11) = (rs.take i).flatMap obCells := by
  induction rs generalizing i with
  | nil => simp
  | cons r rs ih =>
    cases i with
    | zero => simp
    | succ i =>
      rw [List.flatMap_cons, List.take_succ_cons, List.flatMap_cons, ← ih i, List.take_append, show (obCells r).length = 11 from rfl, List.take_of_length_le (by show 11 ≤ _; omega), show (i + 1) * 11 - 11 = i * 11 by omega]
theorem ob_drop (rs : List (FAt FObj)) (i : Nat) : (rs.flatMap obCells).drop (i * 11) = (rs.drop i).flatMap obCells := by
  induction rs generalizing i with
  | nil => simp
  | cons r rs ih =>
    cases i with
    | zero => simp
    | succ i =>
      rw [List.flatMap_cons, List.drop_succ_cons, ← ih i, List.drop_append, show (obCells r).length = 11 from rfl, List.drop_of_length_le (by show 11 ≤ _; omega), show (i + 1) * 11 - 11 = i * 11 by omega, List.nil_append]
/-- a slice of its own that holds the objects -/
def OwnObjs (rs : List (FAt FObj)) (B : Nat) (w : World) (v : Value) : Prop := w.ownsRow B 89 11 v rs.length (rs.flatMap obCells)
def RetObjsOwn (rs : List (FAt FObj)) (w : World) (e : Ending) (w' : World) : Prop := ∃ v, e = .returned v ∧ OwnObjs rs w.heap.size w' v ∧ Below w.heap.size w w'
theorem OwnObjs.nil (B : Nat) (w : World) : OwnObjs [] B w (.slice none 0 0) := World.ownsRow_nil _ _ _ _
set_option maxRecDepth 100000 in
set_option maxHeartbeats 800000 in
theorem cloneob_any (A : Option Addr) (n c : Nat) (rs : List (FAt FObj)) (w : World) (hl : Objs w A n rs) (hn : n ≤ 1000000) :
    Calls Try.prog 45 #[.slice A n c] w (RetObjsOwn rs w) := by
  have Hl := hid hl.1
  obtain ⟨i0, hi, hz0, hz1, hz2⟩ := info_parts info_ob
  have hnil := fun W => Lib.run_eql_slice_nil (P := Try.prog) W 40 89 A n c 0 0 Try.underlying40
  cases A with
  | none =>
    have h0 : n = 0 := by
      rcases Nat.eq_zero_or_pos n with h0 | h0
      · exact h0
      · obtain ⟨_, _, e, _⟩ := hl.2.1.2 h0; cases e
    subst h0
    have hnil : rs = [] := List.eq_nil_of_length_eq_zero Hl.out
    subst hnil
    clear hl
    go_enter Try.func45, Try.ntmps45
    go_wp2
    go_ret
    exact ⟨_, rfl, OwnObjs.nil _ _, Below.refl _ _⟩
  | some a =>
    have hnews : ∀ j u, (rs.flatMap obCells)[j]? = some u → w.cell? (a.add j) = some u := by
      intro j u hu
      have hj := (List.getElem?_eq_some_iff.1 hu).1
      rw [ob_len, Hl.out] at hj
      obtain ⟨b, off, e, hb, hc⟩ := hl.2.1.2 (by omega)
      injection e with e
      subst e
      rw [show (⟨b, off, none⟩ : Addr).add j = ⟨b, off + j, none⟩ from by
        unfold Addr.add
        by_cases h : j = 0
        · subst h; simp
        · rw [if_neg h]]
      exact hc j u hu
    have hblk : n * 11 = (rs.flatMap obCells).length := by rw [ob_len, Hl.out]
    have hown0 := World.ownsRow_lit (base := w.heap.size) (e := 89) (size := 11) w #[] 0 (Nat.le_refl _) (by simp [maxLen]) rfl
    have Hnews := hid hnews
    have Hblk := hid hblk
    clear hnews hblk
    go_enter Try.func45, Try.ntmps45
    go_wp2_with (at_builtin; refine wpList_append_own _ rfl _ _ 40 rfl w.heap.size 89 i0 _ 11 104 Try.underlying40 hi hz0 hz1 hz2 rfl (by decide) _ _ _ rfl hown0 a n c (rs.flatMap obCells) rfl Hblk.out.symm ?c1 ?c2 ?c3 ?c4 ?c5 ?_)
    case c1 =>
      intro j u hu
      have h := Hnews.out j u hu
      have hlt := World.block_lt_of_cell? w _ h
      exact (((Below.refl w.heap.size w).alloc (Nat.le_refl _) (.cells #[] 89)).cell (p := a.add j) hlt).trans h
    case c2 => exact fun u q hq hu => obCells_one (rs := rs) (List.mem_flatMap.2 ⟨q, hq, hu⟩)
    case c3 => unfold maxLen; omega
    case c4 => omega
    intro v' w1 hown' hgrow _
    have hbel1 : Below w.heap.size w w1 := (((Below.refl w.heap.size w).alloc (Nat.le_refl _) (.cells #[] 89))).grown hgrow (by simp) (fun g hg => (hown0.lt g hg).1)
    have HO : w1.ownsRow w.heap.size 89 11 v' n (rs.flatMap obCells) := by simpa using hown'
    have HR : Hid (OwnObjs rs w.heap.size w1 v') := by unfold OwnObjs; rw [Hl.out]; exact HO
    clear hown' hgrow HO
    go_wp2_with fail
    go_ret
    exact ⟨_, rfl, HR.out, hbel1⟩
/-! ## splices -/
theorem ins_grow {cs vs Z1 Z2 : List Value} {a : Nat} (ha : a ≤ cs.length) (hz : Z1.length = vs.length + (cs.length - a)) :
    splice (splice (cs.take a ++ Z1 ++ Z2) a vs) (a + vs.length) (cs.drop a) = cs.take a ++ vs ++ cs.drop a ++ Z2 := by
  have e1 : splice (cs.take a ++ Z1 ++ Z2) a vs = cs.take a ++ (vs ++ (Z1.drop vs.length ++ Z2)) := by
    unfold splice
    have ht : (cs.take a).length = a := by rw [List.length_take]; omega
    rw [List.append_assoc, List.take_append, ht, Nat.sub_self, List.take_zero, List.append_nil, List.take_of_length_le (by omega), List.drop_append, ht, show a + vs.length - a = vs.length by omega, List.drop_of_length_le (by omega), List.nil_append,
      List.drop_append, show vs.length - Z1.length = 0 by omega, List.drop_zero]
  rw [e1]
  unfold splice
  have ht : (cs.take a ++ vs).length = a + vs.length := by rw [List.length_append, List.length_take]; omega
  have hd : (Z1.drop vs.length).length = (cs.drop a).length := by rw [List.length_drop, List.length_drop]; omega
  rw [← List.append_assoc (cs.take a) vs, List.take_append, ht, Nat.sub_self, List.take_zero, List.append_nil, List.take_of_length_le (by omega), List.drop_append, ht, List.drop_of_length_le (show (cs.take a ++ vs).length ≤ _ by omega), List.nil_append,
    show a + vs.length + (cs.drop a).length - (a + vs.length) = (Z1.drop vs.length).length by omega, List.drop_append, Nat.sub_self, List.drop_zero, List.drop_length, List.nil_append, ← List.append_assoc]
theorem ins_shift {cs vs R : List Value} {a : Nat} (ha : a ≤ cs.length) (hz : vs.length ≤ R.length) :
    splice (splice (cs ++ R) (a + vs.length) (cs.drop a)) a vs = cs.take a ++ vs ++ cs.drop a ++ R.drop vs.length := by
  have hd : (cs.drop a).length = cs.length - a := by rw [List.length_drop]
  have e1 : splice (cs ++ R) (a + vs.length) (cs.drop a) = (cs ++ R).take (a + vs.length) ++ (cs.drop a ++ R.drop vs.length) := by
    unfold splice
    rw [hd, show a + vs.length + (cs.length - a) = cs.length + vs.length by omega, List.drop_append, List.drop_of_length_le (show cs.length ≤ cs.length + vs.length by omega), List.nil_append, show cs.length + vs.length - cs.length = vs.length by omega]
  rw [e1]
  unfold splice
  have ht : ((cs ++ R).take (a + vs.length)).length = a + vs.length := by rw [List.length_take, List.length_append]; omega
  rw [List.take_append, ht, show a - (a + vs.length) = 0 by omega, List.take_zero, List.append_nil, List.take_take, show min a (a + vs.length) = a by omega, List.take_append, show a - cs.length = 0 by omega, List.take_zero, List.append_nil,
    List.drop_append, ht, Nat.sub_self, List.drop_zero, List.drop_of_length_le (by omega), List.nil_append]
  simp [List.append_assoc]
/-! ## Insert of one object -/
def RetIns (rs : List (FAt FObj)) (r : FAt FObj) (i B : Nat) (w : World) (e : Ending) (w' : World) : Prop := ∃ v, e = .returned v ∧ OwnObjs (rs.take i ++ r :: rs.drop i) B w' v ∧ Below B w w'
theorem ins_cells (rs : List (FAt FObj)) (r : FAt FObj) (i : Nat) : (rs.take i ++ r :: rs.drop i).flatMap obCells = (rs.flatMap obCells).take (i * 11) ++ obCells r ++ (rs.flatMap obCells).drop (i * 11) := by
  rw [List.flatMap_append, List.flatMap_cons, ob_take, ob_drop, List.append_assoc]
theorem cells_at {w : World} {g : Nat} {cur : List Value} {t : TypeId} (h : w.heap[g]? = some (.cells cur.toArray t (0, 0))) {k j : Nat} {u : Value} (hu : (cur.drop k)[j]? = some u) : w.cell? ((⟨g, k, none⟩ : Addr).add j) = some u := by
  rw [List.getElem?_drop] at hu
  rw [show (⟨g, k, none⟩ : Addr).add j = ⟨g, k + j, none⟩ from by
    unfold Addr.add
    by_cases h : j = 0
    · subst h; simp
    · rw [if_neg h]]
  obtain ⟨h3, h4⟩ := List.getElem?_eq_some_iff.1 hu
  simp [World.cell?, h, h3, h4]
theorem shape_at {w : World} {g : Nat} {cur : Array Value} {t : TypeId} (h : w.heap[g]? = some (.cells cur t (0, 0))) : w.shape? g = some (t, cur.size) := by simp [World.shape?, h]
theorem unfrozen_at {w : World} {g : Nat} {cur : Array Value} {t : TypeId} (h : w.heap[g]? = some (.cells cur t (0, 0))) (o : Nat) : w.frozen? ⟨g, o, none⟩ = false := by simp [World.frozen?, h]
theorem own_form {w : World} {B n : Nat} {V : Value} {xs : List Value} (h : w.ownsRow B 89 11 V n xs) : (V = .slice none 0 0 ∧ n = 0) ∨ ∃ g c, V = .slice (some ⟨g, 0, none⟩) n c ∧ B ≤ g ∧ g < w.heap.size ∧ n ≤ c ∧ c ≤ maxLen ∧
    ∃ R : List Value, w.heap[g]? = some (.cells (xs ++ R).toArray 89 (0, 0)) ∧ R.length + n * 11 = c * 11 := by
  obtain ⟨hx, h⟩ := h
  rcases h with h | ⟨g, cap, cur, rfl, hg, hh, hnc, hcm, hcs, ht⟩
  · exact Or.inl h
  · refine Or.inr ⟨g, cap, rfl, hg, (Array.getElem?_eq_some_iff.1 hh).1, hnc, hcm, cur.toList.drop (n * 11), ?_, ?_⟩
    · rw [hh, ← ht, List.take_append_drop]
    · rw [List.length_drop, Array.length_toList, hcs]
      have := Nat.mul_le_mul_right 11 hnc
      omega
theorem own_of {w : World} {B n g c : Nat} {xs R : List Value} (hB : B ≤ g) (hh : w.heap[g]? = some (.cells (xs ++ R).toArray 89 (0, 0))) (hx : xs.length = n * 11) (hnc : n ≤ c) (hcm : c ≤ maxLen) (hR : R.length + n * 11 = c * 11) :
    w.ownsRow B 89 11 (.slice (some ⟨g, 0, none⟩) n c) n xs :=
  ⟨hx, Or.inr ⟨g, c, (xs ++ R).toArray, rfl, hB, hh, hnc, hcm, by simp; omega, by simp [hx]⟩⟩
set_option maxRecDepth 100000 in
set_option maxHeartbeats 800000 in
/-- one more behind the last -/
theorem insert_end (rs : List (FAt FObj)) (n : Nat) (hN : rs.length = n) (r : FAt FObj) (B : Nat) (V : Value) (vb : Nat) (w : World) (hn : n ≤ 1000) (hB : B ≤ w.heap.size) (h : OwnObjs rs B w V) (hv : w.heap[vb]? = some (.cells (obCells r).toArray 89 (0, 0))) :
    Calls Try.prog 76 #[V, .int .i64 n, .slice (some ⟨vb, 0, none⟩) 1 1] w (RetIns rs r n B w) := by
  obtain ⟨i0, hi, hz0, hz1, hz2⟩ := info_parts info_ob
  unfold OwnObjs at h
  rw [hN] at h
  have hlt := h.lt
  have hnews : ∀ j u, (obCells r)[j]? = some u → w.cell? ((⟨vb, 0, none⟩ : Addr).add j) = some u := fun j u hu => cells_at hv (k := 0) (by simpa using hu)
  have Hnews := hid hnews
  have Hfin := hid (ins_cells rs r n)
  have Hl2 := hid (show (rs.take n ++ r :: rs.drop n).length = n + 1 by rw [List.length_append, List.length_take, List.length_cons, List.length_drop]; omega)
  have Hl3 := hid (show (rs.flatMap obCells).take (n * 11) ++ obCells r ++ (rs.flatMap obCells).drop (n * 11) = rs.flatMap obCells ++ obCells r by
    rw [← hN, ← ob_len, List.take_length, List.drop_length, List.append_nil])
  have HL := hid hlt
  have HO := hid h
  clear hlt hnews hv hN
  rcases own_form HO.out with ⟨rfl, rfl⟩ | ⟨g, c, rfl, hg, hgs, hnc, hcm, -⟩
  · go_enter Try.func76, Try.ntmps76
    clear h
    go_wp2_with (at_builtin; refine wpList_append_own _ rfl _ _ 40 rfl B 89 i0 _ 11 104 Try.underlying40 hi hz0 hz1 hz2 rfl (by decide) _ _ _ rfl HO.out ⟨vb, 0, none⟩ 1 1 (obCells r) rfl rfl ?c1 ?c2 ?c3 ?c4 ?c5 ?_)
    case c1 => exact Hnews.out
    case c2 => exact fun u hu => obCells_one (rs := [r]) (by simpa using hu)
    case c3 => unfold maxLen; omega
    case c4 => omega
    case c5 => exact hB
    intro v' w1 hown' hgrow _
    have hb1 : Below B w w1 := (Below.refl B w).grown hgrow hB (fun g hg => (HL.out g hg).1)
    have HR : Hid (OwnObjs (rs.take 0 ++ r :: rs.drop 0) B w1 v') := by
      unfold OwnObjs
      rw [Hl2.out, Hfin.out, Hl3.out]
      exact hown'
    clear hown' hgrow
    go_wp2_with fail
    go_ret
    exact ⟨_, rfl, HR.out, hb1⟩
  · clear h
    unfold maxLen at hcm
    by_cases hcn : c = n
    all_goals
      go_enter Try.func76, Try.ntmps76
      go_wp2_with (at_builtin; refine wpList_append_own _ rfl _ _ 40 rfl B 89 i0 _ 11 104 Try.underlying40 hi hz0 hz1 hz2 rfl (by decide) _ _ _ rfl HO.out ⟨vb, 0, none⟩ 1 1 (obCells r) rfl rfl Hnews.out (fun u hu => obCells_one (rs := [r]) (by simpa using hu)) (by unfold maxLen; omega) (by omega) hB ?_)
      intro v' w1 hown' hgrow _
      have hb1 : Below B w w1 := (Below.refl B w).grown hgrow hB (fun g hg => (HL.out g hg).1)
      have HR : Hid (OwnObjs (rs.take n ++ r :: rs.drop n) B w1 v') := by
        unfold OwnObjs
        rw [Hl2.out, Hfin.out, Hl3.out]
        exact hown'
      clear hown' hgrow
      go_wp2_with fail
      go_ret
      exact ⟨_, rfl, HR.out, hb1⟩
/-- copy of whole elements into a row, the row as a list -/
theorem copy_into {w : World} {g o dLen dCap sLen sCap k : Nat} {a : Addr} {cur cs : List Value} (hg : w.heap[g]? = some (.cells cur.toArray 89 (0, 0))) (hk : k = Nat.min sLen dLen) (hn : cs.length = k * 11)
    (hsrc : ∀ j v, cs[j]? = some v → w.cell? (a.add j) = some v) (hfit : o + cs.length ≤ cur.length) (h1 : ∀ v ∈ cs, v.oneCell' = true) :
    ∃ w4, (Builtin.copy_ #[40, 40] 3 #[.slice (some ⟨g, o, none⟩) dLen dCap, .slice (some a) sLen sCap]).run Try.prog w = .ok (.int .i64 (k : Int)) w4 ∧
      Hid (w4.heap[g]? = some (.cells (splice cur o cs).toArray 89 (0, 0))) ∧ Hid (∀ b, b ≠ g → w4.heap[b]? = w.heap[b]?) ∧ Hid (∀ B w0, Below B w0 w → B ≤ g → Below B w0 w4) := by
  refine ⟨_, run_copy_rowS (P := Try.prog) w 40 40 3 89 g o dLen dCap a sLen sCap cur.toArray 89 11 k cs Try.underlying40 info_size_ob hg hk hn hsrc (by simpa using hfit) h1, ?_, ?_, ?_⟩
  · show _ = _
    rw [setRow_heap w g _ _ 89 _ hg]; simp [splice]
  · exact fun b hb => setRow_other w g b _ hb
  · exact fun B w0 hb hB => below_setRow hb hB _
theorem cells_list {w : World} {g : Nat} {cur : List Value} {t : TypeId} (h : w.heap[g]? = some (.cells cur.toArray t (0, 0))) {j : Nat} {u : Value} (hu : cur[j]? = some u) : w.cell? ((⟨g, 0, none⟩ : Addr).add j) = some u := cells_at h (k := 0) (by simpa using hu)
set_option maxRecDepth 100000 in
set_option maxHeartbeats 1600000 in
/-- one more between: there is room -/
theorem insert_shift (rs : List (FAt FObj)) (n : Nat) (hN : rs.length = n) (r : FAt FObj) (B i g c : Nat) (R : List Value) (vb : Nat) (w : World) (hn : n ≤ 1000) (hin : i < n) (hg : B ≤ g) (hroom : n + 1 ≤ c) (hcm : c ≤ maxLen)
    (hh : w.heap[g]? = some (.cells (rs.flatMap obCells ++ R).toArray 89 (0, 0))) (hR : R.length + n * 11 = c * 11) (hne : vb ≠ g) (hv : w.heap[vb]? = some (.cells (obCells r).toArray 89 (0, 0))) :
    Calls Try.prog 76 #[.slice (some ⟨g, 0, none⟩) n c, .int .i64 i, .slice (some ⟨vb, 0, none⟩) 1 1] w (RetIns rs r i B w) := by
  have hcl : (rs.flatMap obCells).length = n * 11 := by rw [ob_len, hN]
  have hdl : ((rs.flatMap obCells).drop (i * 11)).length = (n - i) * 11 := by rw [List.length_drop, hcl, ← Nat.sub_mul]
  have hks : (rs.flatMap obCells ++ R).length = c * 11 := by rw [List.length_append, hcl]; omega
  have hol : (obCells r).length = 11 := rfl
  have hov : ∀ lb cb, (callFunc 91 #[.slice (some ⟨vb, 0, none⟩) 1 1, .slice (some ⟨g, (i + 1) * 11, none⟩) lb cb]).run Try.prog w = .ok (.value (.bool false)) w := fun lb cb => by
    rw [run_callFunc_extern Try.func91 (by kernel_rfl) (by kernel_rfl) (by kernel_rfl) (e := Extern.SlicesOverlaps.overlaps #[40, 40] #[4]) (by kernel_rfl),
      Lib.run_overlaps_apart w 40 4 89 Try.underlying40 11 size_ob ⟨vb, 0, none⟩ ⟨g, (i + 1) * 11, none⟩ 1 1 lb cb hne _ _ _ _ (shape_at hv) (shape_at hh) (by rw [List.size_toArray, hks]; omega) (unfrozen_at hv _) (unfrozen_at hv _)]
    rfl
  unfold maxLen at hcm
  have hsp2 := ins_shift (cs := rs.flatMap obCells) (vs := obCells r) (R := R) (a := i * 11) (by rw [hcl]; omega) (by rw [hol]; omega)
  rw [hol, show i * 11 + 11 = (i + 1) * 11 by omega] at hsp2
  obtain ⟨w4, hrun4, hh4, ho4, hb4⟩ := copy_into (w := w.drew) (o := (i + 1) * 11) (dLen := n - i) (dCap := c - (i + 1)) (sLen := n + 1 - i) (sCap := c - i) (k := n - i) (a := ⟨g, i * 11, none⟩) (cs := (rs.flatMap obCells).drop (i * 11)) hh
    (by simp only [Nat.min_def]; split <;> omega) hdl (fun j u hu => cells_at (w := w.drew) hh (k := i * 11) (by
      rw [List.drop_append, List.getElem?_append_left (List.getElem?_eq_some_iff.1 hu).1]; exact hu)) (by rw [hdl, hks]; omega) (fun u hu => obCells_one (List.mem_of_mem_drop hu))
  have hv4 : w4.heap[vb]? = some (.cells (obCells r).toArray 89 (0, 0)) := (ho4.out vb hne).trans hv
  have hl4 : (splice (rs.flatMap obCells ++ R) ((i + 1) * 11) ((rs.flatMap obCells).drop (i * 11))).length = c * 11 := by rw [length_splice _ _ _ (by rw [hdl, hks]; omega), hks]
  obtain ⟨w5, hrun5, hh5, ho5, hb5⟩ := copy_into (w := w4) (o := i * 11) (dLen := n + 1 - i) (dCap := c - i) (sLen := 1) (sCap := 1) (k := 1) (a := ⟨vb, 0, none⟩) (cs := obCells r) hh4.out
    (by simp only [Nat.min_def]; split <;> omega) hol (fun j u hu => cells_list hv4 hu) (by rw [hol, hl4]; omega) (fun u hu => obCells_one (rs := [r]) (by simpa using hu))
  have hbel := hb5.out B w (hb4.out B w (Below.refl B w).drew hg) hg
  have hR2 : Hid (OwnObjs (rs.take i ++ r :: rs.drop i) B w5 (.slice (some ⟨g, 0, none⟩) (n + 1) c)) := by
    unfold OwnObjs
    have e := hh5.out
    rw [hsp2] at e
    have hl : (rs.take i ++ r :: rs.drop i).length = n + 1 := by rw [List.length_append, List.length_take, List.length_cons, List.length_drop]; omega
    rw [hl]
    refine own_of (R := R.drop 11) hg ?_ (by rw [ob_len, hl]) hroom (by unfold maxLen; omega) (by rw [List.length_drop]; omega)
    rw [ins_cells]
    exact e
  clear hh hv hsp2 hh4 ho4 hb4 hv4 hl4 hh5 ho5 hb5 hcl hdl hks hol hN
  have b1 : (0 : Int) ≤ (i : Int) := by omega
  have b2 : (i : Int) < (n : Int) := by omega
  have b3 : (n : Int) + 1 ≤ (c : Int) := by omega
  have b4 : ¬ c = i + 1 := by omega
  have b5 : ¬ c = i := by omega
  have w1 : IntKind.i64.wrap ((i : Int) + 1) = (i : Int) + 1 := IntWalk.i64_in _ (by omega)
  go_enter Try.func76, Try.ntmps76
  go_wp2_with (simp only [hov])
  go_region
  go_wp2_with fail
  go_ret
  exact ⟨_, rfl, hR2.out, hbel⟩
theorem arr_cat (l : List Value) (a b : Array Value) : l.toArray ++ a ++ b = (l ++ a.toList ++ b.toList).toArray := by apply Array.ext'; simp
theorem zeros_len (z : Array Value) (k : Nat) (h : z.size = 11) : (Builtin.zeroCells z k).toList.length = k * 11 := by rw [Array.length_toList, size_zeroCells, h]
set_option maxRecDepth 100000 in
set_option maxHeartbeats 1600000 in
/-- one more between: there is no room -/
theorem insert_grow (rs : List (FAt FObj)) (n : Nat) (hN : rs.length = n) (r : FAt FObj) (B i g : Nat) (R : List Value) (vb : Nat) (w : World) (hn : n ≤ 1000) (hin : i < n) (hB : B ≤ w.heap.size) (hgs : g < w.heap.size)
    (hh : w.heap[g]? = some (.cells (rs.flatMap obCells ++ R).toArray 89 (0, 0))) (hv : w.heap[vb]? = some (.cells (obCells r).toArray 89 (0, 0))) :
    Calls Try.prog 76 #[.slice (some ⟨g, 0, none⟩) n n, .int .i64 i, .slice (some ⟨vb, 0, none⟩) 1 1] w (RetIns rs r i B w) := by
  have hcl : (rs.flatMap obCells).length = n * 11 := by rw [ob_len, hN]
  have hdl : ((rs.flatMap obCells).drop (i * 11)).length = (n - i) * 11 := by rw [List.length_drop, hcl, ← Nat.sub_mul]
  have htl : ((rs.flatMap obCells).take (i * 11)).length = i * 11 := by rw [List.length_take, hcl]; omega
  have hol : (obCells r).length = 11 := rfl
  have hvs : vb < w.heap.size := (Array.getElem?_eq_some_iff.1 hv).1
  obtain ⟨i0, hi0, hz0, hz1, hz2⟩ := info_parts info_ob
  have hold : (Builtin.firstCells i0.size i (.slice (some ⟨g, 0, none⟩) i n)).run Try.prog w.drew = .ok ((rs.flatMap obCells).take (i * 11)).toArray w.drew := by
    rw [hz1]
    exact run_firstCells_some w.drew 11 i ⟨g, 0, none⟩ i n _ htl (fun j u hu => cells_list (w := w.drew) hh (by
      rw [List.getElem?_append_left (by have := (List.getElem?_eq_some_iff.1 hu).1; rw [htl] at this; rw [hcl]; omega)]
      rw [List.getElem?_take] at hu
      split at hu
      · exact hu
      · cases hu))
  have hrz := Lib.run_append_grow_zeros w 40 3 40 89 i0 _ .i64 .i64 Try.underlying40 Try.underlying3 hi0 hz0 (some ⟨g, 0, none⟩) i n _ hold (n + 1 - i) (by omega) (by rw [hz1]; omega) (by omega) (by omega) (by rw [hz2]; omega) (by rw [hz2]; exact growslice_fits (by omega) (by omega))
  rw [show i + (n + 1 - i) = n + 1 by omega] at hrz
  obtain ⟨G, hG⟩ : ∃ G, G = grownCap w (n + 1) n 89 := ⟨_, rfl⟩
  have hG1 : n + 1 ≤ G := by rw [hG]; exact grownCap_ge _ _ _ _
  have hG2 : G ≤ maxLen := by rw [hG]; exact grownCap_le_maxLen _ _ _ _ (by unfold maxLen; omega)
  rw [← hG] at hrz
  clear hG hold
  have hZ1 := fun k => zeros_len (Value.cells (.agg #[.int .i64 0, .int .i64 0, .int .i64 0, .int .i64 0, .int .i64 0, .slice none 0 0, .int .i64 0, .int .i64 0, .int .i64 0, .int .i64 0, .bool false])) k rfl
  obtain ⟨Z1, hZ1d⟩ : ∃ Z1, Z1 = (Builtin.zeroCells (Value.cells (.agg #[.int .i64 0, .int .i64 0, .int .i64 0, .int .i64 0, .int .i64 0, .slice none 0 0, .int .i64 0, .int .i64 0, .int .i64 0, .int .i64 0, .bool false])) (n + 1 - i)).toList := ⟨_, rfl⟩
  obtain ⟨Z2, hZ2d⟩ : ∃ Z2, Z2 = (Builtin.zeroCells (Value.cells (.agg #[.int .i64 0, .int .i64 0, .int .i64 0, .int .i64 0, .int .i64 0, .slice none 0 0, .int .i64 0, .int .i64 0, .int .i64 0, .int .i64 0, .bool false])) (G - (n + 1))).toList := ⟨_, rfl⟩
  have hl1 : Z1.length = (n + 1 - i) * 11 := by rw [hZ1d]; exact hZ1 _
  have hl2 : Z2.length = (G - (n + 1)) * 11 := by rw [hZ2d]; exact hZ1 _
  have hW : ∃ W1, W1 = w.drew.alloc (.cells ((rs.flatMap obCells).take (i * 11) ++ Z1 ++ Z2).toArray 89) := ⟨_, rfl⟩
  obtain ⟨W1, hW1⟩ := hW
  have hrz2 : (Builtin.append_ #[40, 3] 40 #[.slice (some ⟨g, 0, none⟩) i n, .int .i64 ((n + 1 - i : Nat) : Int)]).run Try.prog w = .ok (.slice (some ⟨w.heap.size, 0, none⟩) (n + 1) G) W1 := by
    rw [hrz, hW1, hZ1d, hZ2d, arr_cat]
  clear hrz hZ1 hZ1d hZ2d hz0 hi0
  have hN1 : W1.heap[w.heap.size]? = some (.cells ((rs.flatMap obCells).take (i * 11) ++ Z1 ++ Z2).toArray 89 (0, 0)) := by rw [hW1]; exact heap_alloc_new w.drew _
  have hg1 : W1.heap[g]? = some (.cells (rs.flatMap obCells ++ R).toArray 89 (0, 0)) := by
    rw [hW1]; exact (((Below.refl w.heap.size w).drew).alloc (Nat.le_refl _) _).block g hgs |>.trans hh
  have hv1 : W1.heap[vb]? = some (.cells (obCells r).toArray 89 (0, 0)) := by
    rw [hW1]; exact (((Below.refl w.heap.size w).drew).alloc (Nat.le_refl _) _).block vb hvs |>.trans hv
  have hb1 : Below B w W1 := by rw [hW1]; exact ((Below.refl B w).drew).alloc hB _
  clear hW1
  have hsp := ins_grow (cs := rs.flatMap obCells) (vs := obCells r) (Z1 := Z1) (Z2 := Z2) (a := i * 11) (by rw [hcl]; omega) (by rw [hol, hl1, hcl]; omega)
  rw [hol, show i * 11 + 11 = (i + 1) * 11 by omega] at hsp
  have hks : ((rs.flatMap obCells).take (i * 11) ++ Z1 ++ Z2).length = G * 11 := by rw [List.length_append, List.length_append, htl, hl1, hl2]; omega
  obtain ⟨w4, hrun4, hh4, ho4, hb4⟩ := copy_into (w := W1) (o := i * 11) (dLen := n + 1 - i) (dCap := G - i) (sLen := 1) (sCap := 1) (k := 1) (a := ⟨vb, 0, none⟩) (cs := obCells r) hN1
    (by simp only [Nat.min_def]; split <;> omega) hol (fun j u hu => cells_list hv1 hu) (by rw [hol, hks]; omega) (fun u hu => obCells_one (rs := [r]) (by simpa using hu))
  have hg4 : w4.heap[g]? = some (.cells (rs.flatMap obCells ++ R).toArray 89 (0, 0)) := (ho4.out g (by omega)).trans hg1
  have hl4 : (splice ((rs.flatMap obCells).take (i * 11) ++ Z1 ++ Z2) (i * 11) (obCells r)).length = G * 11 := by rw [length_splice _ _ _ (by rw [hol, hks]; omega), hks]
  obtain ⟨w5, hrun5, hh5, ho5, hb5⟩ := copy_into (w := w4.drew) (o := (i + 1) * 11) (dLen := n - i) (dCap := G - (i + 1)) (sLen := n - i) (sCap := n - i) (k := n - i) (a := ⟨g, i * 11, none⟩) (cs := (rs.flatMap obCells).drop (i * 11)) hh4.out
    (by simp only [Nat.min_def]; split <;> omega) hdl (fun j u hu => cells_at (w := w4.drew) hg4 (k := i * 11) (by
      rw [List.drop_append, List.getElem?_append_left (List.getElem?_eq_some_iff.1 hu).1]; exact hu)) (by rw [hdl, hl4]; omega) (fun u hu => obCells_one (List.mem_of_mem_drop hu))
  have hbel := hb5.out B w ((hb4.out B w hb1 hB).drew) hB
  have hR2 : Hid (OwnObjs (rs.take i ++ r :: rs.drop i) B w5 (.slice (some ⟨w.heap.size, 0, none⟩) (n + 1) G)) := by
    unfold OwnObjs
    have e := hh5.out
    rw [hsp] at e
    have hl : (rs.take i ++ r :: rs.drop i).length = n + 1 := by rw [List.length_append, List.length_take, List.length_cons, List.length_drop]; omega
    rw [hl]
    refine own_of (R := Z2) hB ?_ (by rw [ob_len, hl]) hG1 hG2 (by omega)
    rw [ins_cells]
    exact e
  clear hh hv hsp hh4 ho4 hb4 hg4 hl4 hh5 ho5 hb5 hcl hdl hks hol hN hN1 hg1 hv1 hb1 hl1 hl2 htl
  unfold maxLen at hG2
  have b1 : (0 : Int) ≤ (i : Int) := by omega
  have b2 : (i : Int) < (n : Int) := by omega
  have b4 : ¬ G = i + 1 := by omega
  have b5 : ¬ G = i := by omega
  have b6 : ¬ n = i := by omega
  have hkk : (n : Int) + 1 - (i : Int) = ((n + 1 - i : Nat) : Int) := by omega
  have w1 : IntKind.i64.wrap ((i : Int) + 1) = (i : Int) + 1 := IntWalk.i64_in _ (by omega)
  go_enter Try.func76, Try.ntmps76
  go_wp2_with (at_builtin; refine Lib.wpList_append_run _ rfl _ _ _ _ rfl _ _ rfl rfl _ _ hrz2 ?_)
  go_region
  go_wp2_with fail
  go_ret
  exact ⟨_, rfl, hR2.out, hbel⟩
/-- slices.Insert of one object -/
theorem insert_any (rs : List (FAt FObj)) (r : FAt FObj) (B i : Nat) (V : Value) (vb : Nat) (w : World) (hn : rs.length ≤ 1000) (hi : i ≤ rs.length) (hB : B ≤ w.heap.size) (h : OwnObjs rs B w V) (hne : ∀ g, V.ownBlock = some g → vb ≠ g)
    (hv : w.heap[vb]? = some (.cells (obCells r).toArray 89 (0, 0))) :
    Calls Try.prog 76 #[V, .int .i64 i, .slice (some ⟨vb, 0, none⟩) 1 1] w (RetIns rs r i B w) := by
  by_cases he : i = rs.length
  · subst he
    exact insert_end rs _ rfl r B V vb w hn hB h hv
  · rcases own_form h with ⟨rfl, h0⟩ | ⟨g, c, rfl, hg, hgs, hnc, hcm, R, hh, hR⟩
    · omega
    · by_cases hc : rs.length + 1 ≤ c
      · exact insert_shift rs _ rfl r B i g c R vb w hn (by omega) hg hc hcm hh hR (hne g rfl) hv
      · obtain rfl : c = rs.length := by omega
        exact insert_grow rs _ rfl r B i g R vb w hn (by omega) hB hgs hh hv
end Fb
namespace Fb
open Go Go.Proofs Go.RowKit Go.Sort
def zeroO : FAt FObj := ⟨⟨0, 0, 0, ⟨0, 0, []⟩, ⟨0, 0, 0, 0⟩, false⟩, none, 0, 0⟩
def getR (id : Int) (rs : List (FAt FObj)) : Option (FAt FObj) := rs.find? (fun r => decide (r.x.id = id))
def getV : Option (FAt FObj) → Value
  | some r => .tuple #[objV r, .bool true]
  | none => .tuple #[objV zeroO, .bool false]
theorem getR_dat (id : Int) (rs : List (FAt FObj)) : getP id (dat rs) = (getR id rs).map (·.x) := by
  unfold getP getR dat
  rw [List.find?_map]
  rfl
theorem getR_mem {id : Int} {rs : List (FAt FObj)} {r : FAt FObj} (h : getR id rs = some r) : r ∈ rs ∧ r.x.id = id := by
  unfold getR at h
  exact ⟨List.mem_of_find?_eq_some h, by have := List.find?_some h; simpa using this⟩
theorem getR_is {id : Int} {rs : List (FAt FObj)} {i : Nat} (hl : LowAt rs id i) (h : i < rs.length) (h2 : rs[i].x.id = id) : getR id rs = some rs[i] := by
  unfold getR
  rw [List.find?_eq_some_iff_getElem]
  refine ⟨by simpa using h2, i, h, rfl, fun j hj => ?_⟩
  have := hl.2.1 j (by omega) hj
  simp
  omega
theorem getR_no {id : Int} {rs : List (FAt FObj)} {i : Nat} (hr : Rise (dat rs)) (hl : LowAt rs id i) (h : isAt rs id i = false) : getR id rs = none := by
  unfold getR
  rw [List.find?_eq_none]
  intro o ho
  obtain ⟨k, hk, rfl⟩ := List.getElem_of_mem ho
  unfold isAt at h
  rw [decide_eq_false_iff_not] at h
  have h1 := hl.2.1 k hk
  have h2 := hl.2.2 k hk
  simp
  intro he
  by_cases hki : k < i
  · have := h1 hki; omega
  · apply h
    have h3 := rise_ids hr (i := i) (j := k) (by omega) hk
    have h4 := hl.2.2 i (by omega) (by omega)
    exact ⟨by omega, by omega⟩
theorem isAt_true {rs : List (FAt FObj)} {id : Int} {i : Nat} (h : isAt rs id i = true) : ∃ h : i < rs.length, rs[i].x.id = id := by unfold isAt at h; simpa using h
set_option maxRecDepth 100000 in
set_option maxHeartbeats 1600000 in
theorem get_any (A : Option Addr) (n c : Nat) (rs : List (FAt FObj)) (t : Int) (w : World) (h : Objs w A n rs) (hr : Rise (dat rs)) (hn : n ≤ 1000) :
    Calls Try.prog 59 #[.slice A n c, .int .i64 t] w (Ret (getV (getR t rs)) w) := by
  have Hf := hid (fun W (hb : Below w.heap.size w W) => find_any A n c rs t W (h.below hb) hr hn)
  have Hl := hid h.1
  have HO := hid h
  have HR := hid hr
  clear h hr
  go_enter Try.func59, Try.ntmps59
  go_wp2_with fail
  refine (Hf.out _ (by (repeat (first | with_reducible exact Below.refl _ _ | with_reducible refine Below.alloc ?_ (by simp; try omega) _ | with_reducible refine Below.setCell ?_ (by simp; try omega) _ | with_reducible refine below_drewN ?_ _ | with_reducible refine Below.drew ?_)))).mono ?_
  rintro e w1 ⟨i, rfl, hl, hb⟩
  have hl' := hid hl
  clear hl
  obtain ⟨hc, hf⟩ := bcell hb
  have hb0 : Below w.heap.size w w1 := (((Below.refl w.heap.size w).alloc (Nat.le_refl _) _).trans (hb.mono (by simp)))
  have hz : w.heap.size < w1.heap.size := by have := hb.size; simp at this; omega
  cases hi : isAt rs t i with
  | false =>
    have hg := hid (getR_no HR.out hl'.out hi)
    clear hi
    go_wp2_with fail
    refine bodyPost_ret (v := .tuple #[.agg #[.int .i64 0, .int .i64 0, .int .i64 0, .int .i64 0, .int .i64 0, .slice none 0 0, .int .i64 0, .int .i64 0, .int .i64 0, .int .i64 0, .bool false], .bool false]) (by simp [results, Try.results59, go_sem, hc, hz]) rfl ⟨by rw [hg.out]; rfl, ?_⟩
    (repeat refine Below.setCell ?_ (by simp) _)
    exact hb0
  | true =>
    obtain ⟨h1, h2⟩ := isAt_true hi
    have hg := hid (getR_is hl'.out h1 h2)
    obtain ⟨b, off, rfl, hbs, hco⟩ := HO.out.open_ (by rw [← Hl.out]; omega)
    obtain ⟨d0, d1, d2, d3, d4, d5, d6, d7, d8, d9, d10⟩ := hco.cells (Below.refl _ _) hbs h1
    have q1 : (i : Int) < (n : Int) := by rw [Hl.out] at h1; omega
    generalize rs[i] = r at *
    clear hi h1 h2 hco
    go_wp2_with fail
    refine bodyPost_ret (v := .tuple #[.agg #[.int .i64 r.x.id, .int .i64 r.x.x, .int .i64 r.x.y, .int .i64 r.x.pic.w, .int .i64 r.x.pic.h, .slice r.A r.n r.c, .int .i64 r.x.clip.x, .int .i64 r.x.clip.y, .int .i64 r.x.clip.w, .int .i64 r.x.clip.h, .bool r.x.shown], .bool true]) (by simp [results, Try.results59, go_sem, hc, hz]) rfl ⟨by rw [hg.out]; rfl, ?_⟩
    (repeat refine Below.setCell ?_ (by simp) _)
    exact hb0
/-! ## Set -/
theorem set11 (P Q : List Value) (a0 a1 a2 a3 a4 a5 a6 a7 a8 a9 a10 b0 b1 b2 b3 b4 b5 b6 b7 b8 b9 b10 : Value) :
    (((((((((((P ++ ([a0, a1, a2, a3, a4, a5, a6, a7, a8, a9, a10] ++ Q)).set P.length b0).set (P.length + 1) b1).set (P.length + 2) b2).set (P.length + 3) b3).set (P.length + 4) b4).set (P.length + 5) b5).set (P.length + 6) b6).set (P.length + 7) b7).set (P.length + 8) b8).set (P.length + 9) b9).set (P.length + 10) b10 = P ++ ([b0, b1, b2, b3, b4, b5, b6, b7, b8, b9, b10] ++ Q) := by
  simp [List.set_append]
theorem set_flat {rs : List (FAt FObj)} {i : Nat} (h : i < rs.length) (r : FAt FObj) : rs.flatMap obCells = (rs.take i).flatMap obCells ++ (obCells rs[i] ++ (rs.drop (i + 1)).flatMap obCells) ∧ (rs.set i r).flatMap obCells = (rs.take i).flatMap obCells ++ (obCells r ++ (rs.drop (i + 1)).flatMap obCells) := by
  constructor
  · conv => lhs; rw [← List.take_append_drop i rs, List.drop_eq_getElem_cons h]
    rw [List.flatMap_append, List.flatMap_cons]
  · rw [List.set_eq_take_append_cons_drop, if_pos h, List.flatMap_append, List.flatMap_cons]
def setCells11 (w : World) (g o : Nat) (r : FAt FObj) : World :=
  ((((((((((w.setCell ⟨g, o, none⟩ (.int .i64 r.x.id)).setCell ⟨g, o + 1, none⟩ (.int .i64 r.x.x)).setCell ⟨g, o + 2, none⟩ (.int .i64 r.x.y)).setCell ⟨g, o + 3, none⟩ (.int .i64 r.x.pic.w)).setCell ⟨g, o + 4, none⟩ (.int .i64 r.x.pic.h)).setCell ⟨g, o + 5, none⟩ (.slice r.A r.n r.c)).setCell ⟨g, o + 6, none⟩ (.int .i64 r.x.clip.x)).setCell
    ⟨g, o + 7, none⟩ (.int .i64 r.x.clip.y)).setCell ⟨g, o + 8, none⟩ (.int .i64 r.x.clip.w)).setCell ⟨g, o + 9, none⟩ (.int .i64 r.x.clip.h)).setCell ⟨g, o + 10, none⟩ (.bool r.x.shown)
theorem own_set11 {rs : List (FAt FObj)} {B g n c i : Nat} {w : World} (hN : rs.length = n) (hi : i < n) (r : FAt FObj) (h : w.ownsRow B 89 11 (.slice (some ⟨g, 0, none⟩) n c) n (rs.flatMap obCells)) :
    (setCells11 w g (i * 11) r).ownsRow B 89 11 (.slice (some ⟨g, 0, none⟩) n c) n ((rs.set i r).flatMap obCells) := by
  have hl : i < rs.length := by omega
  obtain ⟨e1, e2⟩ := set_flat hl r
  have hp : ((rs.take i).flatMap obCells).length = i * 11 := by rw [ob_len, List.length_take]; omega
  have h2 := (((((((((((h.stored (i * 11) (.int .i64 r.x.id)).1.stored (i * 11 + 1) (.int .i64 r.x.x)).1.stored (i * 11 + 2) (.int .i64 r.x.y)).1.stored (i * 11 + 3) (.int .i64 r.x.pic.w)).1.stored (i * 11 + 4) (.int .i64 r.x.pic.h)).1.stored (i * 11 + 5) (.slice r.A r.n r.c)).1.stored (i * 11 + 6) (.int .i64 r.x.clip.x)).1.stored (i * 11 + 7) (.int .i64 r.x.clip.y)).1.stored (i * 11 + 8) (.int .i64 r.x.clip.w)).1.stored (i * 11 + 9) (.int .i64 r.x.clip.h)).1.stored (i * 11 + 10) (.bool r.x.shown)).1
  rw [e1, ← hp] at h2
  rw [e2]
  generalize (rs.take i).flatMap obCells = P at *
  generalize (rs.drop (i + 1)).flatMap obCells = Q at *
  unfold obCells at h2 ⊢
  rw [set11] at h2
  rw [hp] at h2
  exact h2
/-- the address is not in the block g -/
def NotIn (g : Nat) (A : Option Addr) : Prop := ∀ a, A = some a → a.block ≠ g
def Avoid (g : Nat) (rs : List (FAt FObj)) : Prop := ∀ q ∈ rs, NotIn g q.A
/-- .. and nothing of it lies where nothing of what came in lay -/
def RetObjs2 (rs : List (FAt FObj)) (pA : Option Addr) (P : List FObj) (w : World) (e : Ending) (w' : World) : Prop := ∃ (A : Option Addr) (n c : Nat) (rs' : List (FAt FObj)), e = .returned (.slice A n c) ∧ Objs w' A n rs' ∧ dat rs' = P ∧ Below w.heap.size w w' ∧ ∀ g, g < w.heap.size → Avoid g rs → NotIn g pA → NotIn g A ∧ Avoid g rs'
theorem RetObjs2.fst {rs : List (FAt FObj)} {pA : Option Addr} {P : List FObj} {w w' : World} {e : Ending} (h : RetObjs2 rs pA P w e w') : RetObjs P w e w' := by
  obtain ⟨A, n, c, rs', h1, h2, h3, h4, -⟩ := h
  exact ⟨A, n, c, rs', h1, h2, h3, h4⟩
theorem own_objs {rs : List (FAt FObj)} {B : Nat} {w : World} {v : Value} (h : OwnObjs rs B w v) (hp : ∀ r ∈ rs, Pixs w r.A r.n r.x.pic.p) : ∃ A c, v = .slice A rs.length c ∧ rs.length ≤ c ∧ c ≤ maxLen ∧ Objs w A rs.length rs := by
  obtain ⟨A, c, rfl, -, h1, h2⟩ := own_slice h
  exact ⟨A, c, rfl, h1, h2, rfl, Row.of_own h, hp⟩
theorem objs_pix {w : World} {A : Option Addr} {n : Nat} {rs : List (FAt FObj)} (h : Objs w A n rs) : ∀ r ∈ rs, Pixs w r.A r.n r.x.pic.p := h.2.2
theorem dat_take (rs : List (FAt FObj)) (i : Nat) : dat (rs.take i) = (dat rs).take i := by unfold dat; rw [List.map_take]
theorem dat_drop (rs : List (FAt FObj)) (i : Nat) : dat (rs.drop i) = (dat rs).drop i := by unfold dat; rw [List.map_drop]
theorem dat_ins {rs : List (FAt FObj)} {r : FAt FObj} {i : Nat} (hr : Rise (dat rs)) (hl : LowAt rs r.x.id i) (h : isAt rs r.x.id i = false) : dat (rs.take i ++ r :: rs.drop i) = setP r.x (dat rs) := by
  have e : setP r.x (dat rs) = (dat rs).take i ++ r.x :: (dat rs).drop i := by
    refine set_new (by rw [dat_len]; exact hl.1) (fun k hk hki => ?_) (fun hk => ?_)
    · rw [dat_len] at hk; rw [dat_at hk]; exact hl.2.1 k hk hki
    · rw [dat_len] at hk; rw [dat_at hk]
      have h1 := hl.2.2 i hk (Nat.le_refl _)
      unfold isAt at h
      rw [decide_eq_false_iff_not] at h
      have : rs[i].x.id ≠ r.x.id := fun e => h ⟨hk, e⟩
      omega
  rw [e, ← dat_take, ← dat_drop]
  simp [dat]
theorem dat_set {rs : List (FAt FObj)} {r : FAt FObj} {i : Nat} (hl : LowAt rs r.x.id i) (h : isAt rs r.x.id i = true) : dat (rs.set i r) = setP r.x (dat rs) := by
  obtain ⟨h1, h2⟩ := isAt_true h
  rw [set_is (i := i) (by rw [dat_len]; exact h1) (fun k hk hki => by rw [dat_len] at hk; rw [dat_at hk]; exact hl.2.1 k hk hki) (by rw [dat_at h1]; exact h2)]
  unfold dat
  rw [List.map_set]
theorem own_cells11 {rs : List (FAt FObj)} {B g n c i : Nat} {w : World} (hN : rs.length = n) (hi : i < n) (h : w.ownsRow B 89 11 (.slice (some ⟨g, 0, none⟩) n c) n (rs.flatMap obCells)) : ∃ q, ObCells w g (i * 11) q := by
  have hq : rs[i]? = some (rs[i]'(by omega)) := List.getElem?_eq_getElem (by omega)
  have f := fun j hj => own_cell (cel := obCells) (size := 11) (fun _ => rfl) h (k := i) (j := j) hq hj
  exact ⟨_, f 0 (by omega), f 1 (by omega), f 2 (by omega), f 3 (by omega), f 4 (by omega), f 5 (by omega), f 6 (by omega), f 7 (by omega), f 8 (by omega), f 9 (by omega), f 10 (by omega)⟩
set_option maxRecDepth 100000 in
set_option maxHeartbeats 3200000 in
theorem set_any2 (A : Option Addr) (n c : Nat) (rs : List (FAt FObj)) (r : FAt FObj) (w : World) (h : Objs w A n rs) (hp : Pixs w r.A r.n r.x.pic.p) (hr : Rise (dat rs)) (hn : n ≤ 1000) :
    Calls Try.prog 57 #[.slice A n c, objV r] w (RetObjs2 rs r.A (setP r.x (dat rs)) w) := by
  have Hl := hid h.1
  have HO := hid h
  have HR := hid hr
  have Hp := hid hp
  have Hcl := hid (fun W (hb : Below w.heap.size w W) => cloneob_any A n c rs W (h.below hb) (by omega))
  clear h hr hp
  go_enter Try.func57, Try.ntmps57
  go_wp2_with fail
  obtain ⟨W0, hW0⟩ : ∃ W0, W0 = w.alloc (.cells #[.int .i64 r.x.id, .int .i64 r.x.x, .int .i64 r.x.y, .int .i64 r.x.pic.w, .int .i64 r.x.pic.h, .slice r.A r.n r.c, .int .i64 r.x.clip.x, .int .i64 r.x.clip.y, .int .i64 r.x.clip.w, .int .i64 r.x.clip.h, .bool r.x.shown] 89) := ⟨_, rfl⟩
  have hB0 : Below w.heap.size w W0 := by rw [hW0]; exact (Below.refl w.heap.size w).alloc (Nat.le_refl _) _
  have z0 : w.heap.size + 1 ≤ W0.heap.size := by rw [hW0]; simp
  have CE0 : Hid (ObBox W0 w.heap.size r) := by show ObBox _ _ _; rw [hW0]; refine ⟨?_, ?_, ?_, ?_, ?_, ?_, ?_, ?_, ?_, ?_, ?_⟩ <;> simp
  rw [← hW0]
  clear hW0
  refine (Hcl.out W0 hB0).mono ?_
  rintro e w1 ⟨V, rfl, hV, hb1⟩
  have HV := hid hV
  have hB1 := bnext hB0 hb1
  have CE1 := hid (CE0.out.below hb1 (by omega))
  have z1 : w.heap.size + 1 ≤ w1.heap.size := Nat.le_trans z0 hb1.size
  have hz1 : W0.heap.size ≤ w1.heap.size := hb1.size
  clear hV CE0 hb1 hB0
  obtain ⟨A1, c1, rfl, hc1, hc2, ho1⟩ := own_objs HV.out (fun q hq => (HO.out.2.2 q hq).below hB1)
  have Ho1 := hid ho1
  clear ho1
  rw [Hl.out] at hc1 Ho1 ⊢
  obtain ⟨c0, c1, c2, c3, c4, c5, c6, c7, c8, c9, c10⟩ := CE1.out
  go_wp2_with fail
  refine (find_any _ _ _ rs _ _ Ho1.out HR.out hn).mono ?_
  rintro e w2 ⟨i, rfl, hl, hb2⟩
  clear c0 c1 c2 c3 c4 c5 c6 c7 c8 c9 c10
  have Hlow := hid hl
  have HB2 := bnext hB1 hb2
  have CE2 := hid (CE1.out.below hb2 (by omega))
  have HV2 := hid (own_keep HV.out hb2)
  have z2 : w.heap.size + 1 ≤ w2.heap.size := Nat.le_trans z1 hb2.size
  have hz2 : W0.heap.size ≤ w2.heap.size := Nat.le_trans hz1 hb2.size
  have hin := hid hl.1
  clear hl CE1 HV hB1 hz1 z1 hb2 Ho1
  obtain ⟨c0, c1', c2, c3, c4, c5, c6, c7, c8, c9, c10⟩ := CE2.out
  cases hi : isAt rs r.x.id i with
  | true =>
    have hdat := hid (dat_set Hlow.out hi)
    obtain ⟨h1, -⟩ := isAt_true hi
    rw [Hl.out] at h1
    rw [Hl.out] at HV2
    rcases own_form HV2.out with ⟨-, h0⟩ | ⟨g, c', hV, hg, hgs, hnc, hcm, -⟩
    · omega
    injection hV with hV1 hV2 hV3
    subst hV1 hV3
    have hne : w.heap.size ≠ g := by omega
    obtain ⟨q, d0, d1, d2, d3, d4, d5, d6, d7, d8, d9, d10⟩ := own_cells11 Hl.out h1 HV2.out
    have FZ := fun o => HV2.out.frozenAt o
    have hset := hid (own_set11 Hl.out h1 r HV2.out)
    have hlen := hid (show (rs.set i r).length = n by rw [List.length_set, Hl.out])
    have q1 : (i : Int) < (n : Int) := by omega
    clear hi
    go_wp2_with fail
    go_ret
    have hbl : Below w.heap.size w (setCells11 w2 g (i * 11) r) := by
      unfold setCells11
      (repeat refine Below.setCell ?_ (by simp; omega) _)
      exact HB2
    refine ⟨_, n, c1, rs.set i r, rfl, ⟨hlen.out, Row.of_own hset.out, fun q hq => ?_⟩, hdat.out, hbl, fun g0 hg0 ha hpa => ⟨fun a e => by injection e with e; subst e; show g ≠ g0; omega, fun q hq => ?_⟩⟩
    · rcases List.mem_or_eq_of_mem_set hq with hq | rfl
      · exact (HO.out.2.2 q hq).below hbl
      · exact Hp.out.below hbl
    · rcases List.mem_or_eq_of_mem_set hq with hq | rfl
      · exact ha q hq
      · exact hpa
  | false =>
    have hdat := hid (dat_ins HR.out Hlow.out hi)
    clear hi
    have hI := fun W (hb : Below w2.heap.size w2 W) (hv : W.heap[w2.heap.size]? = some (.cells (obCells r).toArray 89 (0, 0))) => insert_any rs r W0.heap.size i (.slice A1 rs.length c1) w2.heap.size W (by rw [Hl.out]; exact hn) hin.out (Nat.le_trans hz2 hb.size) (own_keep HV2.out hb) (fun g hg => by
      have := (HV2.out.lt g hg).2; omega) hv
    rw [Hl.out] at hI
    have HI := hid hI
    clear hI
    go_wp2_with fail
    refine (HI.out _ (by (repeat (first | with_reducible exact Below.refl _ _ | with_reducible refine Below.alloc ?_ (by simp; try omega) _ | with_reducible refine Below.setCell ?_ (by simp; try omega) _ | with_reducible refine below_drewN ?_ _ | with_reducible refine Below.drew ?_))) (heap_alloc_new w2 _)).mono ?_
    rintro e w3 ⟨v, rfl, hv3, hb3⟩
    have HV3 := hid hv3
    have HB3 : Below w.heap.size w w3 := (HB2.alloc (by omega) _).trans (hb3.mono (by omega))
    clear hv3 hb3
    obtain ⟨A3, c3', rfl, -, -, ho⟩ := own_objs HV3.out (fun q hq => by
      rcases List.mem_append.1 hq with hq | hq
      · exact (HO.out.2.2 q (List.mem_of_mem_take hq)).below HB3
      · rcases List.mem_cons.1 hq with rfl | hq
        · exact Hp.out.below HB3
        · exact (HO.out.2.2 q (List.mem_of_mem_drop hq)).below HB3)
    have Ho := hid ho
    have hav := hid (fun g0 (hg0 : g0 < w.heap.size) (ha : Avoid g0 rs) (hpa : NotIn g0 r.A) => (show NotIn g0 A3 ∧ Avoid g0 (rs.take i ++ r :: rs.drop i) from ⟨fun a e => by
        obtain ⟨A4, c4, e4, hA4, -⟩ := own_slice HV3.out
        injection e4 with e5
        have := (hA4 a (e5 ▸ e)).1
        omega, fun q hq => by
        rcases List.mem_append.1 hq with hq | hq
        · exact ha q (List.mem_of_mem_take hq)
        · rcases List.mem_cons.1 hq with rfl | hq
          · exact hpa
          · exact ha q (List.mem_of_mem_drop hq)⟩))
    clear ho
    generalize (rs.take i ++ r :: rs.drop i) = rs3 at *
    generalize rs3.length = m at *
    go_wp2_with fail
    go_ret
    exact ⟨_, _, _, rs3, rfl, Ho.out, hdat.out, HB3, hav.out⟩
theorem set_any (A : Option Addr) (n c : Nat) (rs : List (FAt FObj)) (r : FAt FObj) (w : World) (h : Objs w A n rs) (hp : Pixs w r.A r.n r.x.pic.p) (hr : Rise (dat rs)) (hn : n ≤ 1000) :
    Calls Try.prog 57 #[.slice A n c, objV r] w (RetObjs (setP r.x (dat rs)) w) := (set_any2 A n c rs r w h hp hr hn).mono fun _ _ h => h.fst
end Fb
