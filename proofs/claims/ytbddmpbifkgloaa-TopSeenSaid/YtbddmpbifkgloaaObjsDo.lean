/- objects.Do: it returns what the plain law says. Conditions: objects that may be and rise, an op that may be. -/
import Derived.Test.YtbddmpbifkgloaaObjsDel2
import Derived.Test.YtbddmpbifkgloaaBlendAdd
import Derived.RegionTactic
import Derived.BigRegion
namespace Fb
open Go Go.Proofs Go.RowKit Go.Sort
/-- the call returns objects and an error (as a value) -/
def RetDo (P : List FObj) (u : Value) (w : World) (e : Ending) (w' : World) : Prop := ∃ (A : Option Addr) (n c : Nat) (rs : List (FAt FObj)), e = .returned (.tuple #[.slice A n c, u]) ∧ Objs w' A n rs ∧ dat rs = P ∧ Below w.heap.size w w'
/-- a box of its own that holds the op -/
def OpBox (w : World) (g : Nat) (ok oi ona onb onc ond ow oh : Int) (oA : Option Addr) (on oc : Nat) : Prop := w.cell? ⟨g, 0, none⟩ = some (.int .i64 ok) ∧ w.cell? ⟨g, 1, none⟩ = some (.int .i64 oi) ∧ w.cell? ⟨g, 2, none⟩ = some (.int .i64 ona) ∧ w.cell? ⟨g, 3, none⟩ = some (.int .i64 onb) ∧ w.cell? ⟨g, 4, none⟩ = some (.int .i64 onc) ∧ w.cell? ⟨g, 5, none⟩ = some (.int .i64 ond) ∧ w.cell? ⟨g, 6, none⟩ = some (.int .i64 ow) ∧ w.cell? ⟨g, 7, none⟩ = some (.int .i64 oh) ∧ w.cell? ⟨g, 8, none⟩ = some (.slice oA on oc)
theorem OpBox.below {w w' : World} {B g : Nat} {ok oi ona onb onc ond ow oh : Int} {oA : Option Addr} {on oc : Nat} (h : OpBox w g ok oi ona onb onc ond ow oh oA on oc) (hb : Below B w w') (hB : g < B) : OpBox w' g ok oi ona onb onc ond ow oh oA on oc := by
  obtain ⟨c0, c1, c2, c3, c4, c5, c6, c7, c8⟩ := h
  have f : ∀ o v, w.cell? ⟨g, o, none⟩ = some v → w'.cell? ⟨g, o, none⟩ = some v := fun o v hv => (hb.cell (p := ⟨g, o, none⟩) hB).trans hv
  exact ⟨f _ _ c0, f _ _ c1, f _ _ c2, f _ _ c3, f _ _ c4, f _ _ c5, f _ _ c6, f _ _ c7, f _ _ c8⟩
theorem RetDo.of_set {P : List FObj} {w w' : World} {A : Option Addr} {n c : Nat} {rs : List (FAt FObj)} (u : Value) (h : Objs w' A n rs) (hd : dat rs = P) (hb : Below w.heap.size w w') : RetDo P u w (.returned (.tuple #[.slice A n c, u])) w' := ⟨A, n, c, rs, rfl, h, hd, hb⟩
set_option maxRecDepth 100000 in
set_option maxHeartbeats 400000 in
theorem fresh_any (id : Int) (r : FAt FPic) (w : World) : Calls Try.prog 22 #[.int .i64 id, .agg #[.int .i64 r.x.w, .int .i64 r.x.h, .slice r.A r.n r.c]] w (Ret (objV ⟨freshP id r.x, r.A, r.n, r.c⟩) w) := by
  go_enter Try.func22, Try.ntmps22
  go_wp2_with fail
  refine bodyPost_ret (v := .agg #[.int .i64 id, .int .i64 0, .int .i64 0, .int .i64 r.x.w, .int .i64 r.x.h, .slice r.A r.n r.c, .int .i64 0, .int .i64 0, .int .i64 20, .int .i64 20, .bool true]) (by simp [results, Try.results22, go_sem]) rfl ⟨rfl, ?_⟩
  (repeat (first | with_reducible exact Below.refl _ _ | with_reducible refine Below.alloc ?_ (by simp; try omega) _ | with_reducible refine Below.setCell ?_ (by simp; try omega) _ | with_reducible refine below_drewN ?_ _ | with_reducible refine Below.drew ?_))
set_option maxRecDepth 100000 in
set_option maxHeartbeats 1600000 in
theorem do_none (ok oi ona onb onc ond ow oh : Int) (ol : List Px) (oA : Option Addr) (on oc : Nat) (A : Option Addr) (n c : Nat) (rs : List (FAt FObj)) (w : World) (h : Objs w A n rs) (hp : Pixs w oA on ol) (hr : Rise (dat rs)) (hn : n ≤ 1000) (hk : ok ≠ 2) (hg : getR oi rs = none) :
    Calls Try.prog 20 #[.slice A n c, .agg #[.int .i64 ok, .int .i64 oi, .int .i64 ona, .int .i64 onb, .int .i64 onc, .int .i64 ond, .int .i64 ow, .int .i64 oh, .slice oA on oc]] w (RetDo [] (errV 5) w) := by
  have Hg := hid hg
  clear hg
  have Hget := hid (fun W (hb : Below w.heap.size w W) => get_any A n c rs oi W (h.below hb) hr hn)
  have Hset := hid (fun (r : FAt FObj) W (hb : Below w.heap.size w W) (hp : Pixs W r.A r.n r.x.pic.p) => set_any A n c rs r W (h.below hb) hp hr hn)
  have HO := hid h
  have Hp := hid hp
  have HR := hid hr
  clear h hp hr
  have hk' : (ok == 2) = false := beq_eq_false_iff_ne.2 hk
  clear hk
  go_enter Try.func20, Try.ntmps20
  go_upto_region 1 with fail
  obtain ⟨W0, hW0⟩ : ∃ W0, W0 = w.alloc (.cells #[.int .i64 ok, .int .i64 oi, .int .i64 ona, .int .i64 onb, .int .i64 onc, .int .i64 ond, .int .i64 ow, .int .i64 oh, .slice oA on oc] 31) := ⟨_, rfl⟩
  have hB0 : Below w.heap.size w W0 := by rw [hW0]; exact (Below.refl w.heap.size w).alloc (Nat.le_refl _) _
  have z0 : w.heap.size < W0.heap.size := by rw [hW0]; simp
  have CE0 : Hid (OpBox W0 w.heap.size ok oi ona onb onc ond ow oh oA on oc) := by show OpBox _ _ _ _ _ _ _ _ _ _ _ _ _; rw [hW0]; refine ⟨?_, ?_, ?_, ?_, ?_, ?_, ?_, ?_, ?_⟩ <;> simp
  rw [← hW0]
  clear hW0
  obtain ⟨b0, b1, b2, b3, b4, b5, b6, b7, b8⟩ := CE0.out
  go_wp2_with fail
  refine (Hget.out W0 hB0).mono ?_
  rintro e w1 ⟨rfl, hb1⟩
  rw [Hg.out]
  unfold getV
  clear b0 b1 b2 b3 b4 b5 b6 b7 b8
  have CE1 := hid (CE0.out.below hb1 z0)
  have hB : Below w.heap.size w w1 := bnext hB0 hb1
  have z1 : w.heap.size < w1.heap.size := Nat.lt_of_lt_of_le z0 hb1.size
  have zne : w.heap.size ≠ w1.heap.size := by omega
  clear CE0 hB0 hb1 z0
  obtain ⟨b0, b1, b2, b3, b4, b5, b6, b7, b8⟩ := CE1.out
  go_wp2_with fail
  go_ret2
  refine ⟨none, 0, 0, [], rfl, ⟨rfl, Row.none_ _ _ _, by simp⟩, rfl, ?_⟩
  (repeat (first | with_reducible exact hB | with_reducible refine Below.alloc ?_ (by have := hB.size; simp; try omega) _ | with_reducible refine Below.setCell ?_ (by have := hB.size; simp; try omega) _ | with_reducible refine below_drewN ?_ _ | with_reducible refine Below.drew ?_))
set_option maxRecDepth 100000 in
set_option maxHeartbeats 1600000 in
theorem do_k2 (oi ona onb onc ond ow oh : Int) (ol : List Px) (oA : Option Addr) (on oc : Nat) (A : Option Addr) (n c : Nat) (rs : List (FAt FObj)) (w : World) (h : Objs w A n rs) (hp : Pixs w oA on ol) (hr : Rise (dat rs)) (hn : n ≤ 1000) :
    Calls Try.prog 20 #[.slice A n c, .agg #[.int .i64 2, .int .i64 oi, .int .i64 ona, .int .i64 onb, .int .i64 onc, .int .i64 ond, .int .i64 ow, .int .i64 oh, .slice oA on oc]] w (RetDo (setP (freshP oi ⟨ow, oh, ol⟩) (dat rs)) (.nilIface) w) := by
  have Hset := hid (fun (r : FAt FObj) W (hb : Below w.heap.size w W) (hp : Pixs W r.A r.n r.x.pic.p) => set_any A n c rs r W (h.below hb) hp hr hn)
  have HO := hid h
  have Hp := hid hp
  have HR := hid hr
  clear h hp hr
  go_enter Try.func20, Try.ntmps20
  go_upto_region 1 with fail
  obtain ⟨W0, hW0⟩ : ∃ W0, W0 = w.alloc (.cells #[.int .i64 2, .int .i64 oi, .int .i64 ona, .int .i64 onb, .int .i64 onc, .int .i64 ond, .int .i64 ow, .int .i64 oh, .slice oA on oc] 31) := ⟨_, rfl⟩
  have hB0 : Below w.heap.size w W0 := by rw [hW0]; exact (Below.refl w.heap.size w).alloc (Nat.le_refl _) _
  have z0 : w.heap.size < W0.heap.size := by rw [hW0]; simp
  have CE0 : Hid (OpBox W0 w.heap.size 2 oi ona onb onc ond ow oh oA on oc) := by show OpBox _ _ _ _ _ _ _ _ _ _ _ _ _; rw [hW0]; refine ⟨?_, ?_, ?_, ?_, ?_, ?_, ?_, ?_, ?_⟩ <;> simp
  rw [← hW0]
  clear hW0
  obtain ⟨b0, b1, b2, b3, b4, b5, b6, b7, b8⟩ := CE0.out
  go_wp2_with fail
  refine (fresh_any oi ⟨⟨ow, oh, ol⟩, oA, on, oc⟩ _).mono ?_
  rintro e w1 ⟨rfl, hb1⟩
  have hB : Below w.heap.size w w1 := bnext hB0 hb1
  clear b0 b1 b2 b3 b4 b5 b6 b7 b8
  have b0 := 0
  have b1 := 0
  have b2 := 0
  have b3 := 0
  have b4 := 0
  have b5 := 0
  have b6 := 0
  have b7 := 0
  have b8 := 0
  go_wp2_with fail
  refine (Hset.out ⟨freshP oi ⟨ow, oh, ol⟩, oA, on, oc⟩ _ (by (repeat (first | with_reducible exact hB | with_reducible refine Below.alloc ?_ (by have := hB.size; simp; try omega) _ | with_reducible refine Below.setCell ?_ (by have := hB.size; simp; try omega) _ | with_reducible refine below_drewN ?_ _ | with_reducible refine Below.drew ?_))) (Hp.out.below (by (repeat (first | with_reducible exact hB | with_reducible refine Below.alloc ?_ (by have := hB.size; simp; try omega) _ | with_reducible refine Below.setCell ?_ (by have := hB.size; simp; try omega) _ | with_reducible refine below_drewN ?_ _ | with_reducible refine Below.drew ?_))))).mono ?_
  rintro e w9 ⟨A9, n9, c9, rs9, rfl, ho, hd, hb9⟩
  have Ho := hid ho
  have Hd := hid hd
  have HB9 : Below w.heap.size w w9 := bnext (by (repeat (first | with_reducible exact hB | with_reducible refine Below.alloc ?_ (by have := hB.size; simp; try omega) _ | with_reducible refine Below.setCell ?_ (by have := hB.size; simp; try omega) _ | with_reducible refine below_drewN ?_ _ | with_reducible refine Below.drew ?_))) hb9
  clear ho hd hb9
  clear b0 b1 b2 b3 b4 b5 b6 b7 b8
  go_wp2_with fail
  go_ret2
  exact RetDo.of_set _ Ho.out Hd.out HB9
set_option maxRecDepth 100000 in
set_option maxHeartbeats 1600000 in
theorem do_k3 (oi ona onb onc ond ow oh : Int) (ol : List Px) (oA : Option Addr) (on oc : Nat) (A : Option Addr) (n c : Nat) (rs : List (FAt FObj)) (r0 : FAt FObj) (w : World) (h : Objs w A n rs) (hp : Pixs w oA on ol) (hr : Rise (dat rs)) (hn : n ≤ 1000) (hg : getR oi rs = some r0) :
    Calls Try.prog 20 #[.slice A n c, .agg #[.int .i64 3, .int .i64 oi, .int .i64 ona, .int .i64 onb, .int .i64 onc, .int .i64 ond, .int .i64 ow, .int .i64 oh, .slice oA on oc]] w (RetDo (setP (turnP r0.x ⟨3, oi, ona, onb, onc, ond, ⟨ow, oh, ol⟩⟩) (dat rs)) (.nilIface) w) := by
  obtain ⟨⟨ri, rx, ry, ⟨rw, rh, rl⟩, ⟨cx, cy, cw, ch⟩, sh⟩, rA, rn, rc⟩ := r0
  have hpx : Pixs w rA rn rl := h.2.2 _ (getR_mem hg).1
  have Hpx := hid hpx
  clear hpx
  have Hg := hid hg
  clear hg
  have Hget := hid (fun W (hb : Below w.heap.size w W) => get_any A n c rs oi W (h.below hb) hr hn)
  have Hset := hid (fun (r : FAt FObj) W (hb : Below w.heap.size w W) (hp : Pixs W r.A r.n r.x.pic.p) => set_any A n c rs r W (h.below hb) hp hr hn)
  have HO := hid h
  have Hp := hid hp
  have HR := hid hr
  clear h hp hr
  go_enter Try.func20, Try.ntmps20
  go_upto_region 1 with fail
  obtain ⟨W0, hW0⟩ : ∃ W0, W0 = w.alloc (.cells #[.int .i64 3, .int .i64 oi, .int .i64 ona, .int .i64 onb, .int .i64 onc, .int .i64 ond, .int .i64 ow, .int .i64 oh, .slice oA on oc] 31) := ⟨_, rfl⟩
  have hB0 : Below w.heap.size w W0 := by rw [hW0]; exact (Below.refl w.heap.size w).alloc (Nat.le_refl _) _
  have z0 : w.heap.size < W0.heap.size := by rw [hW0]; simp
  have CE0 : Hid (OpBox W0 w.heap.size 3 oi ona onb onc ond ow oh oA on oc) := by show OpBox _ _ _ _ _ _ _ _ _ _ _ _ _; rw [hW0]; refine ⟨?_, ?_, ?_, ?_, ?_, ?_, ?_, ?_, ?_⟩ <;> simp
  rw [← hW0]
  clear hW0
  obtain ⟨b0, b1, b2, b3, b4, b5, b6, b7, b8⟩ := CE0.out
  go_wp2_with fail
  refine (Hget.out W0 hB0).mono ?_
  rintro e w1 ⟨rfl, hb1⟩
  rw [Hg.out]
  unfold getV
  clear b0 b1 b2 b3 b4 b5 b6 b7 b8
  have CE1 := hid (CE0.out.below hb1 z0)
  have hB : Below w.heap.size w w1 := bnext hB0 hb1
  have z1 : w.heap.size < w1.heap.size := Nat.lt_of_lt_of_le z0 hb1.size
  have zne : w.heap.size ≠ w1.heap.size := by omega
  clear CE0 hB0 hb1 z0
  obtain ⟨b0, b1, b2, b3, b4, b5, b6, b7, b8⟩ := CE1.out
  go_wp2_with fail
  go_region
  go_wp2_with fail
  refine (Hset.out ⟨⟨ri, ona, onb, ⟨rw, rh, rl⟩, ⟨cx, cy, cw, ch⟩, sh⟩, rA, rn, rc⟩ _ (by (repeat (first | with_reducible exact hB | with_reducible refine Below.alloc ?_ (by have := hB.size; simp; try omega) _ | with_reducible refine Below.setCell ?_ (by have := hB.size; simp; try omega) _ | with_reducible refine below_drewN ?_ _ | with_reducible refine Below.drew ?_))) (Hpx.out.below (by (repeat (first | with_reducible exact hB | with_reducible refine Below.alloc ?_ (by have := hB.size; simp; try omega) _ | with_reducible refine Below.setCell ?_ (by have := hB.size; simp; try omega) _ | with_reducible refine below_drewN ?_ _ | with_reducible refine Below.drew ?_))))).mono ?_
  rintro e w9 ⟨A9, n9, c9, rs9, rfl, ho, hd, hb9⟩
  have Ho := hid ho
  have Hd := hid hd
  have HB9 : Below w.heap.size w w9 := bnext (by (repeat (first | with_reducible exact hB | with_reducible refine Below.alloc ?_ (by have := hB.size; simp; try omega) _ | with_reducible refine Below.setCell ?_ (by have := hB.size; simp; try omega) _ | with_reducible refine below_drewN ?_ _ | with_reducible refine Below.drew ?_))) hb9
  clear ho hd hb9
  clear b0 b1 b2 b3 b4 b5 b6 b7 b8
  go_wp2_with fail
  go_ret2
  exact RetDo.of_set _ Ho.out Hd.out HB9
set_option maxRecDepth 100000 in
set_option maxHeartbeats 1600000 in
theorem do_k4 (oi ona onb onc ond ow oh : Int) (ol : List Px) (oA : Option Addr) (on oc : Nat) (A : Option Addr) (n c : Nat) (rs : List (FAt FObj)) (r0 : FAt FObj) (w : World) (h : Objs w A n rs) (hp : Pixs w oA on ol) (hr : Rise (dat rs)) (hn : n ≤ 1000) (hg : getR oi rs = some r0) :
    Calls Try.prog 20 #[.slice A n c, .agg #[.int .i64 4, .int .i64 oi, .int .i64 ona, .int .i64 onb, .int .i64 onc, .int .i64 ond, .int .i64 ow, .int .i64 oh, .slice oA on oc]] w (RetDo (setP (turnP r0.x ⟨4, oi, ona, onb, onc, ond, ⟨ow, oh, ol⟩⟩) (dat rs)) (.nilIface) w) := by
  obtain ⟨⟨ri, rx, ry, ⟨rw, rh, rl⟩, ⟨cx, cy, cw, ch⟩, sh⟩, rA, rn, rc⟩ := r0
  have hpx : Pixs w rA rn rl := h.2.2 _ (getR_mem hg).1
  have Hpx := hid hpx
  clear hpx
  have Hg := hid hg
  clear hg
  have Hget := hid (fun W (hb : Below w.heap.size w W) => get_any A n c rs oi W (h.below hb) hr hn)
  have Hset := hid (fun (r : FAt FObj) W (hb : Below w.heap.size w W) (hp : Pixs W r.A r.n r.x.pic.p) => set_any A n c rs r W (h.below hb) hp hr hn)
  have HO := hid h
  have Hp := hid hp
  have HR := hid hr
  clear h hp hr
  go_enter Try.func20, Try.ntmps20
  go_upto_region 1 with fail
  obtain ⟨W0, hW0⟩ : ∃ W0, W0 = w.alloc (.cells #[.int .i64 4, .int .i64 oi, .int .i64 ona, .int .i64 onb, .int .i64 onc, .int .i64 ond, .int .i64 ow, .int .i64 oh, .slice oA on oc] 31) := ⟨_, rfl⟩
  have hB0 : Below w.heap.size w W0 := by rw [hW0]; exact (Below.refl w.heap.size w).alloc (Nat.le_refl _) _
  have z0 : w.heap.size < W0.heap.size := by rw [hW0]; simp
  have CE0 : Hid (OpBox W0 w.heap.size 4 oi ona onb onc ond ow oh oA on oc) := by show OpBox _ _ _ _ _ _ _ _ _ _ _ _ _; rw [hW0]; refine ⟨?_, ?_, ?_, ?_, ?_, ?_, ?_, ?_, ?_⟩ <;> simp
  rw [← hW0]
  clear hW0
  obtain ⟨b0, b1, b2, b3, b4, b5, b6, b7, b8⟩ := CE0.out
  go_wp2_with fail
  refine (Hget.out W0 hB0).mono ?_
  rintro e w1 ⟨rfl, hb1⟩
  rw [Hg.out]
  unfold getV
  clear b0 b1 b2 b3 b4 b5 b6 b7 b8
  have CE1 := hid (CE0.out.below hb1 z0)
  have hB : Below w.heap.size w w1 := bnext hB0 hb1
  have z1 : w.heap.size < w1.heap.size := Nat.lt_of_lt_of_le z0 hb1.size
  have zne : w.heap.size ≠ w1.heap.size := by omega
  clear CE0 hB0 hb1 z0
  obtain ⟨b0, b1, b2, b3, b4, b5, b6, b7, b8⟩ := CE1.out
  go_wp2_with fail
  refine (Hset.out ⟨⟨ri, rx, ry, ⟨rw, rh, rl⟩, ⟨ona, onb, onc, ond⟩, sh⟩, rA, rn, rc⟩ _ (by (repeat (first | with_reducible exact hB | with_reducible refine Below.alloc ?_ (by have := hB.size; simp; try omega) _ | with_reducible refine Below.setCell ?_ (by have := hB.size; simp; try omega) _ | with_reducible refine below_drewN ?_ _ | with_reducible refine Below.drew ?_))) (Hpx.out.below (by (repeat (first | with_reducible exact hB | with_reducible refine Below.alloc ?_ (by have := hB.size; simp; try omega) _ | with_reducible refine Below.setCell ?_ (by have := hB.size; simp; try omega) _ | with_reducible refine below_drewN ?_ _ | with_reducible refine Below.drew ?_))))).mono ?_
  rintro e w9 ⟨A9, n9, c9, rs9, rfl, ho, hd, hb9⟩
  have Ho := hid ho
  have Hd := hid hd
  have HB9 : Below w.heap.size w w9 := bnext (by (repeat (first | with_reducible exact hB | with_reducible refine Below.alloc ?_ (by have := hB.size; simp; try omega) _ | with_reducible refine Below.setCell ?_ (by have := hB.size; simp; try omega) _ | with_reducible refine below_drewN ?_ _ | with_reducible refine Below.drew ?_))) hb9
  clear ho hd hb9
  clear b0 b1 b2 b3 b4 b5 b6 b7 b8
  go_wp2_with fail
  go_ret2
  exact RetDo.of_set _ Ho.out Hd.out HB9
set_option maxRecDepth 100000 in
set_option maxHeartbeats 1600000 in
theorem do_k6 (oi ona onb onc ond ow oh : Int) (ol : List Px) (oA : Option Addr) (on oc : Nat) (A : Option Addr) (n c : Nat) (rs : List (FAt FObj)) (r0 : FAt FObj) (w : World) (h : Objs w A n rs) (hp : Pixs w oA on ol) (hr : Rise (dat rs)) (hn : n ≤ 1000) (hg : getR oi rs = some r0) :
    Calls Try.prog 20 #[.slice A n c, .agg #[.int .i64 6, .int .i64 oi, .int .i64 ona, .int .i64 onb, .int .i64 onc, .int .i64 ond, .int .i64 ow, .int .i64 oh, .slice oA on oc]] w (RetDo (setP (turnP r0.x ⟨6, oi, ona, onb, onc, ond, ⟨ow, oh, ol⟩⟩) (dat rs)) (.nilIface) w) := by
  obtain ⟨⟨ri, rx, ry, ⟨rw, rh, rl⟩, ⟨cx, cy, cw, ch⟩, sh⟩, rA, rn, rc⟩ := r0
  have hpx : Pixs w rA rn rl := h.2.2 _ (getR_mem hg).1
  have Hpx := hid hpx
  clear hpx
  have Hg := hid hg
  clear hg
  have Hget := hid (fun W (hb : Below w.heap.size w W) => get_any A n c rs oi W (h.below hb) hr hn)
  have Hset := hid (fun (r : FAt FObj) W (hb : Below w.heap.size w W) (hp : Pixs W r.A r.n r.x.pic.p) => set_any A n c rs r W (h.below hb) hp hr hn)
  have HO := hid h
  have Hp := hid hp
  have HR := hid hr
  clear h hp hr
  go_enter Try.func20, Try.ntmps20
  go_upto_region 1 with fail
  obtain ⟨W0, hW0⟩ : ∃ W0, W0 = w.alloc (.cells #[.int .i64 6, .int .i64 oi, .int .i64 ona, .int .i64 onb, .int .i64 onc, .int .i64 ond, .int .i64 ow, .int .i64 oh, .slice oA on oc] 31) := ⟨_, rfl⟩
  have hB0 : Below w.heap.size w W0 := by rw [hW0]; exact (Below.refl w.heap.size w).alloc (Nat.le_refl _) _
  have z0 : w.heap.size < W0.heap.size := by rw [hW0]; simp
  have CE0 : Hid (OpBox W0 w.heap.size 6 oi ona onb onc ond ow oh oA on oc) := by show OpBox _ _ _ _ _ _ _ _ _ _ _ _ _; rw [hW0]; refine ⟨?_, ?_, ?_, ?_, ?_, ?_, ?_, ?_, ?_⟩ <;> simp
  rw [← hW0]
  clear hW0
  obtain ⟨b0, b1, b2, b3, b4, b5, b6, b7, b8⟩ := CE0.out
  go_wp2_with fail
  refine (Hget.out W0 hB0).mono ?_
  rintro e w1 ⟨rfl, hb1⟩
  rw [Hg.out]
  unfold getV
  clear b0 b1 b2 b3 b4 b5 b6 b7 b8
  have CE1 := hid (CE0.out.below hb1 z0)
  have hB : Below w.heap.size w w1 := bnext hB0 hb1
  have z1 : w.heap.size < w1.heap.size := Nat.lt_of_lt_of_le z0 hb1.size
  have zne : w.heap.size ≠ w1.heap.size := by omega
  clear CE0 hB0 hb1 z0
  obtain ⟨b0, b1, b2, b3, b4, b5, b6, b7, b8⟩ := CE1.out
  go_wp2_with fail
  refine (Hset.out ⟨⟨ona, rx, ry, ⟨rw, rh, rl⟩, ⟨cx, cy, cw, ch⟩, sh⟩, rA, rn, rc⟩ _ (by (repeat (first | with_reducible exact hB | with_reducible refine Below.alloc ?_ (by have := hB.size; simp; try omega) _ | with_reducible refine Below.setCell ?_ (by have := hB.size; simp; try omega) _ | with_reducible refine below_drewN ?_ _ | with_reducible refine Below.drew ?_))) (Hpx.out.below (by (repeat (first | with_reducible exact hB | with_reducible refine Below.alloc ?_ (by have := hB.size; simp; try omega) _ | with_reducible refine Below.setCell ?_ (by have := hB.size; simp; try omega) _ | with_reducible refine below_drewN ?_ _ | with_reducible refine Below.drew ?_))))).mono ?_
  rintro e w9 ⟨A9, n9, c9, rs9, rfl, ho, hd, hb9⟩
  have Ho := hid ho
  have Hd := hid hd
  have HB9 : Below w.heap.size w w9 := bnext (by (repeat (first | with_reducible exact hB | with_reducible refine Below.alloc ?_ (by have := hB.size; simp; try omega) _ | with_reducible refine Below.setCell ?_ (by have := hB.size; simp; try omega) _ | with_reducible refine below_drewN ?_ _ | with_reducible refine Below.drew ?_))) hb9
  clear ho hd hb9
  clear b0 b1 b2 b3 b4 b5 b6 b7 b8
  go_wp2_with fail
  go_ret2
  exact RetDo.of_set _ Ho.out Hd.out HB9
set_option maxRecDepth 100000 in
set_option maxHeartbeats 1600000 in
theorem do_k5t (oi ona onb onc ond ow oh : Int) (ol : List Px) (oA : Option Addr) (on oc : Nat) (A : Option Addr) (n c : Nat) (rs : List (FAt FObj)) (r0 : FAt FObj) (w : World) (h : Objs w A n rs) (hp : Pixs w oA on ol) (hr : Rise (dat rs)) (hn : n ≤ 1000) (hg : getR oi rs = some r0) (h5 : decide (ona = 1) = true) :
    Calls Try.prog 20 #[.slice A n c, .agg #[.int .i64 5, .int .i64 oi, .int .i64 ona, .int .i64 onb, .int .i64 onc, .int .i64 ond, .int .i64 ow, .int .i64 oh, .slice oA on oc]] w (RetDo (setP (turnP r0.x ⟨5, oi, ona, onb, onc, ond, ⟨ow, oh, ol⟩⟩) (dat rs)) (.nilIface) w) := by
  obtain ⟨⟨ri, rx, ry, ⟨rw, rh, rl⟩, ⟨cx, cy, cw, ch⟩, sh⟩, rA, rn, rc⟩ := r0
  have hpx : Pixs w rA rn rl := h.2.2 _ (getR_mem hg).1
  have Hpx := hid hpx
  clear hpx
  have Hg := hid hg
  clear hg
  have Hget := hid (fun W (hb : Below w.heap.size w W) => get_any A n c rs oi W (h.below hb) hr hn)
  have Hset := hid (fun (r : FAt FObj) W (hb : Below w.heap.size w W) (hp : Pixs W r.A r.n r.x.pic.p) => set_any A n c rs r W (h.below hb) hp hr hn)
  have HO := hid h
  have Hp := hid hp
  have HR := hid hr
  clear h hp hr
  have e5 : turnP ⟨ri, rx, ry, ⟨rw, rh, rl⟩, ⟨cx, cy, cw, ch⟩, sh⟩ ⟨5, oi, ona, onb, onc, ond, ⟨ow, oh, ol⟩⟩ = ⟨ri, rx, ry, ⟨rw, rh, rl⟩, ⟨cx, cy, cw, ch⟩, true⟩ := by rw [← h5]; rfl
  have h5' : (ona == 1) = true := h5
  rw [e5]
  clear e5 h5
  go_enter Try.func20, Try.ntmps20
  go_upto_region 1 with fail
  obtain ⟨W0, hW0⟩ : ∃ W0, W0 = w.alloc (.cells #[.int .i64 5, .int .i64 oi, .int .i64 ona, .int .i64 onb, .int .i64 onc, .int .i64 ond, .int .i64 ow, .int .i64 oh, .slice oA on oc] 31) := ⟨_, rfl⟩
  have hB0 : Below w.heap.size w W0 := by rw [hW0]; exact (Below.refl w.heap.size w).alloc (Nat.le_refl _) _
  have z0 : w.heap.size < W0.heap.size := by rw [hW0]; simp
  have CE0 : Hid (OpBox W0 w.heap.size 5 oi ona onb onc ond ow oh oA on oc) := by show OpBox _ _ _ _ _ _ _ _ _ _ _ _ _; rw [hW0]; refine ⟨?_, ?_, ?_, ?_, ?_, ?_, ?_, ?_, ?_⟩ <;> simp
  rw [← hW0]
  clear hW0
  obtain ⟨b0, b1, b2, b3, b4, b5, b6, b7, b8⟩ := CE0.out
  go_wp2_with fail
  refine (Hget.out W0 hB0).mono ?_
  rintro e w1 ⟨rfl, hb1⟩
  rw [Hg.out]
  unfold getV
  clear b0 b1 b2 b3 b4 b5 b6 b7 b8
  have CE1 := hid (CE0.out.below hb1 z0)
  have hB : Below w.heap.size w w1 := bnext hB0 hb1
  have z1 : w.heap.size < w1.heap.size := Nat.lt_of_lt_of_le z0 hb1.size
  have zne : w.heap.size ≠ w1.heap.size := by omega
  clear CE0 hB0 hb1 z0
  obtain ⟨b0, b1, b2, b3, b4, b5, b6, b7, b8⟩ := CE1.out
  go_wp2_with fail
  refine (Hset.out ⟨⟨ri, rx, ry, ⟨rw, rh, rl⟩, ⟨cx, cy, cw, ch⟩, true⟩, rA, rn, rc⟩ _ (by (repeat (first | with_reducible exact hB | with_reducible refine Below.alloc ?_ (by have := hB.size; simp; try omega) _ | with_reducible refine Below.setCell ?_ (by have := hB.size; simp; try omega) _ | with_reducible refine below_drewN ?_ _ | with_reducible refine Below.drew ?_))) (Hpx.out.below (by (repeat (first | with_reducible exact hB | with_reducible refine Below.alloc ?_ (by have := hB.size; simp; try omega) _ | with_reducible refine Below.setCell ?_ (by have := hB.size; simp; try omega) _ | with_reducible refine below_drewN ?_ _ | with_reducible refine Below.drew ?_))))).mono ?_
  rintro e w9 ⟨A9, n9, c9, rs9, rfl, ho, hd, hb9⟩
  have Ho := hid ho
  have Hd := hid hd
  have HB9 : Below w.heap.size w w9 := bnext (by (repeat (first | with_reducible exact hB | with_reducible refine Below.alloc ?_ (by have := hB.size; simp; try omega) _ | with_reducible refine Below.setCell ?_ (by have := hB.size; simp; try omega) _ | with_reducible refine below_drewN ?_ _ | with_reducible refine Below.drew ?_))) hb9
  clear ho hd hb9
  clear b0 b1 b2 b3 b4 b5 b6 b7 b8
  go_wp2_with fail
  go_ret2
  exact RetDo.of_set _ Ho.out Hd.out HB9
set_option maxRecDepth 100000 in
set_option maxHeartbeats 1600000 in
theorem do_k5f (oi ona onb onc ond ow oh : Int) (ol : List Px) (oA : Option Addr) (on oc : Nat) (A : Option Addr) (n c : Nat) (rs : List (FAt FObj)) (r0 : FAt FObj) (w : World) (h : Objs w A n rs) (hp : Pixs w oA on ol) (hr : Rise (dat rs)) (hn : n ≤ 1000) (hg : getR oi rs = some r0) (h5 : decide (ona = 1) = false) :
    Calls Try.prog 20 #[.slice A n c, .agg #[.int .i64 5, .int .i64 oi, .int .i64 ona, .int .i64 onb, .int .i64 onc, .int .i64 ond, .int .i64 ow, .int .i64 oh, .slice oA on oc]] w (RetDo (setP (turnP r0.x ⟨5, oi, ona, onb, onc, ond, ⟨ow, oh, ol⟩⟩) (dat rs)) (.nilIface) w) := by
  obtain ⟨⟨ri, rx, ry, ⟨rw, rh, rl⟩, ⟨cx, cy, cw, ch⟩, sh⟩, rA, rn, rc⟩ := r0
  have hpx : Pixs w rA rn rl := h.2.2 _ (getR_mem hg).1
  have Hpx := hid hpx
  clear hpx
  have Hg := hid hg
  clear hg
  have Hget := hid (fun W (hb : Below w.heap.size w W) => get_any A n c rs oi W (h.below hb) hr hn)
  have Hset := hid (fun (r : FAt FObj) W (hb : Below w.heap.size w W) (hp : Pixs W r.A r.n r.x.pic.p) => set_any A n c rs r W (h.below hb) hp hr hn)
  have HO := hid h
  have Hp := hid hp
  have HR := hid hr
  clear h hp hr
  have e5 : turnP ⟨ri, rx, ry, ⟨rw, rh, rl⟩, ⟨cx, cy, cw, ch⟩, sh⟩ ⟨5, oi, ona, onb, onc, ond, ⟨ow, oh, ol⟩⟩ = ⟨ri, rx, ry, ⟨rw, rh, rl⟩, ⟨cx, cy, cw, ch⟩, false⟩ := by rw [← h5]; rfl
  have h5' : (ona == 1) = false := h5
  rw [e5]
  clear e5 h5
  go_enter Try.func20, Try.ntmps20
  go_upto_region 1 with fail
  obtain ⟨W0, hW0⟩ : ∃ W0, W0 = w.alloc (.cells #[.int .i64 5, .int .i64 oi, .int .i64 ona, .int .i64 onb, .int .i64 onc, .int .i64 ond, .int .i64 ow, .int .i64 oh, .slice oA on oc] 31) := ⟨_, rfl⟩
  have hB0 : Below w.heap.size w W0 := by rw [hW0]; exact (Below.refl w.heap.size w).alloc (Nat.le_refl _) _
  have z0 : w.heap.size < W0.heap.size := by rw [hW0]; simp
  have CE0 : Hid (OpBox W0 w.heap.size 5 oi ona onb onc ond ow oh oA on oc) := by show OpBox _ _ _ _ _ _ _ _ _ _ _ _ _; rw [hW0]; refine ⟨?_, ?_, ?_, ?_, ?_, ?_, ?_, ?_, ?_⟩ <;> simp
  rw [← hW0]
  clear hW0
  obtain ⟨b0, b1, b2, b3, b4, b5, b6, b7, b8⟩ := CE0.out
  go_wp2_with fail
  refine (Hget.out W0 hB0).mono ?_
  rintro e w1 ⟨rfl, hb1⟩
  rw [Hg.out]
  unfold getV
  clear b0 b1 b2 b3 b4 b5 b6 b7 b8
  have CE1 := hid (CE0.out.below hb1 z0)
  have hB : Below w.heap.size w w1 := bnext hB0 hb1
  have z1 : w.heap.size < w1.heap.size := Nat.lt_of_lt_of_le z0 hb1.size
  have zne : w.heap.size ≠ w1.heap.size := by omega
  clear CE0 hB0 hb1 z0
  obtain ⟨b0, b1, b2, b3, b4, b5, b6, b7, b8⟩ := CE1.out
  go_wp2_with fail
  refine (Hset.out ⟨⟨ri, rx, ry, ⟨rw, rh, rl⟩, ⟨cx, cy, cw, ch⟩, false⟩, rA, rn, rc⟩ _ (by (repeat (first | with_reducible exact hB | with_reducible refine Below.alloc ?_ (by have := hB.size; simp; try omega) _ | with_reducible refine Below.setCell ?_ (by have := hB.size; simp; try omega) _ | with_reducible refine below_drewN ?_ _ | with_reducible refine Below.drew ?_))) (Hpx.out.below (by (repeat (first | with_reducible exact hB | with_reducible refine Below.alloc ?_ (by have := hB.size; simp; try omega) _ | with_reducible refine Below.setCell ?_ (by have := hB.size; simp; try omega) _ | with_reducible refine below_drewN ?_ _ | with_reducible refine Below.drew ?_))))).mono ?_
  rintro e w9 ⟨A9, n9, c9, rs9, rfl, ho, hd, hb9⟩
  have Ho := hid ho
  have Hd := hid hd
  have HB9 : Below w.heap.size w w9 := bnext (by (repeat (first | with_reducible exact hB | with_reducible refine Below.alloc ?_ (by have := hB.size; simp; try omega) _ | with_reducible refine Below.setCell ?_ (by have := hB.size; simp; try omega) _ | with_reducible refine below_drewN ?_ _ | with_reducible refine Below.drew ?_))) hb9
  clear ho hd hb9
  clear b0 b1 b2 b3 b4 b5 b6 b7 b8
  go_wp2_with fail
  go_ret2
  exact RetDo.of_set _ Ho.out Hd.out HB9
set_option maxRecDepth 100000 in
set_option maxHeartbeats 1600000 in
theorem do_k8 (oi ona onb onc ond ow oh : Int) (ol : List Px) (oA : Option Addr) (on oc : Nat) (A : Option Addr) (n c : Nat) (rs : List (FAt FObj)) (r0 : FAt FObj) (w : World) (h : Objs w A n rs) (hp : Pixs w oA on ol) (hr : Rise (dat rs)) (hn : n ≤ 1000) (hg : getR oi rs = some r0) (fr : PicFine r0.x.pic) (fs : PicFine ⟨ow, oh, ol⟩) (hx : -20 ≤ ona ∧ ona ≤ 20) (hy : -20 ≤ onb ∧ onb ≤ 20) :
    Calls Try.prog 20 #[.slice A n c, .agg #[.int .i64 8, .int .i64 oi, .int .i64 ona, .int .i64 onb, .int .i64 onc, .int .i64 ond, .int .i64 ow, .int .i64 oh, .slice oA on oc]] w (RetDo (setP (turnP r0.x ⟨8, oi, ona, onb, onc, ond, ⟨ow, oh, ol⟩⟩) (dat rs)) (.nilIface) w) := by
  obtain ⟨⟨ri, rx, ry, ⟨rw, rh, rl⟩, ⟨cx, cy, cw, ch⟩, sh⟩, rA, rn, rc⟩ := r0
  have hpx : Pixs w rA rn rl := h.2.2 _ (getR_mem hg).1
  have Hpx := hid hpx
  clear hpx
  have Hg := hid hg
  clear hg
  have Hget := hid (fun W (hb : Below w.heap.size w W) => get_any A n c rs oi W (h.below hb) hr hn)
  have Hset := hid (fun (r : FAt FObj) W (hb : Below w.heap.size w W) (hp : Pixs W r.A r.n r.x.pic.p) => set_any A n c rs r W (h.below hb) hp hr hn)
  have HO := hid h
  have Hp := hid hp
  have HR := hid hr
  clear h hp hr
  have e8 : turnP ⟨ri, rx, ry, ⟨rw, rh, rl⟩, ⟨cx, cy, cw, ch⟩, sh⟩ ⟨8, oi, ona, onb, onc, ond, ⟨ow, oh, ol⟩⟩ = ⟨ri, rx, ry, ⟨rw, rh, (changeP addP ⟨rw, rh, rl⟩ ⟨ow, oh, ol⟩ ona onb).p⟩, ⟨cx, cy, cw, ch⟩, sh⟩ := rfl
  have hch : changeP addP ⟨rw, rh, rl⟩ ⟨ow, oh, ol⟩ ona onb = ⟨rw, rh, (changeP addP ⟨rw, rh, rl⟩ ⟨ow, oh, ol⟩ ona onb).p⟩ := rfl
  have hcall := fun W (hb : Below w.heap.size w W) => add_any ⟨⟨rw, rh, rl⟩, rA, rn, rc⟩ ⟨⟨ow, oh, ol⟩, oA, on, oc⟩ ona onb W (Hpx.out.below hb) (Hp.out.below hb) fr fs (by omega) (by omega)
  rw [e8]
  simp only at hcall
  rw [hch] at hcall
  generalize (changeP addP ⟨rw, rh, rl⟩ ⟨ow, oh, ol⟩ ona onb).p = L2 at *
  have Hcall := hid hcall
  clear hcall e8 hch fr fs hx hy
  go_enter Try.func20, Try.ntmps20
  go_upto_region 1 with fail
  obtain ⟨W0, hW0⟩ : ∃ W0, W0 = w.alloc (.cells #[.int .i64 8, .int .i64 oi, .int .i64 ona, .int .i64 onb, .int .i64 onc, .int .i64 ond, .int .i64 ow, .int .i64 oh, .slice oA on oc] 31) := ⟨_, rfl⟩
  have hB0 : Below w.heap.size w W0 := by rw [hW0]; exact (Below.refl w.heap.size w).alloc (Nat.le_refl _) _
  have z0 : w.heap.size < W0.heap.size := by rw [hW0]; simp
  have CE0 : Hid (OpBox W0 w.heap.size 8 oi ona onb onc ond ow oh oA on oc) := by show OpBox _ _ _ _ _ _ _ _ _ _ _ _ _; rw [hW0]; refine ⟨?_, ?_, ?_, ?_, ?_, ?_, ?_, ?_, ?_⟩ <;> simp
  rw [← hW0]
  clear hW0
  obtain ⟨b0, b1, b2, b3, b4, b5, b6, b7, b8⟩ := CE0.out
  go_wp2_with fail
  refine (Hget.out W0 hB0).mono ?_
  rintro e w1 ⟨rfl, hb1⟩
  rw [Hg.out]
  unfold getV
  clear b0 b1 b2 b3 b4 b5 b6 b7 b8
  have CE1 := hid (CE0.out.below hb1 z0)
  have hB : Below w.heap.size w w1 := bnext hB0 hb1
  have z1 : w.heap.size < w1.heap.size := Nat.lt_of_lt_of_le z0 hb1.size
  have zne : w.heap.size ≠ w1.heap.size := by omega
  clear CE0 hB0 hb1 z0
  obtain ⟨b0, b1, b2, b3, b4, b5, b6, b7, b8⟩ := CE1.out
  go_wp2_with fail
  refine (Hcall.out _ (by (repeat (first | with_reducible exact hB | with_reducible refine Below.alloc ?_ (by have := hB.size; simp; try omega) _ | with_reducible refine Below.setCell ?_ (by have := hB.size; simp; try omega) _ | with_reducible refine below_drewN ?_ _ | with_reducible refine Below.drew ?_)))).mono ?_
  rintro e w2 ⟨A2, c2, rfl, hp2, hnew, hb2⟩
  simp only at hp2 ⊢
  obtain ⟨hc, hf⟩ := bcell hb2
  have Hp2 := hid hp2
  have Hnew := hid hnew
  have hB2 : Below w.heap.size w w2 := bnext (by (repeat (first | with_reducible exact hB | with_reducible refine Below.alloc ?_ (by have := hB.size; simp; try omega) _ | with_reducible refine Below.setCell ?_ (by have := hB.size; simp; try omega) _ | with_reducible refine below_drewN ?_ _ | with_reducible refine Below.drew ?_))) hb2
  have z2 : w1.heap.size < w2.heap.size := by have := hb2.size; simp at this; omega
  clear hp2 hnew
  generalize L2.length = n2 at *
  go_wp2_with fail
  have hB : Below w.heap.size w w2 := hB2
  have zz := hB.size
  refine (Hset.out ⟨⟨ri, rx, ry, ⟨rw, rh, L2⟩, ⟨cx, cy, cw, ch⟩, sh⟩, A2, n2, c2⟩ _ (by (repeat (first | with_reducible exact hB | with_reducible refine Below.alloc ?_ (by have := hB.size; simp; try omega) _ | with_reducible refine Below.setCell ?_ (by have := hB.size; simp; try omega) _ | with_reducible refine below_drewN ?_ _ | with_reducible refine Below.drew ?_))) (pixs_off (pixs_off (pixs_off Hp2.out (fun a ha => by have := Hnew.out a ha; simp at this; omega) _ _) (fun a ha => by have := Hnew.out a ha; simp at this; omega) _ _) (fun a ha => by have := Hnew.out a ha; simp at this; omega) _ _)).mono ?_
  rintro e w9 ⟨A9, n9, c9, rs9, rfl, ho, hd, hb9⟩
  have Ho := hid ho
  have Hd := hid hd
  have HB9 : Below w.heap.size w w9 := bnext (by (repeat (first | with_reducible exact hB | with_reducible refine Below.alloc ?_ (by have := hB.size; simp; try omega) _ | with_reducible refine Below.setCell ?_ (by have := hB.size; simp; try omega) _ | with_reducible refine below_drewN ?_ _ | with_reducible refine Below.drew ?_))) hb9
  clear ho hd hb9
  clear b0 b1 b2 b3 b4 b5 b6 b7 b8
  go_wp2_with fail
  go_ret2
  exact RetDo.of_set _ Ho.out Hd.out HB9
set_option maxRecDepth 100000 in
set_option maxHeartbeats 1600000 in
theorem do_k9 (oi ona onb onc ond ow oh : Int) (ol : List Px) (oA : Option Addr) (on oc : Nat) (A : Option Addr) (n c : Nat) (rs : List (FAt FObj)) (r0 : FAt FObj) (w : World) (h : Objs w A n rs) (hp : Pixs w oA on ol) (hr : Rise (dat rs)) (hn : n ≤ 1000) (hg : getR oi rs = some r0) (fr : PicFine r0.x.pic) (fs : PicFine ⟨ow, oh, ol⟩) (hx : -20 ≤ ona ∧ ona ≤ 20) (hy : -20 ≤ onb ∧ onb ≤ 20) :
    Calls Try.prog 20 #[.slice A n c, .agg #[.int .i64 9, .int .i64 oi, .int .i64 ona, .int .i64 onb, .int .i64 onc, .int .i64 ond, .int .i64 ow, .int .i64 oh, .slice oA on oc]] w (RetDo (setP (turnP r0.x ⟨9, oi, ona, onb, onc, ond, ⟨ow, oh, ol⟩⟩) (dat rs)) (.nilIface) w) := by
  obtain ⟨⟨ri, rx, ry, ⟨rw, rh, rl⟩, ⟨cx, cy, cw, ch⟩, sh⟩, rA, rn, rc⟩ := r0
  have hpx : Pixs w rA rn rl := h.2.2 _ (getR_mem hg).1
  have Hpx := hid hpx
  clear hpx
  have Hg := hid hg
  clear hg
  have Hget := hid (fun W (hb : Below w.heap.size w W) => get_any A n c rs oi W (h.below hb) hr hn)
  have Hset := hid (fun (r : FAt FObj) W (hb : Below w.heap.size w W) (hp : Pixs W r.A r.n r.x.pic.p) => set_any A n c rs r W (h.below hb) hp hr hn)
  have HO := hid h
  have Hp := hid hp
  have HR := hid hr
  clear h hp hr
  have e8 : turnP ⟨ri, rx, ry, ⟨rw, rh, rl⟩, ⟨cx, cy, cw, ch⟩, sh⟩ ⟨9, oi, ona, onb, onc, ond, ⟨ow, oh, ol⟩⟩ = ⟨ri, rx, ry, ⟨rw, rh, (changeP putP ⟨rw, rh, rl⟩ ⟨ow, oh, ol⟩ ona onb).p⟩, ⟨cx, cy, cw, ch⟩, sh⟩ := rfl
  have hch : changeP putP ⟨rw, rh, rl⟩ ⟨ow, oh, ol⟩ ona onb = ⟨rw, rh, (changeP putP ⟨rw, rh, rl⟩ ⟨ow, oh, ol⟩ ona onb).p⟩ := rfl
  have hcall := fun W (hb : Below w.heap.size w W) => put_any ⟨⟨rw, rh, rl⟩, rA, rn, rc⟩ ⟨⟨ow, oh, ol⟩, oA, on, oc⟩ ona onb W (Hpx.out.below hb) (Hp.out.below hb) fr fs (by omega) (by omega)
  rw [e8]
  simp only at hcall
  rw [hch] at hcall
  generalize (changeP putP ⟨rw, rh, rl⟩ ⟨ow, oh, ol⟩ ona onb).p = L2 at *
  have Hcall := hid hcall
  clear hcall e8 hch fr fs hx hy
  go_enter Try.func20, Try.ntmps20
  go_upto_region 1 with fail
  obtain ⟨W0, hW0⟩ : ∃ W0, W0 = w.alloc (.cells #[.int .i64 9, .int .i64 oi, .int .i64 ona, .int .i64 onb, .int .i64 onc, .int .i64 ond, .int .i64 ow, .int .i64 oh, .slice oA on oc] 31) := ⟨_, rfl⟩
  have hB0 : Below w.heap.size w W0 := by rw [hW0]; exact (Below.refl w.heap.size w).alloc (Nat.le_refl _) _
  have z0 : w.heap.size < W0.heap.size := by rw [hW0]; simp
  have CE0 : Hid (OpBox W0 w.heap.size 9 oi ona onb onc ond ow oh oA on oc) := by show OpBox _ _ _ _ _ _ _ _ _ _ _ _ _; rw [hW0]; refine ⟨?_, ?_, ?_, ?_, ?_, ?_, ?_, ?_, ?_⟩ <;> simp
  rw [← hW0]
  clear hW0
  obtain ⟨b0, b1, b2, b3, b4, b5, b6, b7, b8⟩ := CE0.out
  go_wp2_with fail
  refine (Hget.out W0 hB0).mono ?_
  rintro e w1 ⟨rfl, hb1⟩
  rw [Hg.out]
  unfold getV
  clear b0 b1 b2 b3 b4 b5 b6 b7 b8
  have CE1 := hid (CE0.out.below hb1 z0)
  have hB : Below w.heap.size w w1 := bnext hB0 hb1
  have z1 : w.heap.size < w1.heap.size := Nat.lt_of_lt_of_le z0 hb1.size
  have zne : w.heap.size ≠ w1.heap.size := by omega
  clear CE0 hB0 hb1 z0
  obtain ⟨b0, b1, b2, b3, b4, b5, b6, b7, b8⟩ := CE1.out
  go_wp2_with fail
  refine (Hcall.out _ (by (repeat (first | with_reducible exact hB | with_reducible refine Below.alloc ?_ (by have := hB.size; simp; try omega) _ | with_reducible refine Below.setCell ?_ (by have := hB.size; simp; try omega) _ | with_reducible refine below_drewN ?_ _ | with_reducible refine Below.drew ?_)))).mono ?_
  rintro e w2 ⟨A2, c2, rfl, hp2, hnew, hb2⟩
  simp only at hp2 ⊢
  obtain ⟨hc, hf⟩ := bcell hb2
  have Hp2 := hid hp2
  have Hnew := hid hnew
  have hB2 : Below w.heap.size w w2 := bnext (by (repeat (first | with_reducible exact hB | with_reducible refine Below.alloc ?_ (by have := hB.size; simp; try omega) _ | with_reducible refine Below.setCell ?_ (by have := hB.size; simp; try omega) _ | with_reducible refine below_drewN ?_ _ | with_reducible refine Below.drew ?_))) hb2
  have z2 : w1.heap.size < w2.heap.size := by have := hb2.size; simp at this; omega
  clear hp2 hnew
  generalize L2.length = n2 at *
  go_wp2_with fail
  have hB : Below w.heap.size w w2 := hB2
  have zz := hB.size
  refine (Hset.out ⟨⟨ri, rx, ry, ⟨rw, rh, L2⟩, ⟨cx, cy, cw, ch⟩, sh⟩, A2, n2, c2⟩ _ (by (repeat (first | with_reducible exact hB | with_reducible refine Below.alloc ?_ (by have := hB.size; simp; try omega) _ | with_reducible refine Below.setCell ?_ (by have := hB.size; simp; try omega) _ | with_reducible refine below_drewN ?_ _ | with_reducible refine Below.drew ?_))) (pixs_off (pixs_off (pixs_off Hp2.out (fun a ha => by have := Hnew.out a ha; simp at this; omega) _ _) (fun a ha => by have := Hnew.out a ha; simp at this; omega) _ _) (fun a ha => by have := Hnew.out a ha; simp at this; omega) _ _)).mono ?_
  rintro e w9 ⟨A9, n9, c9, rs9, rfl, ho, hd, hb9⟩
  have Ho := hid ho
  have Hd := hid hd
  have HB9 : Below w.heap.size w w9 := bnext (by (repeat (first | with_reducible exact hB | with_reducible refine Below.alloc ?_ (by have := hB.size; simp; try omega) _ | with_reducible refine Below.setCell ?_ (by have := hB.size; simp; try omega) _ | with_reducible refine below_drewN ?_ _ | with_reducible refine Below.drew ?_))) hb9
  clear ho hd hb9
  clear b0 b1 b2 b3 b4 b5 b6 b7 b8
  go_wp2_with fail
  go_ret2
  exact RetDo.of_set _ Ho.out Hd.out HB9
set_option maxRecDepth 100000 in
set_option maxHeartbeats 1600000 in
theorem do_k7 (oi ona onb onc ond ow oh : Int) (ol : List Px) (oA : Option Addr) (on oc : Nat) (A : Option Addr) (n c : Nat) (rs : List (FAt FObj)) (r0 : FAt FObj) (w : World) (h : Objs w A n rs) (hp : Pixs w oA on ol) (hr : Rise (dat rs)) (hn : n ≤ 1000) (hg : getR oi rs = some r0) :
    Calls Try.prog 20 #[.slice A n c, .agg #[.int .i64 7, .int .i64 oi, .int .i64 ona, .int .i64 onb, .int .i64 onc, .int .i64 ond, .int .i64 ow, .int .i64 oh, .slice oA on oc]] w (RetDo (dropP oi (dat rs)) (.nilIface) w) := by
  obtain ⟨⟨ri, rx, ry, ⟨rw, rh, rl⟩, ⟨cx, cy, cw, ch⟩, sh⟩, rA, rn, rc⟩ := r0
  have hpx : Pixs w rA rn rl := h.2.2 _ (getR_mem hg).1
  have Hpx := hid hpx
  clear hpx
  have Hg := hid hg
  clear hg
  have Hget := hid (fun W (hb : Below w.heap.size w W) => get_any A n c rs oi W (h.below hb) hr hn)
  have Hset := hid (fun (r : FAt FObj) W (hb : Below w.heap.size w W) (hp : Pixs W r.A r.n r.x.pic.p) => set_any A n c rs r W (h.below hb) hp hr hn)
  have HO := hid h
  have Hp := hid hp
  have HR := hid hr
  clear h hp hr
  have Hcl := hid (fun W (hb : Below w.heap.size w W) => cloneob_any A n c rs W (HO.out.below hb) (by omega))
  have Hl := hid HO.out.1
  go_enter Try.func20, Try.ntmps20
  go_upto_region 1 with fail
  obtain ⟨W0, hW0⟩ : ∃ W0, W0 = w.alloc (.cells #[.int .i64 7, .int .i64 oi, .int .i64 ona, .int .i64 onb, .int .i64 onc, .int .i64 ond, .int .i64 ow, .int .i64 oh, .slice oA on oc] 31) := ⟨_, rfl⟩
  have hB0 : Below w.heap.size w W0 := by rw [hW0]; exact (Below.refl w.heap.size w).alloc (Nat.le_refl _) _
  have z0 : w.heap.size < W0.heap.size := by rw [hW0]; simp
  have CE0 : Hid (OpBox W0 w.heap.size 7 oi ona onb onc ond ow oh oA on oc) := by show OpBox _ _ _ _ _ _ _ _ _ _ _ _ _; rw [hW0]; refine ⟨?_, ?_, ?_, ?_, ?_, ?_, ?_, ?_, ?_⟩ <;> simp
  rw [← hW0]
  clear hW0
  obtain ⟨b0, b1, b2, b3, b4, b5, b6, b7, b8⟩ := CE0.out
  go_wp2_with fail
  refine (Hget.out W0 hB0).mono ?_
  rintro e w1 ⟨rfl, hb1⟩
  rw [Hg.out]
  unfold getV
  clear b0 b1 b2 b3 b4 b5 b6 b7 b8
  have CE1 := hid (CE0.out.below hb1 z0)
  have hB : Below w.heap.size w w1 := bnext hB0 hb1
  have z1 : w.heap.size < w1.heap.size := Nat.lt_of_lt_of_le z0 hb1.size
  have zne : w.heap.size ≠ w1.heap.size := by omega
  clear CE0 hB0 hb1 z0
  obtain ⟨b0, b1, b2, b3, b4, b5, b6, b7, b8⟩ := CE1.out
  go_wp2_with fail
  refine (Hcl.out _ (by (repeat (first | with_reducible exact hB | with_reducible refine Below.alloc ?_ (by have := hB.size; simp; try omega) _ | with_reducible refine Below.setCell ?_ (by have := hB.size; simp; try omega) _ | with_reducible refine below_drewN ?_ _ | with_reducible refine Below.drew ?_)))).mono ?_
  rintro e w2 ⟨V, rfl, hv, hb2⟩
  have hB2 : Below w.heap.size w w2 := bnext (by (repeat (first | with_reducible exact hB | with_reducible refine Below.alloc ?_ (by have := hB.size; simp; try omega) _ | with_reducible refine Below.setCell ?_ (by have := hB.size; simp; try omega) _ | with_reducible refine below_drewN ?_ _ | with_reducible refine Below.drew ?_))) hb2
  have hb2w : Below w1.heap.size w1 w2 := ((Below.refl w1.heap.size w1).alloc (Nat.le_refl _) _).trans (hb2.mono (by simp))
  have CE2 := hid (CE1.out.below hb2w z1)
  have zz : w1.heap.size < w2.heap.size := by have := hb2.size; simp at this; omega
  have Hdel := hid (delete_any rs n Hl.out oi w.heap.size _ V w2 hn hb2.size hv (fun q hq => (HO.out.2.2 q hq).below hB2) CE2.out.2.1 (by simp; omega))
  clear b0 b1 b2 b3 b4 b5 b6 b7 b8 hv
  go_wp2_with fail
  refine Hdel.out.mono ?_
  rintro e w3 ⟨v, rfl, hv3, hb3⟩
  have hB3 : Below w.heap.size w w3 := hB2.trans (hb3.mono (by have := hB.size; simp; omega))
  obtain ⟨A3, c3, rfl, -, -, ho⟩ := own_objs hv3 (fun q hq => by unfold dropR at hq; exact (HO.out.2.2 q (List.mem_filter.1 hq).1).below hB3)
  have Ho := hid ho
  clear ho hv3 hb3
  generalize hdr : dropR oi rs = rs3 at *
  have Hdr := hid hdr
  clear hdr
  generalize rs3.length = m at *
  go_wp2_with fail
  go_ret2
  exact RetDo.of_set _ Ho.out (by rw [← Hdr.out, dropR_dat]) hB3
end Fb
