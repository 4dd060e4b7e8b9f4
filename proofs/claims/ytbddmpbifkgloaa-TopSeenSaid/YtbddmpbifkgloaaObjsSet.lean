/- objects.Get, objects.Set: they return what the plain law says. Conditions: numbers rise; few objects. -/
import Derived.Test.YtbddmpbifkgloaaObjsInsert
import Derived.Test.YtbddmpbifkgloaaObjsFind
namespace Fb
open Go Go.Proofs Go.RowKit Go.Sort
def zeroO : FAt FObj := ⟨⟨0, 0, 0, ⟨0, 0, []⟩, ⟨0, 0, 0, 0⟩, false⟩, none, 0, 0⟩
def getR (id : Int) (rs : List (FAt FObj)) : Option (FAt FObj) := rs.find? (fun r => decide (r.x.id = id))
def getV : Option (FAt FObj) → Value
  | some r => .tuple #[objV r, .bool true]
  | none => .tuple #[objV zeroO, .bool false]
theorem getR_dat (id : Int) (rs : List (FAt FObj)) : getP id (dat rs) = (getR id rs).map (·.x) := by
  unfold getP getR dat
  rw [List.find?_map]
  rfl
theorem getR_mem {id : Int} {rs : List (FAt FObj)} {r : FAt FObj} (h : getR id rs = some r) : r ∈ rs ∧ r.x.id = id := by
  unfold getR at h
  exact ⟨List.mem_of_find?_eq_some h, by have := List.find?_some h; simpa using this⟩
theorem getR_is {id : Int} {rs : List (FAt FObj)} {i : Nat} (hl : LowAt rs id i) (h : i < rs.length) (h2 : rs[i].x.id = id) : getR id rs = some rs[i] := by
  unfold getR
  rw [List.find?_eq_some_iff_getElem]
  refine ⟨by simpa using h2, i, h, rfl, fun j hj => ?_⟩
  have := hl.2.1 j (by omega) hj
  simp
  omega
theorem getR_no {id : Int} {rs : List (FAt FObj)} {i : Nat} (hr : Rise (dat rs)) (hl : LowAt rs id i) (h : isAt rs id i = false) : getR id rs = none := by
  unfold getR
  rw [List.find?_eq_none]
  intro o ho
  obtain ⟨k, hk, rfl⟩ := List.getElem_of_mem ho
  unfold isAt at h
  rw [decide_eq_false_iff_not] at h
  have h1 := hl.2.1 k hk
  have h2 := hl.2.2 k hk
  simp
  intro he
  by_cases hki : k < i
  · have := h1 hki; omega
  · apply h
    have h3 := rise_ids hr (i := i) (j := k) (by omega) hk
    have h4 := hl.2.2 i (by omega) (by omega)
    exact ⟨by omega, by omega⟩
theorem isAt_true {rs : List (FAt FObj)} {id : Int} {i : Nat} (h : isAt rs id i = true) : ∃ h : i < rs.length, rs[i].x.id = id := by unfold isAt at h; simpa using h
set_option maxRecDepth 100000 in
set_option maxHeartbeats 1600000 in
theorem get_any (A : Option Addr) (n c : Nat) (rs : List (FAt FObj)) (t : Int) (w : World) (h : Objs w A n rs) (hr : Rise (dat rs)) (hn : n ≤ 1000) :
    Calls Try.prog 13 #[.slice A n c, .int .i64 t] w (Ret (getV (getR t rs)) w) := by
  have Hf := hid (fun W (hb : Below w.heap.size w W) => find_any A n c rs t W (h.below hb) hr hn)
  have Hl := hid h.1
  have HO := hid h
  have HR := hid hr
  clear h hr
  go_enter Try.func13, Try.ntmps13
  go_wp2_with fail
  refine (Hf.out _ (by (repeat (first | with_reducible exact Below.refl _ _ | with_reducible refine Below.alloc ?_ (by simp; try omega) _ | with_reducible refine Below.setCell ?_ (by simp; try omega) _ | with_reducible refine below_drewN ?_ _ | with_reducible refine Below.drew ?_)))).mono ?_
  rintro e w1 ⟨i, rfl, hl, hb⟩
  have hl' := hid hl
  clear hl
  obtain ⟨hc, hf⟩ := bcell hb
  have hb0 : Below w.heap.size w w1 := (((Below.refl w.heap.size w).alloc (Nat.le_refl _) _).trans (hb.mono (by simp)))
  have hz : w.heap.size < w1.heap.size := by have := hb.size; simp at this; omega
  cases hi : isAt rs t i with
  | false =>
    have hg := hid (getR_no HR.out hl'.out hi)
    clear hi
    go_wp2_with fail
    refine bodyPost_ret (v := .tuple #[.agg #[.int .i64 0, .int .i64 0, .int .i64 0, .int .i64 0, .int .i64 0, .slice none 0 0, .int .i64 0, .int .i64 0, .int .i64 0, .int .i64 0, .bool false], .bool false]) (by simp [results, Try.results13, go_sem, hc, hz]) rfl ⟨by rw [hg.out]; rfl, ?_⟩
    (repeat refine Below.setCell ?_ (by simp) _)
    exact hb0
  | true =>
    obtain ⟨h1, h2⟩ := isAt_true hi
    have hg := hid (getR_is hl'.out h1 h2)
    obtain ⟨b, off, rfl, hbs, hco⟩ := HO.out.open_ (by rw [← Hl.out]; omega)
    obtain ⟨d0, d1, d2, d3, d4, d5, d6, d7, d8, d9, d10⟩ := hco.cells (Below.refl _ _) hbs h1
    have q1 : (i : Int) < (n : Int) := by rw [Hl.out] at h1; omega
    generalize rs[i] = r at *
    clear hi h1 h2 hco
    go_wp2_with fail
    refine bodyPost_ret (v := .tuple #[.agg #[.int .i64 r.x.id, .int .i64 r.x.x, .int .i64 r.x.y, .int .i64 r.x.pic.w, .int .i64 r.x.pic.h, .slice r.A r.n r.c, .int .i64 r.x.clip.x, .int .i64 r.x.clip.y, .int .i64 r.x.clip.w, .int .i64 r.x.clip.h, .bool r.x.shown], .bool true]) (by simp [results, Try.results13, go_sem, hc, hz]) rfl ⟨by rw [hg.out]; rfl, ?_⟩
    (repeat refine Below.setCell ?_ (by simp) _)
    exact hb0
/-! ## Set -/
theorem set11 (P Q : List Value) (a0 a1 a2 a3 a4 a5 a6 a7 a8 a9 a10 b0 b1 b2 b3 b4 b5 b6 b7 b8 b9 b10 : Value) :
    (((((((((((P ++ ([a0, a1, a2, a3, a4, a5, a6, a7, a8, a9, a10] ++ Q)).set P.length b0).set (P.length + 1) b1).set (P.length + 2) b2).set (P.length + 3) b3).set (P.length + 4) b4).set (P.length + 5) b5).set (P.length + 6) b6).set (P.length + 7) b7).set (P.length + 8) b8).set (P.length + 9) b9).set (P.length + 10) b10 = P ++ ([b0, b1, b2, b3, b4, b5, b6, b7, b8, b9, b10] ++ Q) := by
  simp [List.set_append]
theorem set_flat {rs : List (FAt FObj)} {i : Nat} (h : i < rs.length) (r : FAt FObj) : rs.flatMap obCells = (rs.take i).flatMap obCells ++ (obCells rs[i] ++ (rs.drop (i + 1)).flatMap obCells) ∧ (rs.set i r).flatMap obCells = (rs.take i).flatMap obCells ++ (obCells r ++ (rs.drop (i + 1)).flatMap obCells) := by
  constructor
  · conv => lhs; rw [← List.take_append_drop i rs, List.drop_eq_getElem_cons h]
    rw [List.flatMap_append, List.flatMap_cons]
  · rw [List.set_eq_take_append_cons_drop, if_pos h, List.flatMap_append, List.flatMap_cons]
def setCells11 (w : World) (g o : Nat) (r : FAt FObj) : World :=
  ((((((((((w.setCell ⟨g, o, none⟩ (.int .i64 r.x.id)).setCell ⟨g, o + 1, none⟩ (.int .i64 r.x.x)).setCell ⟨g, o + 2, none⟩ (.int .i64 r.x.y)).setCell ⟨g, o + 3, none⟩ (.int .i64 r.x.pic.w)).setCell ⟨g, o + 4, none⟩ (.int .i64 r.x.pic.h)).setCell ⟨g, o + 5, none⟩ (.slice r.A r.n r.c)).setCell ⟨g, o + 6, none⟩ (.int .i64 r.x.clip.x)).setCell
    ⟨g, o + 7, none⟩ (.int .i64 r.x.clip.y)).setCell ⟨g, o + 8, none⟩ (.int .i64 r.x.clip.w)).setCell ⟨g, o + 9, none⟩ (.int .i64 r.x.clip.h)).setCell ⟨g, o + 10, none⟩ (.bool r.x.shown)
theorem own_set11 {rs : List (FAt FObj)} {B g n c i : Nat} {w : World} (hN : rs.length = n) (hi : i < n) (r : FAt FObj) (h : w.ownsRow B 29 11 (.slice (some ⟨g, 0, none⟩) n c) n (rs.flatMap obCells)) :
    (setCells11 w g (i * 11) r).ownsRow B 29 11 (.slice (some ⟨g, 0, none⟩) n c) n ((rs.set i r).flatMap obCells) := by
  have hl : i < rs.length := by omega
  obtain ⟨e1, e2⟩ := set_flat hl r
  have hp : ((rs.take i).flatMap obCells).length = i * 11 := by rw [ob_len, List.length_take]; omega
  have h2 := (((((((((((h.stored (i * 11) (.int .i64 r.x.id)).1.stored (i * 11 + 1) (.int .i64 r.x.x)).1.stored (i * 11 + 2) (.int .i64 r.x.y)).1.stored (i * 11 + 3) (.int .i64 r.x.pic.w)).1.stored (i * 11 + 4) (.int .i64 r.x.pic.h)).1.stored (i * 11 + 5) (.slice r.A r.n r.c)).1.stored (i * 11 + 6) (.int .i64 r.x.clip.x)).1.stored (i * 11 + 7) (.int .i64 r.x.clip.y)).1.stored (i * 11 + 8) (.int .i64 r.x.clip.w)).1.stored (i * 11 + 9) (.int .i64 r.x.clip.h)).1.stored (i * 11 + 10) (.bool r.x.shown)).1
  rw [e1, ← hp] at h2
  rw [e2]
  generalize (rs.take i).flatMap obCells = P at *
  generalize (rs.drop (i + 1)).flatMap obCells = Q at *
  unfold obCells at h2 ⊢
  rw [set11] at h2
  rw [hp] at h2
  exact h2
theorem own_objs {rs : List (FAt FObj)} {B : Nat} {w : World} {v : Value} (h : OwnObjs rs B w v) (hp : ∀ r ∈ rs, Pixs w r.A r.n r.x.pic.p) : ∃ A c, v = .slice A rs.length c ∧ rs.length ≤ c ∧ c ≤ maxLen ∧ Objs w A rs.length rs := by
  obtain ⟨A, c, rfl, -, h1, h2⟩ := own_slice h
  exact ⟨A, c, rfl, h1, h2, rfl, Row.of_own h, hp⟩
theorem objs_pix {w : World} {A : Option Addr} {n : Nat} {rs : List (FAt FObj)} (h : Objs w A n rs) : ∀ r ∈ rs, Pixs w r.A r.n r.x.pic.p := h.2.2
theorem dat_take (rs : List (FAt FObj)) (i : Nat) : dat (rs.take i) = (dat rs).take i := by unfold dat; rw [List.map_take]
theorem dat_drop (rs : List (FAt FObj)) (i : Nat) : dat (rs.drop i) = (dat rs).drop i := by unfold dat; rw [List.map_drop]
theorem dat_ins {rs : List (FAt FObj)} {r : FAt FObj} {i : Nat} (hr : Rise (dat rs)) (hl : LowAt rs r.x.id i) (h : isAt rs r.x.id i = false) : dat (rs.take i ++ r :: rs.drop i) = setP r.x (dat rs) := by
  have e : setP r.x (dat rs) = (dat rs).take i ++ r.x :: (dat rs).drop i := by
    refine set_new (by rw [dat_len]; exact hl.1) (fun k hk hki => ?_) (fun hk => ?_)
    · rw [dat_len] at hk; rw [dat_at hk]; exact hl.2.1 k hk hki
    · rw [dat_len] at hk; rw [dat_at hk]
      have h1 := hl.2.2 i hk (Nat.le_refl _)
      unfold isAt at h
      rw [decide_eq_false_iff_not] at h
      have : rs[i].x.id ≠ r.x.id := fun e => h ⟨hk, e⟩
      omega
  rw [e, ← dat_take, ← dat_drop]
  simp [dat]
theorem dat_set {rs : List (FAt FObj)} {r : FAt FObj} {i : Nat} (hl : LowAt rs r.x.id i) (h : isAt rs r.x.id i = true) : dat (rs.set i r) = setP r.x (dat rs) := by
  obtain ⟨h1, h2⟩ := isAt_true h
  rw [set_is (i := i) (by rw [dat_len]; exact h1) (fun k hk hki => by rw [dat_len] at hk; rw [dat_at hk]; exact hl.2.1 k hk hki) (by rw [dat_at h1]; exact h2)]
  unfold dat
  rw [List.map_set]
theorem own_cells11 {rs : List (FAt FObj)} {B g n c i : Nat} {w : World} (hN : rs.length = n) (hi : i < n) (h : w.ownsRow B 29 11 (.slice (some ⟨g, 0, none⟩) n c) n (rs.flatMap obCells)) : ∃ q, ObCells w g (i * 11) q := by
  have hq : rs[i]? = some (rs[i]'(by omega)) := List.getElem?_eq_getElem (by omega)
  have f := fun j hj => own_cell (cel := obCells) (size := 11) (fun _ => rfl) h (k := i) (j := j) hq hj
  exact ⟨_, f 0 (by omega), f 1 (by omega), f 2 (by omega), f 3 (by omega), f 4 (by omega), f 5 (by omega), f 6 (by omega), f 7 (by omega), f 8 (by omega), f 9 (by omega), f 10 (by omega)⟩
set_option maxRecDepth 100000 in
set_option maxHeartbeats 3200000 in
theorem set_any (A : Option Addr) (n c : Nat) (rs : List (FAt FObj)) (r : FAt FObj) (w : World) (h : Objs w A n rs) (hp : Pixs w r.A r.n r.x.pic.p) (hr : Rise (dat rs)) (hn : n ≤ 1000) :
    Calls Try.prog 17 #[.slice A n c, objV r] w (RetObjs (setP r.x (dat rs)) w) := by
  have Hl := hid h.1
  have HO := hid h
  have HR := hid hr
  have Hp := hid hp
  have Hcl := hid (fun W (hb : Below w.heap.size w W) => cloneob_any A n c rs W (h.below hb) (by omega))
  clear h hr hp
  go_enter Try.func17, Try.ntmps17
  go_wp2_with fail
  obtain ⟨W0, hW0⟩ : ∃ W0, W0 = w.alloc (.cells #[.int .i64 r.x.id, .int .i64 r.x.x, .int .i64 r.x.y, .int .i64 r.x.pic.w, .int .i64 r.x.pic.h, .slice r.A r.n r.c, .int .i64 r.x.clip.x, .int .i64 r.x.clip.y, .int .i64 r.x.clip.w, .int .i64 r.x.clip.h, .bool r.x.shown] 29) := ⟨_, rfl⟩
  have hB0 : Below w.heap.size w W0 := by rw [hW0]; exact (Below.refl w.heap.size w).alloc (Nat.le_refl _) _
  have z0 : w.heap.size + 1 ≤ W0.heap.size := by rw [hW0]; simp
  have CE0 : Hid (ObBox W0 w.heap.size r) := by show ObBox _ _ _; rw [hW0]; refine ⟨?_, ?_, ?_, ?_, ?_, ?_, ?_, ?_, ?_, ?_, ?_⟩ <;> simp
  rw [← hW0]
  clear hW0
  refine (Hcl.out W0 hB0).mono ?_
  rintro e w1 ⟨V, rfl, hV, hb1⟩
  have HV := hid hV
  have hB1 := bnext hB0 hb1
  have CE1 := hid (CE0.out.below hb1 (by omega))
  have z1 : w.heap.size + 1 ≤ w1.heap.size := Nat.le_trans z0 hb1.size
  have hz1 : W0.heap.size ≤ w1.heap.size := hb1.size
  clear hV CE0 hb1 hB0
  obtain ⟨A1, c1, rfl, hc1, hc2, ho1⟩ := own_objs HV.out (fun q hq => (HO.out.2.2 q hq).below hB1)
  have Ho1 := hid ho1
  clear ho1
  rw [Hl.out] at hc1 Ho1 ⊢
  obtain ⟨c0, c1, c2, c3, c4, c5, c6, c7, c8, c9, c10⟩ := CE1.out
  go_wp2_with fail
  refine (find_any _ _ _ rs _ _ Ho1.out HR.out hn).mono ?_
  rintro e w2 ⟨i, rfl, hl, hb2⟩
  clear c0 c1 c2 c3 c4 c5 c6 c7 c8 c9 c10
  have Hlow := hid hl
  have HB2 := bnext hB1 hb2
  have CE2 := hid (CE1.out.below hb2 (by omega))
  have HV2 := hid (own_keep HV.out hb2)
  have z2 : w.heap.size + 1 ≤ w2.heap.size := Nat.le_trans z1 hb2.size
  have hz2 : W0.heap.size ≤ w2.heap.size := Nat.le_trans hz1 hb2.size
  have hin := hid hl.1
  clear hl CE1 HV hB1 hz1 z1 hb2 Ho1
  obtain ⟨c0, c1', c2, c3, c4, c5, c6, c7, c8, c9, c10⟩ := CE2.out
  cases hi : isAt rs r.x.id i with
  | true =>
    have hdat := hid (dat_set Hlow.out hi)
    obtain ⟨h1, -⟩ := isAt_true hi
    rw [Hl.out] at h1
    rw [Hl.out] at HV2
    rcases own_form HV2.out with ⟨-, h0⟩ | ⟨g, c', hV, hg, hgs, hnc, hcm, -⟩
    · omega
    injection hV with hV1 hV2 hV3
    subst hV1 hV3
    have hne : w.heap.size ≠ g := by omega
    obtain ⟨q, d0, d1, d2, d3, d4, d5, d6, d7, d8, d9, d10⟩ := own_cells11 Hl.out h1 HV2.out
    have FZ := fun o => HV2.out.frozenAt o
    have hset := hid (own_set11 Hl.out h1 r HV2.out)
    have hlen := hid (show (rs.set i r).length = n by rw [List.length_set, Hl.out])
    have q1 : (i : Int) < (n : Int) := by omega
    clear hi
    go_wp2_with fail
    go_ret
    have hbl : Below w.heap.size w (setCells11 w2 g (i * 11) r) := by
      unfold setCells11
      (repeat refine Below.setCell ?_ (by simp; omega) _)
      exact HB2
    refine ⟨_, n, c1, rs.set i r, rfl, ⟨hlen.out, Row.of_own hset.out, fun q hq => ?_⟩, hdat.out, hbl⟩
    rcases List.mem_or_eq_of_mem_set hq with hq | rfl
    · exact (HO.out.2.2 q hq).below hbl
    · exact Hp.out.below hbl
  | false =>
    have hdat := hid (dat_ins HR.out Hlow.out hi)
    clear hi
    have hI := fun W (hb : Below w2.heap.size w2 W) (hv : W.heap[w2.heap.size]? = some (.cells (obCells r).toArray 29 (0, 0))) => insert_any rs r W0.heap.size i (.slice A1 rs.length c1) w2.heap.size W (by rw [Hl.out]; exact hn) hin.out (Nat.le_trans hz2 hb.size) (own_keep HV2.out hb) (fun g hg => by
      have := (HV2.out.lt g hg).2; omega) hv
    rw [Hl.out] at hI
    have HI := hid hI
    clear hI
    go_wp2_with fail
    refine (HI.out _ (by (repeat (first | with_reducible exact Below.refl _ _ | with_reducible refine Below.alloc ?_ (by simp; try omega) _ | with_reducible refine Below.setCell ?_ (by simp; try omega) _ | with_reducible refine below_drewN ?_ _ | with_reducible refine Below.drew ?_))) (heap_alloc_new w2 _)).mono ?_
    rintro e w3 ⟨v, rfl, hv3, hb3⟩
    have HV3 := hid hv3
    have HB3 : Below w.heap.size w w3 := (HB2.alloc (by omega) _).trans (hb3.mono (by omega))
    clear hv3 hb3
    obtain ⟨A3, c3', rfl, -, -, ho⟩ := own_objs HV3.out (fun q hq => by
      rcases List.mem_append.1 hq with hq | hq
      · exact (HO.out.2.2 q (List.mem_of_mem_take hq)).below HB3
      · rcases List.mem_cons.1 hq with rfl | hq
        · exact Hp.out.below HB3
        · exact (HO.out.2.2 q (List.mem_of_mem_drop hq)).below HB3)
    have Ho := hid ho
    clear ho
    generalize (rs.take i ++ r :: rs.drop i) = rs3 at *
    generalize rs3.length = m at *
    go_wp2_with fail
    go_ret
    exact ⟨_, _, _, rs3, rfl, Ho.out, hdat.out, HB3⟩
end Fb
