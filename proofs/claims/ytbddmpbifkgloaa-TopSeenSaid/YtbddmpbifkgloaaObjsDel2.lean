/- slices.DeleteFunc at objects, of a number: what is left. Conditions: the slice is the call's own; few elements. -/
import Derived.Test.YtbddmpbifkgloaaObjsDelete
namespace Fb
open Go Go.Proofs Go.RowKit Go.Sort
/-- a new box that holds the object -/
def box11 (w : World) (r : FAt FObj) : World := w.alloc (.cells #[.int .i64 r.x.id, .int .i64 r.x.x, .int .i64 r.x.y, .int .i64 r.x.pic.w, .int .i64 r.x.pic.h, .slice r.A r.n r.c, .int .i64 r.x.clip.x, .int .i64 r.x.clip.y, .int .i64 r.x.clip.w, .int .i64 r.x.clip.h, .bool r.x.shown] 29)
theorem box11_at (w : World) (r : FAt FObj) : ObBox (box11 w r) w.heap.size r := by
  unfold box11
  refine ⟨?_, ?_, ?_, ?_, ?_, ?_, ?_, ?_, ?_, ?_, ?_⟩ <;> go_simp
theorem box11_below (w : World) (r : FAt FObj) : Below w.heap.size w (box11 w r) ∧ (box11 w r).heap.size = w.heap.size + 1 := by
  unfold box11
  exact ⟨(Below.refl _ _).alloc (Nat.le_refl _) _, by simp⟩
/-- what is left of the objects -/
def dropR (id : Int) (rs : List (FAt FObj)) : List (FAt FObj) := rs.filter (fun r => decide (r.x.id ≠ id))
theorem dropR_dat (id : Int) (rs : List (FAt FObj)) : dat (dropR id rs) = dropP id (dat rs) := by
  unfold dat dropR dropP
  rw [List.filter_map]
  rfl
def RetDel (rs : List (FAt FObj)) (id : Int) (B : Nat) (w : World) (e : Ending) (w' : World) : Prop := ∃ v, e = .returned v ∧ OwnObjs (dropR id rs) B w' v ∧ Below B w w'
/-- the row, half done: up to i what is left of the first j; from j on as it was -/
structure Half (rs L : List (FAt FObj)) (id : Int) (i j : Nat) : Prop where
  len : L.length = rs.length
  low : L.take i = dropR id (rs.take j)
  high : L.drop j = rs.drop j
  lt : i < j
  le : j ≤ rs.length
theorem Half.at_ {rs L : List (FAt FObj)} {id : Int} {i j : Nat} (h : Half rs L id i j) (hj : j < rs.length) : L[j]'(by rw [h.len]; exact hj) = rs[j] := by
  have e := congrArg (fun l => l[0]?) h.high
  simp only [List.getElem?_drop, Nat.add_zero] at e
  rw [List.getElem?_eq_getElem (by rw [h.len]; exact hj), List.getElem?_eq_getElem hj] at e
  exact Option.some.inj e
theorem Half.keep {rs L : List (FAt FObj)} {id : Int} {i j : Nat} (h : Half rs L id i j) (hj : j < rs.length) (hx : rs[j].x.id ≠ id) : Half rs (L.set i rs[j]) id (i + 1) (j + 1) := by
  have hl := h.len
  have hlt := h.lt
  refine ⟨by rw [List.length_set, hl], ?_, ?_, by omega, by omega⟩
  · rw [List.take_succ_eq_append_getElem (by rw [List.length_set]; omega), List.take_set_of_le (Nat.le_refl i), h.low, List.getElem_set_self, List.take_succ_eq_append_getElem hj]
    unfold dropR
    rw [List.filter_append]
    simp [hx]
  · rw [List.drop_set_of_lt (by omega)]
    have e := congrArg (fun l => l.drop 1) h.high
    simpa using e
theorem Half.skip {rs L : List (FAt FObj)} {id : Int} {i j : Nat} (h : Half rs L id i j) (hj : j < rs.length) (hx : rs[j].x.id = id) : Half rs L id i (j + 1) := by
  refine ⟨h.len, ?_, ?_, by have := h.lt; omega, by omega⟩
  · rw [h.low, List.take_succ_eq_append_getElem hj]
    unfold dropR
    rw [List.filter_append]
    simp [hx]
  · have e := congrArg (fun l => l.drop 1) h.high
    simpa using e
theorem Half.start {rs : List (FAt FObj)} {id : Int} {k : Nat} (hk : k < rs.length) (h : ∀ j (h : j < rs.length), j < k → rs[j].x.id ≠ id) (hx : rs[k].x.id = id) : Half rs rs id k (k + 1) := by
  refine ⟨rfl, ?_, rfl, by omega, by omega⟩
  rw [List.take_succ_eq_append_getElem hk]
  unfold dropR
  rw [List.filter_append, List.filter_eq_self.2 (fun r hr => by
    obtain ⟨j, hj, rfl⟩ := List.getElem_of_mem hr
    rw [List.length_take] at hj
    rw [List.getElem_take]
    simpa using h j (by omega) (by omega))]
  simp [hx]
theorem Half.done {rs L : List (FAt FObj)} {id : Int} {i j : Nat} (h : Half rs L id i j) (hj : j = rs.length) : L.take i = dropR id rs ∧ (dropR id rs).length = i := by
  have e : L.take i = dropR id rs := by rw [h.low, hj, List.take_length]
  refine ⟨e, ?_⟩
  rw [← e, List.length_take, h.len]
  have := h.lt
  omega
theorem dropR_none {rs : List (FAt FObj)} {id : Int} (h : ∀ r ∈ rs, r.x.id ≠ id) : dropR id rs = rs := by
  unfold dropR
  rw [List.filter_eq_self]
  intro r hr
  simpa using h r hr
set_option maxRecDepth 100000 in
set_option maxHeartbeats 3200000 in
theorem delete_any (rs : List (FAt FObj)) (n : Nat) (hN : rs.length = n) (id : Int) (bo B : Nat) (V : Value) (w : World) (hn : n ≤ 1000) (hB : B ≤ w.heap.size) (h : OwnObjs rs B w V) (hp : ∀ r ∈ rs, Pixs w r.A r.n r.x.pic.p)
    (hb : w.cell? ⟨bo, 1, none⟩ = some (.int .i64 id)) (hbo : bo < B) :
    Calls Try.prog 41 #[V, .func (.func 42) #[] #[.pointer (some ⟨bo, 0, none⟩)]] w (RetDel rs id B w) := by
  obtain ⟨A, c, rfl, hnc, hcm, hobj⟩ := own_objs h hp
  have Hl := hid hN
  have HO := hid h
  have Hbo := hid hb
  rw [hN] at hnc hobj ⊢
  have Hidx := hid (indexid_any A n c rs id bo w hobj hn hb (by omega))
  have hform := own_form h
  rw [hN] at hform
  have HF := hid hform
  clear h hb hobj hp hN hform
  go_enter Try.func41, Try.ntmps41
  go_wp2_with fail
  refine Hidx.out.mono ?_
  rintro e w1 ⟨q, rfl, ⟨rfl, hno⟩ | ⟨k, rfl, hkn, hlow, hk2, hhit⟩, hb1⟩
  · have hr := hid (dropR_none hno)
    clear hno
    go_wp2_with fail
    go_ret
    refine ⟨_, rfl, ?_, hb1.mono hB⟩
    rw [hr.out, ← Hl.out]
    exact own_keep HO.out hb1
  · have hst := hid (Half.start hkn hlow hhit)
    have HO1 := hid (own_keep HO.out hb1)
    have hB1 : Below B w w1 := hb1.mono hB
    rw [Hl.out] at HO1 hkn
    rcases HF.out with ⟨-, h0⟩ | ⟨g, c', hV, hg, hgs, -, -, -⟩
    · omega
    injection hV with hV1 hV2 hV3
    subst hV1 hV3
    clear hlow hhit HO hb1 HF hV2
    have hk1 : ((k : Int) == -1) = false := beq_eq_false_iff_ne.2 (by omega)
    go_wp2_with fail
    go_loopw [5, 6, 7] (fun a b _ wr => ∃ (i j : Nat) (L : List (FAt FObj)), a = .int .i64 i ∧ b = .int .i64 j ∧ i < j ∧ j ≤ n ∧ Hid (Half rs L id i j) ∧ Hid (wr.ownsRow B 29 11 (.slice (some ⟨g, 0, none⟩) n c) n (L.flatMap obCells)) ∧ Below B w wr) (fun _ b _ _ => n - (intOf b).toNat)
    case atStart => exact ⟨k, k + 1, rs, rfl, by go_num, by omega, by omega, hst, HO1, hB1⟩
    case round =>
      clear hst HO1 hB1
      obtain ⟨i, j, L, rfl, rfl, hij, hjn, HH, HR, hbel⟩ := hrel
      have hgr : g < wr.heap.size := (HR.out.lt g rfl).2
      have hBr : B ≤ wr.heap.size := by omega
      by_cases hlt : j < n
      · have j1 : j < rs.length := by rw [Hl.out]; exact hlt
        have hL : L.length = n := by rw [HH.out.len, Hl.out]
        obtain ⟨d0, d1, d2, d3, d4, d5, d6, d7, d8, d9, d10⟩ : ObCells wr g (j * 11) rs[j] := by
          have hq : L[j]? = some rs[j] := by rw [List.getElem?_eq_getElem (by rw [hL]; exact hlt), HH.out.at_ j1]
          have f := fun t ht => own_cell (cel := obCells) (size := 11) (fun _ => rfl) HR.out (k := j) (j := t) hq ht
          exact ⟨f 0 (by omega), f 1 (by omega), f 2 (by omega), f 3 (by omega), f 4 (by omega), f 5 (by omega), f 6 (by omega), f 7 (by omega), f 8 (by omega), f 9 (by omega), f 10 (by omega)⟩
        have q2 : (j : Int) < (n : Int) := by omega
        have Hk := hid (fun hx => HH.out.keep j1 hx)
        have Hs := hid (fun hx => HH.out.skip j1 hx)
        have hL2 := hid hL
        generalize rs[j] = r at *
        have hbx := box11_below wr r
        have hcb : (box11 wr r).cell? ⟨bo, 1, none⟩ = some (.int .i64 id) := (hbx.1.cell (p := ⟨bo, 1, none⟩) (show bo < wr.heap.size by omega)).trans ((hbel.cell (p := ⟨bo, 1, none⟩) hbo).trans Hbo.out)
        have Hc := hid (doid_any r id bo (box11 wr r) hcb (by rw [hbx.2]; omega))
        clear hcb hL HH
        go_wp2_with fail
        refine Hc.out.mono ?_
        rintro e w2 ⟨rfl, hb2⟩
        have hb3 : Below wr.heap.size wr w2 := hbx.1.trans (hb2.mono (by omega))
        have CE := hid ((box11_at wr r).below hb2 (by omega))
        have HR2 := hid (own_keep HR.out hb3)
        have hbel2 : Below B w w2 := hbel.trans (hb3.mono hBr)
        have hz2 : wr.heap.size < w2.heap.size := by have := hb2.size; omega
        clear hb2 hbx HR hbel Hc d0 d1 d2 d3 d4 d5 d6 d7 d8 d9 d10
        by_cases hx : r.x.id = id
        · have hh := hid (Hs.out hx)
          rw [show decide (r.x.id = id) = true by simp [hx]]
          clear hx Hk Hs
          go_wp2_with fail
          go_roundw
          case rel => exact ⟨i, j + 1, L, rfl, by go_num, by omega, by omega, hh, HR2, hbel2⟩
          case measure => simp [intOf]; omega
        · have hh := hid (Hk.out hx)
          rw [show decide (r.x.id = id) = false by simp [hx]]
          clear hx Hk Hs
          obtain ⟨c0, c1', c2, c3, c4, c5, c6, c7, c8, c9, c10⟩ := CE.out
          obtain ⟨q, d0, d1, d2, d3, d4, d5, d6, d7, d8, d9, d10⟩ := own_cells11 hL2.out (show i < n by omega) HR2.out
          have FZ := fun o => HR2.out.frozenAt o
          have hset := hid (own_set11 hL2.out (show i < n by omega) r HR2.out)
          have q3 : (i : Int) < (n : Int) := by omega
          have hne : wr.heap.size ≠ g := by omega
          have hbl : Below B w (setCells11 w2 g (i * 11) r) := by
            unfold setCells11
            (repeat refine Below.setCell ?_ (by simp; omega) _)
            exact hbel2
          unfold setCells11 at hset hbl
          go_wp2_with fail
          go_roundw
          case rel => exact ⟨i + 1, j + 1, L.set i r, by go_num, by go_num, by omega, by omega, hh, hset, hbl⟩
          case measure => simp [intOf]; omega
      · obtain rfl : j = n := by omega
        have hL : L.length = j := by rw [HH.out.len, Hl.out]
        obtain ⟨e1, e2⟩ := HH.out.done Hl.out.symm
        rcases own_form HR.out with ⟨h0, -⟩ | ⟨g', c', hV, -, -, -, -, R, hh, hR⟩
        · cases h0
        injection hV with hV1 hV2 hV3
        injection hV1 with hV1
        injection hV1 with hV1
        subst hV1 hV3
        have hlc : (L.flatMap obCells).length = j * 11 := by rw [ob_len, hL]
        obtain ⟨w4, hrun, hh4, hb4⟩ := clear_into (w := wr) (o := i * 11) (k := j - i) (c := c - i) hh (by omega) (by rw [List.length_append, hlc]; omega)
        have hbl := hb4.out B w hbel hg
        have hfin := hid (show OwnObjs (dropR id rs) B w4 (.slice (some ⟨g, 0, none⟩) i c) from by
          unfold OwnObjs
          rw [e2]
          have e := hh4.out
          unfold splice at e
          have hz : (Builtin.zeroCells zeroObV.cells (j - i)).toList.length = (j - i) * 11 := zeros_len _ (j - i) rfl
          rw [List.take_append, show i * 11 - (L.flatMap obCells).length = 0 by rw [hlc]; omega, List.take_zero, List.append_nil, ob_take, e1] at e
          refine own_of hg e (by rw [ob_len, e2]) (by omega) hcm ?_
          rw [List.length_append, List.length_drop, List.length_append, hz, hlc]
          omega)
        have q3 : (i : Int) ≤ (j : Int) := by omega
        have b4 : ¬ c = i := by omega
        clear hh4 hb4 hh hR HH HR hbel e1 e2 hL hlc
        go_wp2_with fail
        go_ret
        exact ⟨_, rfl, hfin.out, hbl⟩
end Fb
