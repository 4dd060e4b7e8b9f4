/- slices.IndexFunc, slices.DeleteFunc at objects, of a number: what is left. Conditions: the slice is the call's own; few elements. slices.DeleteFunc at objects, of a number: what is left. Conditions: the slice is the call's own; few elements. objects.Do: it returns what the plain law says. Conditions: objects that may be and rise, an op that may be. objects.Do: it returns what the plain law says, whatever the op. Conditions: objects that may be and rise, an op that may be. -/
import Derived.Test.YtgkemeclpidmcaaObjsA
import Derived.Lib.SliceRun
import Derived.Test.YtgkemeclpidmcaaBlendAdd
import Derived.RegionTactic
import Derived.BigRegion
import Derived.Test.YtgkemeclpidmcaaOpWalk
namespace Fb
open Go Go.Proofs Go.RowKit Go.Sort
def zeroObV : Value := .agg #[.int .i64 0, .int .i64 0, .int .i64 0, .int .i64 0, .int .i64 0, .slice none 0 0, .int .i64 0, .int .i64 0, .int .i64 0, .int .i64 0, .bool false]
theorem zero_ob (w : World) : (zeroValue 89).run Try.prog w = .ok zeroObV w := by kernel_rfl
theorem zero_one {k : Nat} {u : Value} (h : u ∈ (Builtin.zeroCells zeroObV.cells k).toList) : u.oneCell' = true := by
  unfold Builtin.zeroCells at h
  simp only [Array.toList_map, List.mem_map, Array.mem_toList_iff, Array.mem_range] at h
  obtain ⟨i, -, rfl⟩ := h
  have hs : zeroObV.cells.size = 11 := rfl
  rw [hs]
  have hl : i % 11 < 11 := Nat.mod_lt _ (by omega)
  rcases (show i % 11 = 0 ∨ i % 11 = 1 ∨ i % 11 = 2 ∨ i % 11 = 3 ∨ i % 11 = 4 ∨ i % 11 = 5 ∨ i % 11 = 6 ∨ i % 11 = 7 ∨ i % 11 = 8 ∨ i % 11 = 9 ∨ i % 11 = 10 by omega) with e | e | e | e | e | e | e | e | e | e | e <;> rw [e] <;> rfl
theorem clear_into {w : World} {g o k c : Nat} {cur : List Value} (hg : w.heap[g]? = some (.cells cur.toArray 89 (0, 0))) (hk : 0 < k) (hfit : o + k * 11 ≤ cur.length) :
    ∃ w4, (∀ ty, (Builtin.clear_ #[40] ty #[.slice (some ⟨g, o, none⟩) k c]).run Try.prog w = .ok (.tuple #[]) w4) ∧
      Hid (w4.heap[g]? = some (.cells (splice cur o (Builtin.zeroCells zeroObV.cells k).toList).toArray 89 (0, 0))) ∧ Hid (∀ B w0, Below B w0 w → B ≤ g → Below B w0 w4) := by
  have hz : (Builtin.zeroCells zeroObV.cells k).toList.length = k * 11 := zeros_len _ k rfl
  have hst := run_storeCells_at Try.prog g o 89 (Builtin.zeroCells zeroObV.cells k).toList 0 cur.toArray w hg (by simpa [size_zeroCells, hz] using (show o + (Builtin.zeroCells zeroObV.cells k).toList.length ≤ cur.length by rw [hz]; exact hfit)) (fun u hu => zero_one hu)
  obtain ⟨m, rfl⟩ : ∃ m, k = m + 1 := ⟨k - 1, by omega⟩
  refine ⟨w.setRow g (cur.toArray.toList.take o ++ (Builtin.zeroCells zeroObV.cells (m + 1)).toList ++ cur.toArray.toList.drop (o + (Builtin.zeroCells zeroObV.cells (m + 1)).toList.length)).toArray, ?_, ?_, ?_⟩
  · intro ty
    simp only [Nat.add_zero] at hst
    have hz2 := fun w => zero_ob w
    unfold zeroObV at hst hz2 ⊢
    simp [Builtin.clear_, run_underlying Try.underlying40, hz2]
    rw [hst]
    simp
  · show _ = _
    rw [setRow_heap w g _ _ 89 _ hg]; simp [splice]
  · exact fun B w0 hb hB => below_setRow hb hB _
set_option maxRecDepth 100000 in
set_option maxHeartbeats 800000 in
theorem doid_any (r : FAt FObj) (id : Int) (bo : Nat) (w : World) (h : w.cell? ⟨bo, 1, none⟩ = some (.int .i64 id)) (hb : bo < w.heap.size) :
    Calls Try.prog 63 #[objV r, .pointer (some ⟨bo, 0, none⟩)] w (Ret (.bool (decide (r.x.id = id))) w) := by
  have hne : bo ≠ w.heap.size := by omega
  by_cases he : r.x.id = id
  · have hr := hid (show decide (r.x.id = id) = true by simp [he])
    have hq : (r.x.id == id) = true := by simp [he]
    clear he
    go_enter Try.func63, Try.ntmps63
    go_wp2_with fail
    go_ret
    exact ⟨by rw [hr.out]; rfl, by (repeat (first | with_reducible exact Below.refl _ _ | with_reducible refine Below.alloc ?_ (by first | omega | (simp; done) | (simp; omega)) _ | with_reducible refine below_drewN ?_ _ | with_reducible refine Below.drew ?_))⟩
  · have hr := hid (show decide (r.x.id = id) = false by simp [he])
    have hq : (r.x.id == id) = false := by simp [he]
    clear he
    go_enter Try.func63, Try.ntmps63
    go_wp2_with fail
    go_ret
    exact ⟨by rw [hr.out]; rfl, by (repeat (first | with_reducible exact Below.refl _ _ | with_reducible refine Below.alloc ?_ (by first | omega | (simp; done) | (simp; omega)) _ | with_reducible refine below_drewN ?_ _ | with_reducible refine Below.drew ?_))⟩
/-- an index of the first object of the number; -1: there is none -/
def IdxId (rs : List (FAt FObj)) (id : Int) (w : World) (e : Ending) (w' : World) : Prop := ∃ q : Int, e = .returned (.int .i64 q) ∧
  ((q = -1 ∧ ∀ r ∈ rs, r.x.id ≠ id) ∨ ∃ k : Nat, q = k ∧ k < rs.length ∧ (∀ j (h : j < rs.length), j < k → rs[j].x.id ≠ id) ∧ ∃ h : k < rs.length, rs[k].x.id = id) ∧ Below w.heap.size w w'
set_option maxRecDepth 100000 in
set_option maxHeartbeats 1600000 in
theorem indexid_any (A : Option Addr) (n c : Nat) (rs : List (FAt FObj)) (id : Int) (bo : Nat) (w : World) (h : Objs w A n rs) (hn : n ≤ 1000) (hb : w.cell? ⟨bo, 1, none⟩ = some (.int .i64 id)) (hbo : bo < w.heap.size) :
    Calls Try.prog 80 #[.slice A n c, .func (.func 63) #[] #[.pointer (some ⟨bo, 0, none⟩)]] w (IdxId rs id w) := by
  have Hl := hid h.1
  have HO := hid h
  have Hbo := hid hb
  clear h hb
  go_enter Try.func80, Try.ntmps80
  go_wp2_with fail
  go_loopw [8] (fun i wr => ∃ k : Nat, k ≤ n ∧ i = .int .i64 k ∧ Hid (∀ j (h : j < rs.length), j < k → rs[j].x.id ≠ id) ∧ Below w.heap.size w wr) (fun i _ => n - (intOf i).toNat)
  case atStart => exact ⟨0, by omega, rfl, hid (fun j h hj => absurd hj (by omega)), Below.refl _ _⟩
  case round =>
    obtain ⟨k, hk, rfl, hz, hbel⟩ := hrel
    by_cases hlt : k < n
    · have k1 : k < rs.length := by rw [Hl.out]; exact hlt
      obtain ⟨b, off, rfl, hbs, hc⟩ := HO.out.open_ (by omega)
      obtain ⟨d0, d1, d2, d3, d4, d5, d6, d7, d8, d9, d10⟩ := hc.cells hbel hbs k1
      have q2 : (k : Int) < (n : Int) := by omega
      have Hhit := hid (fun h : rs[k].x.id = id => (⟨k, rfl, k1, hz.out, k1, h⟩ : ∃ k' : Nat, ((k : Nat) : Int) = k' ∧ k' < rs.length ∧ (∀ j (h : j < rs.length), j < k' → rs[j].x.id ≠ id) ∧ ∃ h : k' < rs.length, rs[k'].x.id = id))
      have Hst := hid (fun h : rs[k].x.id ≠ id => fun j (hj : j < rs.length) (hj2 : j < k + 1) => (show rs[j].x.id ≠ id from by
        by_cases e : j = k
        · subst e; exact h
        · exact hz.out j hj (by omega)))
      clear hz hc
      have Hc := hid (fun W (hB : Below w.heap.size w W) => doid_any rs[k] id bo W ((hB.cell hbo).trans Hbo.out) (Nat.lt_of_lt_of_le hbo hB.size))
      generalize rs[k] = r at *
      by_cases hx : r.x.id = id
      · have Hh := hid (Hhit.out hx)
        have hd := hid (show decide (r.x.id = id) = true by simp [hx])
        clear hx Hst Hhit
        go_wp2_with fail
        refine (Hc.out _ hbel).mono ?_
        rintro e w1 ⟨rfl, hb1⟩
        have hbel' := bnext hbel hb1
        rw [hd.out]
        clear hbel hb1 d0 d1 d2 d3 d4 d5 d6 d7 d8 d9 d10
        go_wp2_with fail
        go_ret
        exact ⟨k, rfl, Or.inr Hh.out, hbel'⟩
      · have Hs := hid (Hst.out hx)
        have hd := hid (show decide (r.x.id = id) = false by simp [hx])
        clear hx Hst Hhit
        go_wp2_with fail
        refine (Hc.out _ hbel).mono ?_
        rintro e w1 ⟨rfl, hb1⟩
        have hbel' := bnext hbel hb1
        rw [hd.out]
        clear hbel hb1 d0 d1 d2 d3 d4 d5 d6 d7 d8 d9 d10
        go_wp2_with fail
        go_roundw
        case rel => exact ⟨k + 1, by omega, by go_num, Hs, hbel'⟩
        case measure => simp [intOf]; omega
    · have Hn := hid (show ∀ r ∈ rs, r.x.id ≠ id from fun r hr => by
        obtain ⟨j, hj, rfl⟩ := List.getElem_of_mem hr
        exact hz.out j hj (by rw [Hl.out] at hj; omega))
      clear hz
      go_wp2_with fail
      go_ret
      exact ⟨-1, rfl, Or.inl ⟨rfl, Hn.out⟩, hbel⟩
end Fb
namespace Fb
open Go Go.Proofs Go.RowKit Go.Sort
/-- a new box that holds the object -/
def box11 (w : World) (r : FAt FObj) : World := w.alloc (.cells #[.int .i64 r.x.id, .int .i64 r.x.x, .int .i64 r.x.y, .int .i64 r.x.pic.w, .int .i64 r.x.pic.h, .slice r.A r.n r.c, .int .i64 r.x.clip.x, .int .i64 r.x.clip.y, .int .i64 r.x.clip.w, .int .i64 r.x.clip.h, .bool r.x.shown] 89)
theorem box11_at (w : World) (r : FAt FObj) : ObBox (box11 w r) w.heap.size r := by
  unfold box11
  refine ⟨?_, ?_, ?_, ?_, ?_, ?_, ?_, ?_, ?_, ?_, ?_⟩ <;> go_simp
theorem box11_below (w : World) (r : FAt FObj) : Below w.heap.size w (box11 w r) ∧ (box11 w r).heap.size = w.heap.size + 1 := by
  unfold box11
  exact ⟨(Below.refl _ _).alloc (Nat.le_refl _) _, by simp⟩
/-- what is left of the objects -/
def dropR (id : Int) (rs : List (FAt FObj)) : List (FAt FObj) := rs.filter (fun r => decide (r.x.id ≠ id))
theorem dropR_dat (id : Int) (rs : List (FAt FObj)) : dat (dropR id rs) = dropP id (dat rs) := by
  unfold dat dropR dropP
  rw [List.filter_map]
  rfl
def RetDel (rs : List (FAt FObj)) (id : Int) (B : Nat) (w : World) (e : Ending) (w' : World) : Prop := ∃ v, e = .returned v ∧ OwnObjs (dropR id rs) B w' v ∧ Below B w w'
/-- the row, half done: up to i what is left of the first j; from j on as it was -/
structure HalfB (rs L : List (FAt FObj)) (id : Int) (i j : Nat) : Prop where
  len : L.length = rs.length
  low : L.take i = dropR id (rs.take j)
  high : L.drop j = rs.drop j
  lt : i < j
  le : j ≤ rs.length
theorem HalfB.at_ {rs L : List (FAt FObj)} {id : Int} {i j : Nat} (h : HalfB rs L id i j) (hj : j < rs.length) : L[j]'(by rw [h.len]; exact hj) = rs[j] := by
  have e := congrArg (fun l => l[0]?) h.high
  simp only [List.getElem?_drop, Nat.add_zero] at e
  rw [List.getElem?_eq_getElem (by rw [h.len]; exact hj), List.getElem?_eq_getElem hj] at e
  exact Option.some.inj e
theorem HalfB.keep {rs L : List (FAt FObj)} {id : Int} {i j : Nat} (h : HalfB rs L id i j) (hj : j < rs.length) (hx : rs[j].x.id ≠ id) : HalfB rs (L.set i rs[j]) id (i + 1) (j + 1) := by
  have hl := h.len
  have hlt := h.lt
  refine ⟨by rw [List.length_set, hl], ?_, ?_, by omega, by omega⟩
  · rw [List.take_succ_eq_append_getElem (by rw [List.length_set]; omega), List.take_set_of_le (Nat.le_refl i), h.low, List.getElem_set_self, List.take_succ_eq_append_getElem hj]
    unfold dropR
    rw [List.filter_append]
    simp [hx]
  · rw [List.drop_set_of_lt (by omega)]
    have e := congrArg (fun l => l.drop 1) h.high
    simpa using e
theorem HalfB.skip {rs L : List (FAt FObj)} {id : Int} {i j : Nat} (h : HalfB rs L id i j) (hj : j < rs.length) (hx : rs[j].x.id = id) : HalfB rs L id i (j + 1) := by
  refine ⟨h.len, ?_, ?_, by have := h.lt; omega, by omega⟩
  · rw [h.low, List.take_succ_eq_append_getElem hj]
    unfold dropR
    rw [List.filter_append]
    simp [hx]
  · have e := congrArg (fun l => l.drop 1) h.high
    simpa using e
theorem HalfB.start {rs : List (FAt FObj)} {id : Int} {k : Nat} (hk : k < rs.length) (h : ∀ j (h : j < rs.length), j < k → rs[j].x.id ≠ id) (hx : rs[k].x.id = id) : HalfB rs rs id k (k + 1) := by
  refine ⟨rfl, ?_, rfl, by omega, by omega⟩
  rw [List.take_succ_eq_append_getElem hk]
  unfold dropR
  rw [List.filter_append, List.filter_eq_self.2 (fun r hr => by
    obtain ⟨j, hj, rfl⟩ := List.getElem_of_mem hr
    rw [List.length_take] at hj
    rw [List.getElem_take]
    simpa using h j (by omega) (by omega))]
  simp [hx]
theorem HalfB.done {rs L : List (FAt FObj)} {id : Int} {i j : Nat} (h : HalfB rs L id i j) (hj : j = rs.length) : L.take i = dropR id rs ∧ (dropR id rs).length = i := by
  have e : L.take i = dropR id rs := by rw [h.low, hj, List.take_length]
  refine ⟨e, ?_⟩
  rw [← e, List.length_take, h.len]
  have := h.lt
  omega
theorem dropR_none {rs : List (FAt FObj)} {id : Int} (h : ∀ r ∈ rs, r.x.id ≠ id) : dropR id rs = rs := by
  unfold dropR
  rw [List.filter_eq_self]
  intro r hr
  simpa using h r hr
set_option maxRecDepth 100000 in
set_option maxHeartbeats 3200000 in
theorem delete_any (rs : List (FAt FObj)) (n : Nat) (hN : rs.length = n) (id : Int) (bo B : Nat) (V : Value) (w : World) (hn : n ≤ 1000) (hB : B ≤ w.heap.size) (h : OwnObjs rs B w V) (hp : ∀ r ∈ rs, Pixs w r.A r.n r.x.pic.p)
    (hb : w.cell? ⟨bo, 1, none⟩ = some (.int .i64 id)) (hbo : bo < B) :
    Calls Try.prog 62 #[V, .func (.func 63) #[] #[.pointer (some ⟨bo, 0, none⟩)]] w (RetDel rs id B w) := by
  obtain ⟨A, c, rfl, hnc, hcm, hobj⟩ := own_objs h hp
  have Hl := hid hN
  have HO := hid h
  have Hbo := hid hb
  rw [hN] at hnc hobj ⊢
  have Hidx := hid (indexid_any A n c rs id bo w hobj hn hb (by omega))
  have hform := own_form h
  rw [hN] at hform
  have HF := hid hform
  clear h hb hobj hp hN hform
  go_enter Try.func62, Try.ntmps62
  go_wp2_with fail
  refine Hidx.out.mono ?_
  rintro e w1 ⟨q, rfl, ⟨rfl, hno⟩ | ⟨k, rfl, hkn, hlow, hk2, hhit⟩, hb1⟩
  · have hr := hid (dropR_none hno)
    clear hno
    go_wp2_with fail
    go_ret
    refine ⟨_, rfl, ?_, hb1.mono hB⟩
    rw [hr.out, ← Hl.out]
    exact own_keep HO.out hb1
  · have hst := hid (HalfB.start hkn hlow hhit)
    have HO1 := hid (own_keep HO.out hb1)
    have hB1 : Below B w w1 := hb1.mono hB
    rw [Hl.out] at HO1 hkn
    rcases HF.out with ⟨-, h0⟩ | ⟨g, c', hV, hg, hgs, -, -, -⟩
    · omega
    injection hV with hV1 hV2 hV3
    subst hV1 hV3
    clear hlow hhit HO hb1 HF hV2
    have hk1 : ((k : Int) == -1) = false := beq_eq_false_iff_ne.2 (by omega)
    go_wp2_with fail
    go_loopw [5, 6, 7] (fun a b _ wr => ∃ (i j : Nat) (L : List (FAt FObj)), a = .int .i64 i ∧ b = .int .i64 j ∧ i < j ∧ j ≤ n ∧ Hid (HalfB rs L id i j) ∧ Hid (wr.ownsRow B 89 11 (.slice (some ⟨g, 0, none⟩) n c) n (L.flatMap obCells)) ∧ Below B w wr) (fun _ b _ _ => n - (intOf b).toNat)
    case atStart => exact ⟨k, k + 1, rs, rfl, by go_num, by omega, by omega, hst, HO1, hB1⟩
    case round =>
      clear hst HO1 hB1
      obtain ⟨i, j, L, rfl, rfl, hij, hjn, HH, HR, hbel⟩ := hrel
      have hgr : g < wr.heap.size := (HR.out.lt g rfl).2
      have hBr : B ≤ wr.heap.size := by omega
      by_cases hlt : j < n
      · have j1 : j < rs.length := by rw [Hl.out]; exact hlt
        have hL : L.length = n := by rw [HH.out.len, Hl.out]
        obtain ⟨d0, d1, d2, d3, d4, d5, d6, d7, d8, d9, d10⟩ : ObCells wr g (j * 11) rs[j] := by
          have hq : L[j]? = some rs[j] := by rw [List.getElem?_eq_getElem (by rw [hL]; exact hlt), HH.out.at_ j1]
          have f := fun t ht => own_cell (cel := obCells) (size := 11) (fun _ => rfl) HR.out (k := j) (j := t) hq ht
          exact ⟨f 0 (by omega), f 1 (by omega), f 2 (by omega), f 3 (by omega), f 4 (by omega), f 5 (by omega), f 6 (by omega), f 7 (by omega), f 8 (by omega), f 9 (by omega), f 10 (by omega)⟩
        have q2 : (j : Int) < (n : Int) := by omega
        have Hk := hid (fun hx => HH.out.keep j1 hx)
        have Hs := hid (fun hx => HH.out.skip j1 hx)
        have hL2 := hid hL
        generalize rs[j] = r at *
        have hbx := box11_below wr r
        have hcb : (box11 wr r).cell? ⟨bo, 1, none⟩ = some (.int .i64 id) := (hbx.1.cell (p := ⟨bo, 1, none⟩) (show bo < wr.heap.size by omega)).trans ((hbel.cell (p := ⟨bo, 1, none⟩) hbo).trans Hbo.out)
        have Hc := hid (doid_any r id bo (box11 wr r) hcb (by rw [hbx.2]; omega))
        clear hcb hL HH
        go_wp2_with fail
        refine Hc.out.mono ?_
        rintro e w2 ⟨rfl, hb2⟩
        have hb3 : Below wr.heap.size wr w2 := hbx.1.trans (hb2.mono (by omega))
        have CE := hid ((box11_at wr r).below hb2 (by omega))
        have HR2 := hid (own_keep HR.out hb3)
        have hbel2 : Below B w w2 := hbel.trans (hb3.mono hBr)
        have hz2 : wr.heap.size < w2.heap.size := by have := hb2.size; omega
        clear hb2 hbx HR hbel Hc d0 d1 d2 d3 d4 d5 d6 d7 d8 d9 d10
        by_cases hx : r.x.id = id
        · have hh := hid (Hs.out hx)
          rw [show decide (r.x.id = id) = true by simp [hx]]
          clear hx Hk Hs
          go_wp2_with fail
          go_roundw
          case rel => exact ⟨i, j + 1, L, rfl, by go_num, by omega, by omega, hh, HR2, hbel2⟩
          case measure => simp [intOf]; omega
        · have hh := hid (Hk.out hx)
          rw [show decide (r.x.id = id) = false by simp [hx]]
          clear hx Hk Hs
          obtain ⟨c0, c1', c2, c3, c4, c5, c6, c7, c8, c9, c10⟩ := CE.out
          obtain ⟨q, d0, d1, d2, d3, d4, d5, d6, d7, d8, d9, d10⟩ := own_cells11 hL2.out (show i < n by omega) HR2.out
          have FZ := fun o => HR2.out.frozenAt o
          have hset := hid (own_set11 hL2.out (show i < n by omega) r HR2.out)
          have q3 : (i : Int) < (n : Int) := by omega
          have hne : wr.heap.size ≠ g := by omega
          have hbl : Below B w (setCells11 w2 g (i * 11) r) := by
            unfold setCells11
            (repeat refine Below.setCell ?_ (by simp; omega) _)
            exact hbel2
          unfold setCells11 at hset hbl
          go_wp2_with fail
          go_roundw
          case rel => exact ⟨i + 1, j + 1, L.set i r, by go_num, by go_num, by omega, by omega, hh, hset, hbl⟩
          case measure => simp [intOf]; omega
      · obtain rfl : j = n := by omega
        have hL : L.length = j := by rw [HH.out.len, Hl.out]
        obtain ⟨e1, e2⟩ := HH.out.done Hl.out.symm
        rcases own_form HR.out with ⟨h0, -⟩ | ⟨g', c', hV, -, -, -, -, R, hh, hR⟩
        · cases h0
        injection hV with hV1 hV2 hV3
        injection hV1 with hV1
        injection hV1 with hV1
        subst hV1 hV3
        have hlc : (L.flatMap obCells).length = j * 11 := by rw [ob_len, hL]
        obtain ⟨w4, hrun, hh4, hb4⟩ := clear_into (w := wr) (o := i * 11) (k := j - i) (c := c - i) hh (by omega) (by rw [List.length_append, hlc]; omega)
        have hbl := hb4.out B w hbel hg
        have hfin := hid (show OwnObjs (dropR id rs) B w4 (.slice (some ⟨g, 0, none⟩) i c) from by
          unfold OwnObjs
          rw [e2]
          have e := hh4.out
          unfold splice at e
          have hz : (Builtin.zeroCells zeroObV.cells (j - i)).toList.length = (j - i) * 11 := zeros_len _ (j - i) rfl
          rw [List.take_append, show i * 11 - (L.flatMap obCells).length = 0 by rw [hlc]; omega, List.take_zero, List.append_nil, ob_take, e1] at e
          refine own_of hg e (by rw [ob_len, e2]) (by omega) hcm ?_
          rw [List.length_append, List.length_drop, List.length_append, hz, hlc]
          omega)
        have q3 : (i : Int) ≤ (j : Int) := by omega
        have b4 : ¬ c = i := by omega
        clear hh4 hb4 hh hR HH HR hbel e1 e2 hL hlc
        go_wp2_with fail
        go_ret
        exact ⟨_, rfl, hfin.out, hbl⟩
end Fb
namespace Fb
open Go Go.Proofs Go.RowKit Go.Sort
/-- the call returns objects and an error (as a value) -/
def RetDo (P : List FObj) (u : Value) (w : World) (e : Ending) (w' : World) : Prop := ∃ (A : Option Addr) (n c : Nat) (rs : List (FAt FObj)), e = .returned (.tuple #[.slice A n c, u]) ∧ Objs w' A n rs ∧ dat rs = P ∧ Below w.heap.size w w'
/-- a box of its own that holds the op -/
def OpBox (w : World) (g : Nat) (ok oi ona onb onc ond ow oh : Int) (oA : Option Addr) (on oc : Nat) : Prop := w.cell? ⟨g, 0, none⟩ = some (.int .i64 ok) ∧ w.cell? ⟨g, 1, none⟩ = some (.int .i64 oi) ∧ w.cell? ⟨g, 2, none⟩ = some (.int .i64 ona) ∧ w.cell? ⟨g, 3, none⟩ = some (.int .i64 onb) ∧ w.cell? ⟨g, 4, none⟩ = some (.int .i64 onc) ∧ w.cell? ⟨g, 5, none⟩ = some (.int .i64 ond) ∧ w.cell? ⟨g, 6, none⟩ = some (.int .i64 ow) ∧ w.cell? ⟨g, 7, none⟩ = some (.int .i64 oh) ∧ w.cell? ⟨g, 8, none⟩ = some (.slice oA on oc)
theorem OpBox.below {w w' : World} {B g : Nat} {ok oi ona onb onc ond ow oh : Int} {oA : Option Addr} {on oc : Nat} (h : OpBox w g ok oi ona onb onc ond ow oh oA on oc) (hb : Below B w w') (hB : g < B) : OpBox w' g ok oi ona onb onc ond ow oh oA on oc := by
  obtain ⟨c0, c1, c2, c3, c4, c5, c6, c7, c8⟩ := h
  have f : ∀ o v, w.cell? ⟨g, o, none⟩ = some v → w'.cell? ⟨g, o, none⟩ = some v := fun o v hv => (hb.cell (p := ⟨g, o, none⟩) hB).trans hv
  exact ⟨f _ _ c0, f _ _ c1, f _ _ c2, f _ _ c3, f _ _ c4, f _ _ c5, f _ _ c6, f _ _ c7, f _ _ c8⟩
theorem RetDo.of_set {P : List FObj} {w w' : World} {A : Option Addr} {n c : Nat} {rs : List (FAt FObj)} (u : Value) (h : Objs w' A n rs) (hd : dat rs = P) (hb : Below w.heap.size w w') : RetDo P u w (.returned (.tuple #[.slice A n c, u])) w' := ⟨A, n, c, rs, rfl, h, hd, hb⟩
/-- .. and nothing of it lies where nothing of what came in lay -/
def RetDo2 (rs : List (FAt FObj)) (pA : Option Addr) (P : List FObj) (u : Value) (w : World) (e : Ending) (w' : World) : Prop := ∃ (A : Option Addr) (n c : Nat) (rs' : List (FAt FObj)), e = .returned (.tuple #[.slice A n c, u]) ∧ Objs w' A n rs' ∧ dat rs' = P ∧ Below w.heap.size w w' ∧ ∀ g, g < w.heap.size → Avoid g rs → NotIn g pA → NotIn g A ∧ Avoid g rs'
theorem RetDo2.fst {rs : List (FAt FObj)} {pA : Option Addr} {P : List FObj} {u : Value} {w w' : World} {e : Ending} (h : RetDo2 rs pA P u w e w') : RetDo P u w e w' := by
  obtain ⟨A, n, c, rs', h1, h2, h3, h4, -⟩ := h
  exact ⟨A, n, c, rs', h1, h2, h3, h4⟩
theorem RetDo2.of_set {rs : List (FAt FObj)} {pA : Option Addr} {P : List FObj} {w w' : World} {A : Option Addr} {n c : Nat} {rs' : List (FAt FObj)} (u : Value) (h : Objs w' A n rs') (hd : dat rs' = P) (hb : Below w.heap.size w w') (ha : ∀ g, g < w.heap.size → Avoid g rs → NotIn g pA → NotIn g A ∧ Avoid g rs') : RetDo2 rs pA P u w (.returned (.tuple #[.slice A n c, u])) w' := ⟨A, n, c, rs', rfl, h, hd, hb, ha⟩
set_option maxRecDepth 100000 in
set_option maxHeartbeats 400000 in
theorem fresh_any (id : Int) (r : FAt FPic) (w : World) : Calls Try.prog 58 #[.int .i64 id, .agg #[.int .i64 r.x.w, .int .i64 r.x.h, .slice r.A r.n r.c]] w (Ret (objV ⟨freshP id r.x, r.A, r.n, r.c⟩) w) := by
  go_enter Try.func58, Try.ntmps58
  go_wp2_with fail
  refine bodyPost_ret (v := .agg #[.int .i64 id, .int .i64 0, .int .i64 0, .int .i64 r.x.w, .int .i64 r.x.h, .slice r.A r.n r.c, .int .i64 0, .int .i64 0, .int .i64 20, .int .i64 20, .bool true]) (by simp [results, Try.results58, go_sem]) rfl ⟨rfl, ?_⟩
  (repeat (first | with_reducible exact Below.refl _ _ | with_reducible refine Below.alloc ?_ (by simp; try omega) _ | with_reducible refine Below.setCell ?_ (by simp; try omega) _ | with_reducible refine below_drewN ?_ _ | with_reducible refine Below.drew ?_))
set_option maxRecDepth 100000 in
set_option maxHeartbeats 1600000 in
theorem do_none (ok oi ona onb onc ond ow oh : Int) (ol : List Px) (oA : Option Addr) (on oc : Nat) (A : Option Addr) (n c : Nat) (rs : List (FAt FObj)) (w : World) (h : Objs w A n rs) (hp : Pixs w oA on ol) (hr : Rise (dat rs)) (hn : n ≤ 1000) (hk : ok ≠ 2) (hg : getR oi rs = none) :
    Calls Try.prog 46 #[.slice A n c, .agg #[.int .i64 ok, .int .i64 oi, .int .i64 ona, .int .i64 onb, .int .i64 onc, .int .i64 ond, .int .i64 ow, .int .i64 oh, .slice oA on oc]] w (RetDo2 rs none [] (errV 5) w) := by
  have Hg := hid hg
  clear hg
  have Hget := hid (fun W (hb : Below w.heap.size w W) => get_any A n c rs oi W (h.below hb) hr hn)
  have Hset := hid (fun (r : FAt FObj) W (hb : Below w.heap.size w W) (hp : Pixs W r.A r.n r.x.pic.p) => set_any2 A n c rs r W (h.below hb) hp hr hn)
  have HO := hid h
  have Hp := hid hp
  have HR := hid hr
  clear h hp hr
  have hk' : (ok == 2) = false := beq_eq_false_iff_ne.2 hk
  clear hk
  go_enter Try.func46, Try.ntmps46
  go_upto_region 1 with fail
  obtain ⟨W0, hW0⟩ : ∃ W0, W0 = w.alloc (.cells #[.int .i64 ok, .int .i64 oi, .int .i64 ona, .int .i64 onb, .int .i64 onc, .int .i64 ond, .int .i64 ow, .int .i64 oh, .slice oA on oc] 51) := ⟨_, rfl⟩
  have hB0 : Below w.heap.size w W0 := by rw [hW0]; exact (Below.refl w.heap.size w).alloc (Nat.le_refl _) _
  have z0 : w.heap.size < W0.heap.size := by rw [hW0]; simp
  have CE0 : Hid (OpBox W0 w.heap.size ok oi ona onb onc ond ow oh oA on oc) := by show OpBox _ _ _ _ _ _ _ _ _ _ _ _ _; rw [hW0]; refine ⟨?_, ?_, ?_, ?_, ?_, ?_, ?_, ?_, ?_⟩ <;> simp
  rw [← hW0]
  clear hW0
  obtain ⟨b0, b1, b2, b3, b4, b5, b6, b7, b8⟩ := CE0.out
  go_wp2_with fail
  refine (Hget.out W0 hB0).mono ?_
  rintro e w1 ⟨rfl, hb1⟩
  rw [Hg.out]
  unfold getV
  clear b0 b1 b2 b3 b4 b5 b6 b7 b8
  have CE1 := hid (CE0.out.below hb1 z0)
  have hB : Below w.heap.size w w1 := bnext hB0 hb1
  have z1 : w.heap.size < w1.heap.size := Nat.lt_of_lt_of_le z0 hb1.size
  have zne : w.heap.size ≠ w1.heap.size := by omega
  clear CE0 hB0 hb1 z0
  obtain ⟨b0, b1, b2, b3, b4, b5, b6, b7, b8⟩ := CE1.out
  go_wp2_with fail
  go_ret2
  refine ⟨none, 0, 0, [], rfl, ⟨rfl, Row.none_ _ _ _, by simp⟩, rfl, ?_, fun g _ _ _ => ⟨fun a e => (by cases e), fun q hq => absurd hq (by simp)⟩⟩
  (repeat (first | with_reducible exact hB | with_reducible refine Below.alloc ?_ (by have := hB.size; simp; try omega) _ | with_reducible refine Below.setCell ?_ (by have := hB.size; simp; try omega) _ | with_reducible refine below_drewN ?_ _ | with_reducible refine Below.drew ?_))
set_option maxRecDepth 100000 in
set_option maxHeartbeats 1600000 in
theorem do_k2 (oi ona onb onc ond ow oh : Int) (ol : List Px) (oA : Option Addr) (on oc : Nat) (A : Option Addr) (n c : Nat) (rs : List (FAt FObj)) (w : World) (h : Objs w A n rs) (hp : Pixs w oA on ol) (hr : Rise (dat rs)) (hn : n ≤ 1000) :
    Calls Try.prog 46 #[.slice A n c, .agg #[.int .i64 2, .int .i64 oi, .int .i64 ona, .int .i64 onb, .int .i64 onc, .int .i64 ond, .int .i64 ow, .int .i64 oh, .slice oA on oc]] w (RetDo2 rs oA (setP (freshP oi ⟨ow, oh, ol⟩) (dat rs)) (.nilIface) w) := by
  have Hset := hid (fun (r : FAt FObj) W (hb : Below w.heap.size w W) (hp : Pixs W r.A r.n r.x.pic.p) => set_any2 A n c rs r W (h.below hb) hp hr hn)
  have HO := hid h
  have Hp := hid hp
  have HR := hid hr
  clear h hp hr
  go_enter Try.func46, Try.ntmps46
  go_upto_region 1 with fail
  obtain ⟨W0, hW0⟩ : ∃ W0, W0 = w.alloc (.cells #[.int .i64 2, .int .i64 oi, .int .i64 ona, .int .i64 onb, .int .i64 onc, .int .i64 ond, .int .i64 ow, .int .i64 oh, .slice oA on oc] 51) := ⟨_, rfl⟩
  have hB0 : Below w.heap.size w W0 := by rw [hW0]; exact (Below.refl w.heap.size w).alloc (Nat.le_refl _) _
  have z0 : w.heap.size < W0.heap.size := by rw [hW0]; simp
  have CE0 : Hid (OpBox W0 w.heap.size 2 oi ona onb onc ond ow oh oA on oc) := by show OpBox _ _ _ _ _ _ _ _ _ _ _ _ _; rw [hW0]; refine ⟨?_, ?_, ?_, ?_, ?_, ?_, ?_, ?_, ?_⟩ <;> simp
  rw [← hW0]
  clear hW0
  obtain ⟨b0, b1, b2, b3, b4, b5, b6, b7, b8⟩ := CE0.out
  go_wp2_with fail
  refine (fresh_any oi ⟨⟨ow, oh, ol⟩, oA, on, oc⟩ _).mono ?_
  rintro e w1 ⟨rfl, hb1⟩
  have hB : Below w.heap.size w w1 := bnext hB0 hb1
  clear b0 b1 b2 b3 b4 b5 b6 b7 b8
  have b0 := 0
  have b1 := 0
  have b2 := 0
  have b3 := 0
  have b4 := 0
  have b5 := 0
  have b6 := 0
  have b7 := 0
  have b8 := 0
  go_wp2_with fail
  refine (Hset.out ⟨freshP oi ⟨ow, oh, ol⟩, oA, on, oc⟩ _ (by (repeat (first | with_reducible exact hB | with_reducible refine Below.alloc ?_ (by have := hB.size; simp; try omega) _ | with_reducible refine Below.setCell ?_ (by have := hB.size; simp; try omega) _ | with_reducible refine below_drewN ?_ _ | with_reducible refine Below.drew ?_))) (Hp.out.below (by (repeat (first | with_reducible exact hB | with_reducible refine Below.alloc ?_ (by have := hB.size; simp; try omega) _ | with_reducible refine Below.setCell ?_ (by have := hB.size; simp; try omega) _ | with_reducible refine below_drewN ?_ _ | with_reducible refine Below.drew ?_))))).mono ?_
  rintro e w9 ⟨A9, n9, c9, rs9, rfl, ho, hd, hb9, hav⟩
  have Hav := hid (fun g (hg : g < w.heap.size) => hav g (Nat.lt_of_lt_of_le hg (Below.size (by (repeat (first | with_reducible exact hB | with_reducible refine Below.alloc ?_ (by have := hB.size; simp; try omega) _ | with_reducible refine Below.setCell ?_ (by have := hB.size; simp; try omega) _ | with_reducible refine below_drewN ?_ _ | with_reducible refine Below.drew ?_))))))
  clear hav
  have Ho := hid ho
  have Hd := hid hd
  have HB9 : Below w.heap.size w w9 := bnext (by (repeat (first | with_reducible exact hB | with_reducible refine Below.alloc ?_ (by have := hB.size; simp; try omega) _ | with_reducible refine Below.setCell ?_ (by have := hB.size; simp; try omega) _ | with_reducible refine below_drewN ?_ _ | with_reducible refine Below.drew ?_))) hb9
  clear ho hd hb9
  clear b0 b1 b2 b3 b4 b5 b6 b7 b8
  go_wp2_with fail
  go_ret2
  exact RetDo2.of_set _ Ho.out Hd.out HB9 (fun g hg ha hp => Hav.out g hg ha (hp))
set_option maxRecDepth 100000 in
set_option maxHeartbeats 1600000 in
theorem do_k3 (oi ona onb onc ond ow oh : Int) (ol : List Px) (oA : Option Addr) (on oc : Nat) (A : Option Addr) (n c : Nat) (rs : List (FAt FObj)) (r0 : FAt FObj) (w : World) (h : Objs w A n rs) (hp : Pixs w oA on ol) (hr : Rise (dat rs)) (hn : n ≤ 1000) (hg : getR oi rs = some r0) :
    Calls Try.prog 46 #[.slice A n c, .agg #[.int .i64 3, .int .i64 oi, .int .i64 ona, .int .i64 onb, .int .i64 onc, .int .i64 ond, .int .i64 ow, .int .i64 oh, .slice oA on oc]] w (RetDo2 rs none (setP (turnP r0.x ⟨3, oi, ona, onb, onc, ond, ⟨ow, oh, ol⟩⟩) (dat rs)) (.nilIface) w) := by
  obtain ⟨⟨ri, rx, ry, ⟨rw, rh, rl⟩, ⟨cx, cy, cw, ch⟩, sh⟩, rA, rn, rc⟩ := r0
  have hpx : Pixs w rA rn rl := h.2.2 _ (getR_mem hg).1
  have Hpx := hid hpx
  clear hpx
  have Hg := hid hg
  clear hg
  have Hget := hid (fun W (hb : Below w.heap.size w W) => get_any A n c rs oi W (h.below hb) hr hn)
  have Hset := hid (fun (r : FAt FObj) W (hb : Below w.heap.size w W) (hp : Pixs W r.A r.n r.x.pic.p) => set_any2 A n c rs r W (h.below hb) hp hr hn)
  have HO := hid h
  have Hp := hid hp
  have HR := hid hr
  clear h hp hr
  go_enter Try.func46, Try.ntmps46
  go_upto_region 1 with fail
  obtain ⟨W0, hW0⟩ : ∃ W0, W0 = w.alloc (.cells #[.int .i64 3, .int .i64 oi, .int .i64 ona, .int .i64 onb, .int .i64 onc, .int .i64 ond, .int .i64 ow, .int .i64 oh, .slice oA on oc] 51) := ⟨_, rfl⟩
  have hB0 : Below w.heap.size w W0 := by rw [hW0]; exact (Below.refl w.heap.size w).alloc (Nat.le_refl _) _
  have z0 : w.heap.size < W0.heap.size := by rw [hW0]; simp
  have CE0 : Hid (OpBox W0 w.heap.size 3 oi ona onb onc ond ow oh oA on oc) := by show OpBox _ _ _ _ _ _ _ _ _ _ _ _ _; rw [hW0]; refine ⟨?_, ?_, ?_, ?_, ?_, ?_, ?_, ?_, ?_⟩ <;> simp
  rw [← hW0]
  clear hW0
  obtain ⟨b0, b1, b2, b3, b4, b5, b6, b7, b8⟩ := CE0.out
  go_wp2_with fail
  refine (Hget.out W0 hB0).mono ?_
  rintro e w1 ⟨rfl, hb1⟩
  rw [Hg.out]
  unfold getV
  clear b0 b1 b2 b3 b4 b5 b6 b7 b8
  have CE1 := hid (CE0.out.below hb1 z0)
  have hB : Below w.heap.size w w1 := bnext hB0 hb1
  have z1 : w.heap.size < w1.heap.size := Nat.lt_of_lt_of_le z0 hb1.size
  have zne : w.heap.size ≠ w1.heap.size := by omega
  clear CE0 hB0 hb1 z0
  obtain ⟨b0, b1, b2, b3, b4, b5, b6, b7, b8⟩ := CE1.out
  go_wp2_with fail
  go_region
  go_wp2_with fail
  refine (Hset.out ⟨⟨ri, ona, onb, ⟨rw, rh, rl⟩, ⟨cx, cy, cw, ch⟩, sh⟩, rA, rn, rc⟩ _ (by (repeat (first | with_reducible exact hB | with_reducible refine Below.alloc ?_ (by have := hB.size; simp; try omega) _ | with_reducible refine Below.setCell ?_ (by have := hB.size; simp; try omega) _ | with_reducible refine below_drewN ?_ _ | with_reducible refine Below.drew ?_))) (Hpx.out.below (by (repeat (first | with_reducible exact hB | with_reducible refine Below.alloc ?_ (by have := hB.size; simp; try omega) _ | with_reducible refine Below.setCell ?_ (by have := hB.size; simp; try omega) _ | with_reducible refine below_drewN ?_ _ | with_reducible refine Below.drew ?_))))).mono ?_
  rintro e w9 ⟨A9, n9, c9, rs9, rfl, ho, hd, hb9, hav⟩
  have Hav := hid (fun g (hg : g < w.heap.size) => hav g (Nat.lt_of_lt_of_le hg (Below.size (by (repeat (first | with_reducible exact hB | with_reducible refine Below.alloc ?_ (by have := hB.size; simp; try omega) _ | with_reducible refine Below.setCell ?_ (by have := hB.size; simp; try omega) _ | with_reducible refine below_drewN ?_ _ | with_reducible refine Below.drew ?_))))))
  clear hav
  have Ho := hid ho
  have Hd := hid hd
  have HB9 : Below w.heap.size w w9 := bnext (by (repeat (first | with_reducible exact hB | with_reducible refine Below.alloc ?_ (by have := hB.size; simp; try omega) _ | with_reducible refine Below.setCell ?_ (by have := hB.size; simp; try omega) _ | with_reducible refine below_drewN ?_ _ | with_reducible refine Below.drew ?_))) hb9
  clear ho hd hb9
  clear b0 b1 b2 b3 b4 b5 b6 b7 b8
  go_wp2_with fail
  go_ret2
  exact RetDo2.of_set _ Ho.out Hd.out HB9 (fun g hg ha hp => Hav.out g hg ha (ha _ (getR_mem Hg.out).1))
set_option maxRecDepth 100000 in
set_option maxHeartbeats 1600000 in
theorem do_k4 (oi ona onb onc ond ow oh : Int) (ol : List Px) (oA : Option Addr) (on oc : Nat) (A : Option Addr) (n c : Nat) (rs : List (FAt FObj)) (r0 : FAt FObj) (w : World) (h : Objs w A n rs) (hp : Pixs w oA on ol) (hr : Rise (dat rs)) (hn : n ≤ 1000) (hg : getR oi rs = some r0) :
    Calls Try.prog 46 #[.slice A n c, .agg #[.int .i64 4, .int .i64 oi, .int .i64 ona, .int .i64 onb, .int .i64 onc, .int .i64 ond, .int .i64 ow, .int .i64 oh, .slice oA on oc]] w (RetDo2 rs none (setP (turnP r0.x ⟨4, oi, ona, onb, onc, ond, ⟨ow, oh, ol⟩⟩) (dat rs)) (.nilIface) w) := by
  obtain ⟨⟨ri, rx, ry, ⟨rw, rh, rl⟩, ⟨cx, cy, cw, ch⟩, sh⟩, rA, rn, rc⟩ := r0
  have hpx : Pixs w rA rn rl := h.2.2 _ (getR_mem hg).1
  have Hpx := hid hpx
  clear hpx
  have Hg := hid hg
  clear hg
  have Hget := hid (fun W (hb : Below w.heap.size w W) => get_any A n c rs oi W (h.below hb) hr hn)
  have Hset := hid (fun (r : FAt FObj) W (hb : Below w.heap.size w W) (hp : Pixs W r.A r.n r.x.pic.p) => set_any2 A n c rs r W (h.below hb) hp hr hn)
  have HO := hid h
  have Hp := hid hp
  have HR := hid hr
  clear h hp hr
  go_enter Try.func46, Try.ntmps46
  go_upto_region 1 with fail
  obtain ⟨W0, hW0⟩ : ∃ W0, W0 = w.alloc (.cells #[.int .i64 4, .int .i64 oi, .int .i64 ona, .int .i64 onb, .int .i64 onc, .int .i64 ond, .int .i64 ow, .int .i64 oh, .slice oA on oc] 51) := ⟨_, rfl⟩
  have hB0 : Below w.heap.size w W0 := by rw [hW0]; exact (Below.refl w.heap.size w).alloc (Nat.le_refl _) _
  have z0 : w.heap.size < W0.heap.size := by rw [hW0]; simp
  have CE0 : Hid (OpBox W0 w.heap.size 4 oi ona onb onc ond ow oh oA on oc) := by show OpBox _ _ _ _ _ _ _ _ _ _ _ _ _; rw [hW0]; refine ⟨?_, ?_, ?_, ?_, ?_, ?_, ?_, ?_, ?_⟩ <;> simp
  rw [← hW0]
  clear hW0
  obtain ⟨b0, b1, b2, b3, b4, b5, b6, b7, b8⟩ := CE0.out
  go_wp2_with fail
  refine (Hget.out W0 hB0).mono ?_
  rintro e w1 ⟨rfl, hb1⟩
  rw [Hg.out]
  unfold getV
  clear b0 b1 b2 b3 b4 b5 b6 b7 b8
  have CE1 := hid (CE0.out.below hb1 z0)
  have hB : Below w.heap.size w w1 := bnext hB0 hb1
  have z1 : w.heap.size < w1.heap.size := Nat.lt_of_lt_of_le z0 hb1.size
  have zne : w.heap.size ≠ w1.heap.size := by omega
  clear CE0 hB0 hb1 z0
  obtain ⟨b0, b1, b2, b3, b4, b5, b6, b7, b8⟩ := CE1.out
  go_wp2_with fail
  refine (Hset.out ⟨⟨ri, rx, ry, ⟨rw, rh, rl⟩, ⟨ona, onb, onc, ond⟩, sh⟩, rA, rn, rc⟩ _ (by (repeat (first | with_reducible exact hB | with_reducible refine Below.alloc ?_ (by have := hB.size; simp; try omega) _ | with_reducible refine Below.setCell ?_ (by have := hB.size; simp; try omega) _ | with_reducible refine below_drewN ?_ _ | with_reducible refine Below.drew ?_))) (Hpx.out.below (by (repeat (first | with_reducible exact hB | with_reducible refine Below.alloc ?_ (by have := hB.size; simp; try omega) _ | with_reducible refine Below.setCell ?_ (by have := hB.size; simp; try omega) _ | with_reducible refine below_drewN ?_ _ | with_reducible refine Below.drew ?_))))).mono ?_
  rintro e w9 ⟨A9, n9, c9, rs9, rfl, ho, hd, hb9, hav⟩
  have Hav := hid (fun g (hg : g < w.heap.size) => hav g (Nat.lt_of_lt_of_le hg (Below.size (by (repeat (first | with_reducible exact hB | with_reducible refine Below.alloc ?_ (by have := hB.size; simp; try omega) _ | with_reducible refine Below.setCell ?_ (by have := hB.size; simp; try omega) _ | with_reducible refine below_drewN ?_ _ | with_reducible refine Below.drew ?_))))))
  clear hav
  have Ho := hid ho
  have Hd := hid hd
  have HB9 : Below w.heap.size w w9 := bnext (by (repeat (first | with_reducible exact hB | with_reducible refine Below.alloc ?_ (by have := hB.size; simp; try omega) _ | with_reducible refine Below.setCell ?_ (by have := hB.size; simp; try omega) _ | with_reducible refine below_drewN ?_ _ | with_reducible refine Below.drew ?_))) hb9
  clear ho hd hb9
  clear b0 b1 b2 b3 b4 b5 b6 b7 b8
  go_wp2_with fail
  go_ret2
  exact RetDo2.of_set _ Ho.out Hd.out HB9 (fun g hg ha hp => Hav.out g hg ha (ha _ (getR_mem Hg.out).1))
set_option maxRecDepth 100000 in
set_option maxHeartbeats 1600000 in
theorem do_k6 (oi ona onb onc ond ow oh : Int) (ol : List Px) (oA : Option Addr) (on oc : Nat) (A : Option Addr) (n c : Nat) (rs : List (FAt FObj)) (r0 : FAt FObj) (w : World) (h : Objs w A n rs) (hp : Pixs w oA on ol) (hr : Rise (dat rs)) (hn : n ≤ 1000) (hg : getR oi rs = some r0) :
    Calls Try.prog 46 #[.slice A n c, .agg #[.int .i64 6, .int .i64 oi, .int .i64 ona, .int .i64 onb, .int .i64 onc, .int .i64 ond, .int .i64 ow, .int .i64 oh, .slice oA on oc]] w (RetDo2 rs none (setP (turnP r0.x ⟨6, oi, ona, onb, onc, ond, ⟨ow, oh, ol⟩⟩) (dat rs)) (.nilIface) w) := by
  obtain ⟨⟨ri, rx, ry, ⟨rw, rh, rl⟩, ⟨cx, cy, cw, ch⟩, sh⟩, rA, rn, rc⟩ := r0
  have hpx : Pixs w rA rn rl := h.2.2 _ (getR_mem hg).1
  have Hpx := hid hpx
  clear hpx
  have Hg := hid hg
  clear hg
  have Hget := hid (fun W (hb : Below w.heap.size w W) => get_any A n c rs oi W (h.below hb) hr hn)
  have Hset := hid (fun (r : FAt FObj) W (hb : Below w.heap.size w W) (hp : Pixs W r.A r.n r.x.pic.p) => set_any2 A n c rs r W (h.below hb) hp hr hn)
  have HO := hid h
  have Hp := hid hp
  have HR := hid hr
  clear h hp hr
  go_enter Try.func46, Try.ntmps46
  go_upto_region 1 with fail
  obtain ⟨W0, hW0⟩ : ∃ W0, W0 = w.alloc (.cells #[.int .i64 6, .int .i64 oi, .int .i64 ona, .int .i64 onb, .int .i64 onc, .int .i64 ond, .int .i64 ow, .int .i64 oh, .slice oA on oc] 51) := ⟨_, rfl⟩
  have hB0 : Below w.heap.size w W0 := by rw [hW0]; exact (Below.refl w.heap.size w).alloc (Nat.le_refl _) _
  have z0 : w.heap.size < W0.heap.size := by rw [hW0]; simp
  have CE0 : Hid (OpBox W0 w.heap.size 6 oi ona onb onc ond ow oh oA on oc) := by show OpBox _ _ _ _ _ _ _ _ _ _ _ _ _; rw [hW0]; refine ⟨?_, ?_, ?_, ?_, ?_, ?_, ?_, ?_, ?_⟩ <;> simp
  rw [← hW0]
  clear hW0
  obtain ⟨b0, b1, b2, b3, b4, b5, b6, b7, b8⟩ := CE0.out
  go_wp2_with fail
  refine (Hget.out W0 hB0).mono ?_
  rintro e w1 ⟨rfl, hb1⟩
  rw [Hg.out]
  unfold getV
  clear b0 b1 b2 b3 b4 b5 b6 b7 b8
  have CE1 := hid (CE0.out.below hb1 z0)
  have hB : Below w.heap.size w w1 := bnext hB0 hb1
  have z1 : w.heap.size < w1.heap.size := Nat.lt_of_lt_of_le z0 hb1.size
  have zne : w.heap.size ≠ w1.heap.size := by omega
  clear CE0 hB0 hb1 z0
  obtain ⟨b0, b1, b2, b3, b4, b5, b6, b7, b8⟩ := CE1.out
  go_wp2_with fail
  refine (Hset.out ⟨⟨ona, rx, ry, ⟨rw, rh, rl⟩, ⟨cx, cy, cw, ch⟩, sh⟩, rA, rn, rc⟩ _ (by (repeat (first | with_reducible exact hB | with_reducible refine Below.alloc ?_ (by have := hB.size; simp; try omega) _ | with_reducible refine Below.setCell ?_ (by have := hB.size; simp; try omega) _ | with_reducible refine below_drewN ?_ _ | with_reducible refine Below.drew ?_))) (Hpx.out.below (by (repeat (first | with_reducible exact hB | with_reducible refine Below.alloc ?_ (by have := hB.size; simp; try omega) _ | with_reducible refine Below.setCell ?_ (by have := hB.size; simp; try omega) _ | with_reducible refine below_drewN ?_ _ | with_reducible refine Below.drew ?_))))).mono ?_
  rintro e w9 ⟨A9, n9, c9, rs9, rfl, ho, hd, hb9, hav⟩
  have Hav := hid (fun g (hg : g < w.heap.size) => hav g (Nat.lt_of_lt_of_le hg (Below.size (by (repeat (first | with_reducible exact hB | with_reducible refine Below.alloc ?_ (by have := hB.size; simp; try omega) _ | with_reducible refine Below.setCell ?_ (by have := hB.size; simp; try omega) _ | with_reducible refine below_drewN ?_ _ | with_reducible refine Below.drew ?_))))))
  clear hav
  have Ho := hid ho
  have Hd := hid hd
  have HB9 : Below w.heap.size w w9 := bnext (by (repeat (first | with_reducible exact hB | with_reducible refine Below.alloc ?_ (by have := hB.size; simp; try omega) _ | with_reducible refine Below.setCell ?_ (by have := hB.size; simp; try omega) _ | with_reducible refine below_drewN ?_ _ | with_reducible refine Below.drew ?_))) hb9
  clear ho hd hb9
  clear b0 b1 b2 b3 b4 b5 b6 b7 b8
  go_wp2_with fail
  go_ret2
  exact RetDo2.of_set _ Ho.out Hd.out HB9 (fun g hg ha hp => Hav.out g hg ha (ha _ (getR_mem Hg.out).1))
set_option maxRecDepth 100000 in
set_option maxHeartbeats 1600000 in
theorem do_k5t (oi ona onb onc ond ow oh : Int) (ol : List Px) (oA : Option Addr) (on oc : Nat) (A : Option Addr) (n c : Nat) (rs : List (FAt FObj)) (r0 : FAt FObj) (w : World) (h : Objs w A n rs) (hp : Pixs w oA on ol) (hr : Rise (dat rs)) (hn : n ≤ 1000) (hg : getR oi rs = some r0) (h5 : decide (ona = 1) = true) :
    Calls Try.prog 46 #[.slice A n c, .agg #[.int .i64 5, .int .i64 oi, .int .i64 ona, .int .i64 onb, .int .i64 onc, .int .i64 ond, .int .i64 ow, .int .i64 oh, .slice oA on oc]] w (RetDo2 rs none (setP (turnP r0.x ⟨5, oi, ona, onb, onc, ond, ⟨ow, oh, ol⟩⟩) (dat rs)) (.nilIface) w) := by
  obtain ⟨⟨ri, rx, ry, ⟨rw, rh, rl⟩, ⟨cx, cy, cw, ch⟩, sh⟩, rA, rn, rc⟩ := r0
  have hpx : Pixs w rA rn rl := h.2.2 _ (getR_mem hg).1
  have Hpx := hid hpx
  clear hpx
  have Hg := hid hg
  clear hg
  have Hget := hid (fun W (hb : Below w.heap.size w W) => get_any A n c rs oi W (h.below hb) hr hn)
  have Hset := hid (fun (r : FAt FObj) W (hb : Below w.heap.size w W) (hp : Pixs W r.A r.n r.x.pic.p) => set_any2 A n c rs r W (h.below hb) hp hr hn)
  have HO := hid h
  have Hp := hid hp
  have HR := hid hr
  clear h hp hr
  have e5 : turnP ⟨ri, rx, ry, ⟨rw, rh, rl⟩, ⟨cx, cy, cw, ch⟩, sh⟩ ⟨5, oi, ona, onb, onc, ond, ⟨ow, oh, ol⟩⟩ = ⟨ri, rx, ry, ⟨rw, rh, rl⟩, ⟨cx, cy, cw, ch⟩, true⟩ := by rw [← h5]; rfl
  have h5' : (ona == 1) = true := h5
  rw [e5]
  clear e5 h5
  go_enter Try.func46, Try.ntmps46
  go_upto_region 1 with fail
  obtain ⟨W0, hW0⟩ : ∃ W0, W0 = w.alloc (.cells #[.int .i64 5, .int .i64 oi, .int .i64 ona, .int .i64 onb, .int .i64 onc, .int .i64 ond, .int .i64 ow, .int .i64 oh, .slice oA on oc] 51) := ⟨_, rfl⟩
  have hB0 : Below w.heap.size w W0 := by rw [hW0]; exact (Below.refl w.heap.size w).alloc (Nat.le_refl _) _
  have z0 : w.heap.size < W0.heap.size := by rw [hW0]; simp
  have CE0 : Hid (OpBox W0 w.heap.size 5 oi ona onb onc ond ow oh oA on oc) := by show OpBox _ _ _ _ _ _ _ _ _ _ _ _ _; rw [hW0]; refine ⟨?_, ?_, ?_, ?_, ?_, ?_, ?_, ?_, ?_⟩ <;> simp
  rw [← hW0]
  clear hW0
  obtain ⟨b0, b1, b2, b3, b4, b5, b6, b7, b8⟩ := CE0.out
  go_wp2_with fail
  refine (Hget.out W0 hB0).mono ?_
  rintro e w1 ⟨rfl, hb1⟩
  rw [Hg.out]
  unfold getV
  clear b0 b1 b2 b3 b4 b5 b6 b7 b8
  have CE1 := hid (CE0.out.below hb1 z0)
  have hB : Below w.heap.size w w1 := bnext hB0 hb1
  have z1 : w.heap.size < w1.heap.size := Nat.lt_of_lt_of_le z0 hb1.size
  have zne : w.heap.size ≠ w1.heap.size := by omega
  clear CE0 hB0 hb1 z0
  obtain ⟨b0, b1, b2, b3, b4, b5, b6, b7, b8⟩ := CE1.out
  go_wp2_with fail
  refine (Hset.out ⟨⟨ri, rx, ry, ⟨rw, rh, rl⟩, ⟨cx, cy, cw, ch⟩, true⟩, rA, rn, rc⟩ _ (by (repeat (first | with_reducible exact hB | with_reducible refine Below.alloc ?_ (by have := hB.size; simp; try omega) _ | with_reducible refine Below.setCell ?_ (by have := hB.size; simp; try omega) _ | with_reducible refine below_drewN ?_ _ | with_reducible refine Below.drew ?_))) (Hpx.out.below (by (repeat (first | with_reducible exact hB | with_reducible refine Below.alloc ?_ (by have := hB.size; simp; try omega) _ | with_reducible refine Below.setCell ?_ (by have := hB.size; simp; try omega) _ | with_reducible refine below_drewN ?_ _ | with_reducible refine Below.drew ?_))))).mono ?_
  rintro e w9 ⟨A9, n9, c9, rs9, rfl, ho, hd, hb9, hav⟩
  have Hav := hid (fun g (hg : g < w.heap.size) => hav g (Nat.lt_of_lt_of_le hg (Below.size (by (repeat (first | with_reducible exact hB | with_reducible refine Below.alloc ?_ (by have := hB.size; simp; try omega) _ | with_reducible refine Below.setCell ?_ (by have := hB.size; simp; try omega) _ | with_reducible refine below_drewN ?_ _ | with_reducible refine Below.drew ?_))))))
  clear hav
  have Ho := hid ho
  have Hd := hid hd
  have HB9 : Below w.heap.size w w9 := bnext (by (repeat (first | with_reducible exact hB | with_reducible refine Below.alloc ?_ (by have := hB.size; simp; try omega) _ | with_reducible refine Below.setCell ?_ (by have := hB.size; simp; try omega) _ | with_reducible refine below_drewN ?_ _ | with_reducible refine Below.drew ?_))) hb9
  clear ho hd hb9
  clear b0 b1 b2 b3 b4 b5 b6 b7 b8
  go_wp2_with fail
  go_ret2
  exact RetDo2.of_set _ Ho.out Hd.out HB9 (fun g hg ha hp => Hav.out g hg ha (ha _ (getR_mem Hg.out).1))
set_option maxRecDepth 100000 in
set_option maxHeartbeats 1600000 in
theorem do_k5f (oi ona onb onc ond ow oh : Int) (ol : List Px) (oA : Option Addr) (on oc : Nat) (A : Option Addr) (n c : Nat) (rs : List (FAt FObj)) (r0 : FAt FObj) (w : World) (h : Objs w A n rs) (hp : Pixs w oA on ol) (hr : Rise (dat rs)) (hn : n ≤ 1000) (hg : getR oi rs = some r0) (h5 : decide (ona = 1) = false) :
    Calls Try.prog 46 #[.slice A n c, .agg #[.int .i64 5, .int .i64 oi, .int .i64 ona, .int .i64 onb, .int .i64 onc, .int .i64 ond, .int .i64 ow, .int .i64 oh, .slice oA on oc]] w (RetDo2 rs none (setP (turnP r0.x ⟨5, oi, ona, onb, onc, ond, ⟨ow, oh, ol⟩⟩) (dat rs)) (.nilIface) w) := by
  obtain ⟨⟨ri, rx, ry, ⟨rw, rh, rl⟩, ⟨cx, cy, cw, ch⟩, sh⟩, rA, rn, rc⟩ := r0
  have hpx : Pixs w rA rn rl := h.2.2 _ (getR_mem hg).1
  have Hpx := hid hpx
  clear hpx
  have Hg := hid hg
  clear hg
  have Hget := hid (fun W (hb : Below w.heap.size w W) => get_any A n c rs oi W (h.below hb) hr hn)
  have Hset := hid (fun (r : FAt FObj) W (hb : Below w.heap.size w W) (hp : Pixs W r.A r.n r.x.pic.p) => set_any2 A n c rs r W (h.below hb) hp hr hn)
  have HO := hid h
  have Hp := hid hp
  have HR := hid hr
  clear h hp hr
  have e5 : turnP ⟨ri, rx, ry, ⟨rw, rh, rl⟩, ⟨cx, cy, cw, ch⟩, sh⟩ ⟨5, oi, ona, onb, onc, ond, ⟨ow, oh, ol⟩⟩ = ⟨ri, rx, ry, ⟨rw, rh, rl⟩, ⟨cx, cy, cw, ch⟩, false⟩ := by rw [← h5]; rfl
  have h5' : (ona == 1) = false := h5
  rw [e5]
  clear e5 h5
  go_enter Try.func46, Try.ntmps46
  go_upto_region 1 with fail
  obtain ⟨W0, hW0⟩ : ∃ W0, W0 = w.alloc (.cells #[.int .i64 5, .int .i64 oi, .int .i64 ona, .int .i64 onb, .int .i64 onc, .int .i64 ond, .int .i64 ow, .int .i64 oh, .slice oA on oc] 51) := ⟨_, rfl⟩
  have hB0 : Below w.heap.size w W0 := by rw [hW0]; exact (Below.refl w.heap.size w).alloc (Nat.le_refl _) _
  have z0 : w.heap.size < W0.heap.size := by rw [hW0]; simp
  have CE0 : Hid (OpBox W0 w.heap.size 5 oi ona onb onc ond ow oh oA on oc) := by show OpBox _ _ _ _ _ _ _ _ _ _ _ _ _; rw [hW0]; refine ⟨?_, ?_, ?_, ?_, ?_, ?_, ?_, ?_, ?_⟩ <;> simp
  rw [← hW0]
  clear hW0
  obtain ⟨b0, b1, b2, b3, b4, b5, b6, b7, b8⟩ := CE0.out
  go_wp2_with fail
  refine (Hget.out W0 hB0).mono ?_
  rintro e w1 ⟨rfl, hb1⟩
  rw [Hg.out]
  unfold getV
  clear b0 b1 b2 b3 b4 b5 b6 b7 b8
  have CE1 := hid (CE0.out.below hb1 z0)
  have hB : Below w.heap.size w w1 := bnext hB0 hb1
  have z1 : w.heap.size < w1.heap.size := Nat.lt_of_lt_of_le z0 hb1.size
  have zne : w.heap.size ≠ w1.heap.size := by omega
  clear CE0 hB0 hb1 z0
  obtain ⟨b0, b1, b2, b3, b4, b5, b6, b7, b8⟩ := CE1.out
  go_wp2_with fail
  refine (Hset.out ⟨⟨ri, rx, ry, ⟨rw, rh, rl⟩, ⟨cx, cy, cw, ch⟩, false⟩, rA, rn, rc⟩ _ (by (repeat (first | with_reducible exact hB | with_reducible refine Below.alloc ?_ (by have := hB.size; simp; try omega) _ | with_reducible refine Below.setCell ?_ (by have := hB.size; simp; try omega) _ | with_reducible refine below_drewN ?_ _ | with_reducible refine Below.drew ?_))) (Hpx.out.below (by (repeat (first | with_reducible exact hB | with_reducible refine Below.alloc ?_ (by have := hB.size; simp; try omega) _ | with_reducible refine Below.setCell ?_ (by have := hB.size; simp; try omega) _ | with_reducible refine below_drewN ?_ _ | with_reducible refine Below.drew ?_))))).mono ?_
  rintro e w9 ⟨A9, n9, c9, rs9, rfl, ho, hd, hb9, hav⟩
  have Hav := hid (fun g (hg : g < w.heap.size) => hav g (Nat.lt_of_lt_of_le hg (Below.size (by (repeat (first | with_reducible exact hB | with_reducible refine Below.alloc ?_ (by have := hB.size; simp; try omega) _ | with_reducible refine Below.setCell ?_ (by have := hB.size; simp; try omega) _ | with_reducible refine below_drewN ?_ _ | with_reducible refine Below.drew ?_))))))
  clear hav
  have Ho := hid ho
  have Hd := hid hd
  have HB9 : Below w.heap.size w w9 := bnext (by (repeat (first | with_reducible exact hB | with_reducible refine Below.alloc ?_ (by have := hB.size; simp; try omega) _ | with_reducible refine Below.setCell ?_ (by have := hB.size; simp; try omega) _ | with_reducible refine below_drewN ?_ _ | with_reducible refine Below.drew ?_))) hb9
  clear ho hd hb9
  clear b0 b1 b2 b3 b4 b5 b6 b7 b8
  go_wp2_with fail
  go_ret2
  exact RetDo2.of_set _ Ho.out Hd.out HB9 (fun g hg ha hp => Hav.out g hg ha (ha _ (getR_mem Hg.out).1))
set_option maxRecDepth 100000 in
set_option maxHeartbeats 1600000 in
theorem do_k8 (oi ona onb onc ond ow oh : Int) (ol : List Px) (oA : Option Addr) (on oc : Nat) (A : Option Addr) (n c : Nat) (rs : List (FAt FObj)) (r0 : FAt FObj) (w : World) (h : Objs w A n rs) (hp : Pixs w oA on ol) (hr : Rise (dat rs)) (hn : n ≤ 1000) (hg : getR oi rs = some r0) (fr : PicFine r0.x.pic) (fs : PicFine ⟨ow, oh, ol⟩) (hx : -20 ≤ ona ∧ ona ≤ 20) (hy : -20 ≤ onb ∧ onb ≤ 20) :
    Calls Try.prog 46 #[.slice A n c, .agg #[.int .i64 8, .int .i64 oi, .int .i64 ona, .int .i64 onb, .int .i64 onc, .int .i64 ond, .int .i64 ow, .int .i64 oh, .slice oA on oc]] w (RetDo2 rs none (setP (turnP r0.x ⟨8, oi, ona, onb, onc, ond, ⟨ow, oh, ol⟩⟩) (dat rs)) (.nilIface) w) := by
  obtain ⟨⟨ri, rx, ry, ⟨rw, rh, rl⟩, ⟨cx, cy, cw, ch⟩, sh⟩, rA, rn, rc⟩ := r0
  have hpx : Pixs w rA rn rl := h.2.2 _ (getR_mem hg).1
  have Hpx := hid hpx
  clear hpx
  have Hg := hid hg
  clear hg
  have Hget := hid (fun W (hb : Below w.heap.size w W) => get_any A n c rs oi W (h.below hb) hr hn)
  have Hset := hid (fun (r : FAt FObj) W (hb : Below w.heap.size w W) (hp : Pixs W r.A r.n r.x.pic.p) => set_any2 A n c rs r W (h.below hb) hp hr hn)
  have HO := hid h
  have Hp := hid hp
  have HR := hid hr
  clear h hp hr
  have e8 : turnP ⟨ri, rx, ry, ⟨rw, rh, rl⟩, ⟨cx, cy, cw, ch⟩, sh⟩ ⟨8, oi, ona, onb, onc, ond, ⟨ow, oh, ol⟩⟩ = ⟨ri, rx, ry, ⟨rw, rh, (changeP addP ⟨rw, rh, rl⟩ ⟨ow, oh, ol⟩ ona onb).p⟩, ⟨cx, cy, cw, ch⟩, sh⟩ := rfl
  have hch : changeP addP ⟨rw, rh, rl⟩ ⟨ow, oh, ol⟩ ona onb = ⟨rw, rh, (changeP addP ⟨rw, rh, rl⟩ ⟨ow, oh, ol⟩ ona onb).p⟩ := rfl
  have hcall := fun W (hb : Below w.heap.size w W) => add_any ⟨⟨rw, rh, rl⟩, rA, rn, rc⟩ ⟨⟨ow, oh, ol⟩, oA, on, oc⟩ ona onb W (Hpx.out.below hb) (Hp.out.below hb) fr fs (by omega) (by omega)
  rw [e8]
  simp only at hcall
  rw [hch] at hcall
  generalize (changeP addP ⟨rw, rh, rl⟩ ⟨ow, oh, ol⟩ ona onb).p = L2 at *
  have Hcall := hid hcall
  clear hcall e8 hch fr fs hx hy
  go_enter Try.func46, Try.ntmps46
  go_upto_region 1 with fail
  obtain ⟨W0, hW0⟩ : ∃ W0, W0 = w.alloc (.cells #[.int .i64 8, .int .i64 oi, .int .i64 ona, .int .i64 onb, .int .i64 onc, .int .i64 ond, .int .i64 ow, .int .i64 oh, .slice oA on oc] 51) := ⟨_, rfl⟩
  have hB0 : Below w.heap.size w W0 := by rw [hW0]; exact (Below.refl w.heap.size w).alloc (Nat.le_refl _) _
  have z0 : w.heap.size < W0.heap.size := by rw [hW0]; simp
  have CE0 : Hid (OpBox W0 w.heap.size 8 oi ona onb onc ond ow oh oA on oc) := by show OpBox _ _ _ _ _ _ _ _ _ _ _ _ _; rw [hW0]; refine ⟨?_, ?_, ?_, ?_, ?_, ?_, ?_, ?_, ?_⟩ <;> simp
  rw [← hW0]
  clear hW0
  obtain ⟨b0, b1, b2, b3, b4, b5, b6, b7, b8⟩ := CE0.out
  go_wp2_with fail
  refine (Hget.out W0 hB0).mono ?_
  rintro e w1 ⟨rfl, hb1⟩
  rw [Hg.out]
  unfold getV
  clear b0 b1 b2 b3 b4 b5 b6 b7 b8
  have CE1 := hid (CE0.out.below hb1 z0)
  have hB : Below w.heap.size w w1 := bnext hB0 hb1
  have z1 : w.heap.size < w1.heap.size := Nat.lt_of_lt_of_le z0 hb1.size
  have zne : w.heap.size ≠ w1.heap.size := by omega
  clear CE0 hB0 hb1 z0
  obtain ⟨b0, b1, b2, b3, b4, b5, b6, b7, b8⟩ := CE1.out
  go_wp2_with fail
  refine (Hcall.out _ (by (repeat (first | with_reducible exact hB | with_reducible refine Below.alloc ?_ (by have := hB.size; simp; try omega) _ | with_reducible refine Below.setCell ?_ (by have := hB.size; simp; try omega) _ | with_reducible refine below_drewN ?_ _ | with_reducible refine Below.drew ?_)))).mono ?_
  rintro e w2 ⟨A2, c2, rfl, hp2, hnew, hb2⟩
  simp only at hp2 ⊢
  obtain ⟨hc, hf⟩ := bcell hb2
  have Hp2 := hid hp2
  have Hnew := hid hnew
  have HW1 := hB.size
  have hB2 : Below w.heap.size w w2 := bnext (by (repeat (first | with_reducible exact hB | with_reducible refine Below.alloc ?_ (by have := hB.size; simp; try omega) _ | with_reducible refine Below.setCell ?_ (by have := hB.size; simp; try omega) _ | with_reducible refine below_drewN ?_ _ | with_reducible refine Below.drew ?_))) hb2
  have z2 : w1.heap.size < w2.heap.size := by have := hb2.size; simp at this; omega
  clear hp2 hnew
  generalize L2.length = n2 at *
  go_wp2_with fail
  have hB : Below w.heap.size w w2 := hB2
  have zz := hB.size
  refine (Hset.out ⟨⟨ri, rx, ry, ⟨rw, rh, L2⟩, ⟨cx, cy, cw, ch⟩, sh⟩, A2, n2, c2⟩ _ (by (repeat (first | with_reducible exact hB | with_reducible refine Below.alloc ?_ (by have := hB.size; simp; try omega) _ | with_reducible refine Below.setCell ?_ (by have := hB.size; simp; try omega) _ | with_reducible refine below_drewN ?_ _ | with_reducible refine Below.drew ?_))) (pixs_off (pixs_off (pixs_off Hp2.out (fun a ha => by have := Hnew.out a ha; simp at this; omega) _ _) (fun a ha => by have := Hnew.out a ha; simp at this; omega) _ _) (fun a ha => by have := Hnew.out a ha; simp at this; omega) _ _)).mono ?_
  rintro e w9 ⟨A9, n9, c9, rs9, rfl, ho, hd, hb9, hav⟩
  have Hav := hid (fun g (hg : g < w.heap.size) => hav g (Nat.lt_of_lt_of_le hg (Below.size (by (repeat (first | with_reducible exact hB | with_reducible refine Below.alloc ?_ (by have := hB.size; simp; try omega) _ | with_reducible refine Below.setCell ?_ (by have := hB.size; simp; try omega) _ | with_reducible refine below_drewN ?_ _ | with_reducible refine Below.drew ?_))))))
  clear hav
  have Ho := hid ho
  have Hd := hid hd
  have HB9 : Below w.heap.size w w9 := bnext (by (repeat (first | with_reducible exact hB | with_reducible refine Below.alloc ?_ (by have := hB.size; simp; try omega) _ | with_reducible refine Below.setCell ?_ (by have := hB.size; simp; try omega) _ | with_reducible refine below_drewN ?_ _ | with_reducible refine Below.drew ?_))) hb9
  clear ho hd hb9
  clear b0 b1 b2 b3 b4 b5 b6 b7 b8
  go_wp2_with fail
  go_ret2
  exact RetDo2.of_set _ Ho.out Hd.out HB9 (fun g hg ha hp => Hav.out g hg ha (fun a e => by have h1 := Hnew.out a e; simp at h1; have h2 := HW1; omega))
set_option maxRecDepth 100000 in
set_option maxHeartbeats 1600000 in
theorem do_k9 (oi ona onb onc ond ow oh : Int) (ol : List Px) (oA : Option Addr) (on oc : Nat) (A : Option Addr) (n c : Nat) (rs : List (FAt FObj)) (r0 : FAt FObj) (w : World) (h : Objs w A n rs) (hp : Pixs w oA on ol) (hr : Rise (dat rs)) (hn : n ≤ 1000) (hg : getR oi rs = some r0) (fr : PicFine r0.x.pic) (fs : PicFine ⟨ow, oh, ol⟩) (hx : -20 ≤ ona ∧ ona ≤ 20) (hy : -20 ≤ onb ∧ onb ≤ 20) :
    Calls Try.prog 46 #[.slice A n c, .agg #[.int .i64 9, .int .i64 oi, .int .i64 ona, .int .i64 onb, .int .i64 onc, .int .i64 ond, .int .i64 ow, .int .i64 oh, .slice oA on oc]] w (RetDo2 rs none (setP (turnP r0.x ⟨9, oi, ona, onb, onc, ond, ⟨ow, oh, ol⟩⟩) (dat rs)) (.nilIface) w) := by
  obtain ⟨⟨ri, rx, ry, ⟨rw, rh, rl⟩, ⟨cx, cy, cw, ch⟩, sh⟩, rA, rn, rc⟩ := r0
  have hpx : Pixs w rA rn rl := h.2.2 _ (getR_mem hg).1
  have Hpx := hid hpx
  clear hpx
  have Hg := hid hg
  clear hg
  have Hget := hid (fun W (hb : Below w.heap.size w W) => get_any A n c rs oi W (h.below hb) hr hn)
  have Hset := hid (fun (r : FAt FObj) W (hb : Below w.heap.size w W) (hp : Pixs W r.A r.n r.x.pic.p) => set_any2 A n c rs r W (h.below hb) hp hr hn)
  have HO := hid h
  have Hp := hid hp
  have HR := hid hr
  clear h hp hr
  have e8 : turnP ⟨ri, rx, ry, ⟨rw, rh, rl⟩, ⟨cx, cy, cw, ch⟩, sh⟩ ⟨9, oi, ona, onb, onc, ond, ⟨ow, oh, ol⟩⟩ = ⟨ri, rx, ry, ⟨rw, rh, (changeP putP ⟨rw, rh, rl⟩ ⟨ow, oh, ol⟩ ona onb).p⟩, ⟨cx, cy, cw, ch⟩, sh⟩ := rfl
  have hch : changeP putP ⟨rw, rh, rl⟩ ⟨ow, oh, ol⟩ ona onb = ⟨rw, rh, (changeP putP ⟨rw, rh, rl⟩ ⟨ow, oh, ol⟩ ona onb).p⟩ := rfl
  have hcall := fun W (hb : Below w.heap.size w W) => put_any ⟨⟨rw, rh, rl⟩, rA, rn, rc⟩ ⟨⟨ow, oh, ol⟩, oA, on, oc⟩ ona onb W (Hpx.out.below hb) (Hp.out.below hb) fr fs (by omega) (by omega)
  rw [e8]
  simp only at hcall
  rw [hch] at hcall
  generalize (changeP putP ⟨rw, rh, rl⟩ ⟨ow, oh, ol⟩ ona onb).p = L2 at *
  have Hcall := hid hcall
  clear hcall e8 hch fr fs hx hy
  go_enter Try.func46, Try.ntmps46
  go_upto_region 1 with fail
  obtain ⟨W0, hW0⟩ : ∃ W0, W0 = w.alloc (.cells #[.int .i64 9, .int .i64 oi, .int .i64 ona, .int .i64 onb, .int .i64 onc, .int .i64 ond, .int .i64 ow, .int .i64 oh, .slice oA on oc] 51) := ⟨_, rfl⟩
  have hB0 : Below w.heap.size w W0 := by rw [hW0]; exact (Below.refl w.heap.size w).alloc (Nat.le_refl _) _
  have z0 : w.heap.size < W0.heap.size := by rw [hW0]; simp
  have CE0 : Hid (OpBox W0 w.heap.size 9 oi ona onb onc ond ow oh oA on oc) := by show OpBox _ _ _ _ _ _ _ _ _ _ _ _ _; rw [hW0]; refine ⟨?_, ?_, ?_, ?_, ?_, ?_, ?_, ?_, ?_⟩ <;> simp
  rw [← hW0]
  clear hW0
  obtain ⟨b0, b1, b2, b3, b4, b5, b6, b7, b8⟩ := CE0.out
  go_wp2_with fail
  refine (Hget.out W0 hB0).mono ?_
  rintro e w1 ⟨rfl, hb1⟩
  rw [Hg.out]
  unfold getV
  clear b0 b1 b2 b3 b4 b5 b6 b7 b8
  have CE1 := hid (CE0.out.below hb1 z0)
  have hB : Below w.heap.size w w1 := bnext hB0 hb1
  have z1 : w.heap.size < w1.heap.size := Nat.lt_of_lt_of_le z0 hb1.size
  have zne : w.heap.size ≠ w1.heap.size := by omega
  clear CE0 hB0 hb1 z0
  obtain ⟨b0, b1, b2, b3, b4, b5, b6, b7, b8⟩ := CE1.out
  go_wp2_with fail
  refine (Hcall.out _ (by (repeat (first | with_reducible exact hB | with_reducible refine Below.alloc ?_ (by have := hB.size; simp; try omega) _ | with_reducible refine Below.setCell ?_ (by have := hB.size; simp; try omega) _ | with_reducible refine below_drewN ?_ _ | with_reducible refine Below.drew ?_)))).mono ?_
  rintro e w2 ⟨A2, c2, rfl, hp2, hnew, hb2⟩
  simp only at hp2 ⊢
  obtain ⟨hc, hf⟩ := bcell hb2
  have Hp2 := hid hp2
  have Hnew := hid hnew
  have HW1 := hB.size
  have hB2 : Below w.heap.size w w2 := bnext (by (repeat (first | with_reducible exact hB | with_reducible refine Below.alloc ?_ (by have := hB.size; simp; try omega) _ | with_reducible refine Below.setCell ?_ (by have := hB.size; simp; try omega) _ | with_reducible refine below_drewN ?_ _ | with_reducible refine Below.drew ?_))) hb2
  have z2 : w1.heap.size < w2.heap.size := by have := hb2.size; simp at this; omega
  clear hp2 hnew
  generalize L2.length = n2 at *
  go_wp2_with fail
  have hB : Below w.heap.size w w2 := hB2
  have zz := hB.size
  refine (Hset.out ⟨⟨ri, rx, ry, ⟨rw, rh, L2⟩, ⟨cx, cy, cw, ch⟩, sh⟩, A2, n2, c2⟩ _ (by (repeat (first | with_reducible exact hB | with_reducible refine Below.alloc ?_ (by have := hB.size; simp; try omega) _ | with_reducible refine Below.setCell ?_ (by have := hB.size; simp; try omega) _ | with_reducible refine below_drewN ?_ _ | with_reducible refine Below.drew ?_))) (pixs_off (pixs_off (pixs_off Hp2.out (fun a ha => by have := Hnew.out a ha; simp at this; omega) _ _) (fun a ha => by have := Hnew.out a ha; simp at this; omega) _ _) (fun a ha => by have := Hnew.out a ha; simp at this; omega) _ _)).mono ?_
  rintro e w9 ⟨A9, n9, c9, rs9, rfl, ho, hd, hb9, hav⟩
  have Hav := hid (fun g (hg : g < w.heap.size) => hav g (Nat.lt_of_lt_of_le hg (Below.size (by (repeat (first | with_reducible exact hB | with_reducible refine Below.alloc ?_ (by have := hB.size; simp; try omega) _ | with_reducible refine Below.setCell ?_ (by have := hB.size; simp; try omega) _ | with_reducible refine below_drewN ?_ _ | with_reducible refine Below.drew ?_))))))
  clear hav
  have Ho := hid ho
  have Hd := hid hd
  have HB9 : Below w.heap.size w w9 := bnext (by (repeat (first | with_reducible exact hB | with_reducible refine Below.alloc ?_ (by have := hB.size; simp; try omega) _ | with_reducible refine Below.setCell ?_ (by have := hB.size; simp; try omega) _ | with_reducible refine below_drewN ?_ _ | with_reducible refine Below.drew ?_))) hb9
  clear ho hd hb9
  clear b0 b1 b2 b3 b4 b5 b6 b7 b8
  go_wp2_with fail
  go_ret2
  exact RetDo2.of_set _ Ho.out Hd.out HB9 (fun g hg ha hp => Hav.out g hg ha (fun a e => by have h1 := Hnew.out a e; simp at h1; have h2 := HW1; omega))
set_option maxRecDepth 100000 in
set_option maxHeartbeats 1600000 in
theorem do_k7 (oi ona onb onc ond ow oh : Int) (ol : List Px) (oA : Option Addr) (on oc : Nat) (A : Option Addr) (n c : Nat) (rs : List (FAt FObj)) (r0 : FAt FObj) (w : World) (h : Objs w A n rs) (hp : Pixs w oA on ol) (hr : Rise (dat rs)) (hn : n ≤ 1000) (hg : getR oi rs = some r0) :
    Calls Try.prog 46 #[.slice A n c, .agg #[.int .i64 7, .int .i64 oi, .int .i64 ona, .int .i64 onb, .int .i64 onc, .int .i64 ond, .int .i64 ow, .int .i64 oh, .slice oA on oc]] w (RetDo2 rs none (dropP oi (dat rs)) (.nilIface) w) := by
  obtain ⟨⟨ri, rx, ry, ⟨rw, rh, rl⟩, ⟨cx, cy, cw, ch⟩, sh⟩, rA, rn, rc⟩ := r0
  have hpx : Pixs w rA rn rl := h.2.2 _ (getR_mem hg).1
  have Hpx := hid hpx
  clear hpx
  have Hg := hid hg
  clear hg
  have Hget := hid (fun W (hb : Below w.heap.size w W) => get_any A n c rs oi W (h.below hb) hr hn)
  have Hset := hid (fun (r : FAt FObj) W (hb : Below w.heap.size w W) (hp : Pixs W r.A r.n r.x.pic.p) => set_any2 A n c rs r W (h.below hb) hp hr hn)
  have HO := hid h
  have Hp := hid hp
  have HR := hid hr
  clear h hp hr
  have Hcl := hid (fun W (hb : Below w.heap.size w W) => cloneob_any A n c rs W (HO.out.below hb) (by omega))
  have Hl := hid HO.out.1
  go_enter Try.func46, Try.ntmps46
  go_upto_region 1 with fail
  obtain ⟨W0, hW0⟩ : ∃ W0, W0 = w.alloc (.cells #[.int .i64 7, .int .i64 oi, .int .i64 ona, .int .i64 onb, .int .i64 onc, .int .i64 ond, .int .i64 ow, .int .i64 oh, .slice oA on oc] 51) := ⟨_, rfl⟩
  have hB0 : Below w.heap.size w W0 := by rw [hW0]; exact (Below.refl w.heap.size w).alloc (Nat.le_refl _) _
  have z0 : w.heap.size < W0.heap.size := by rw [hW0]; simp
  have CE0 : Hid (OpBox W0 w.heap.size 7 oi ona onb onc ond ow oh oA on oc) := by show OpBox _ _ _ _ _ _ _ _ _ _ _ _ _; rw [hW0]; refine ⟨?_, ?_, ?_, ?_, ?_, ?_, ?_, ?_, ?_⟩ <;> simp
  rw [← hW0]
  clear hW0
  obtain ⟨b0, b1, b2, b3, b4, b5, b6, b7, b8⟩ := CE0.out
  go_wp2_with fail
  refine (Hget.out W0 hB0).mono ?_
  rintro e w1 ⟨rfl, hb1⟩
  rw [Hg.out]
  unfold getV
  clear b0 b1 b2 b3 b4 b5 b6 b7 b8
  have CE1 := hid (CE0.out.below hb1 z0)
  have hB : Below w.heap.size w w1 := bnext hB0 hb1
  have z1 : w.heap.size < w1.heap.size := Nat.lt_of_lt_of_le z0 hb1.size
  have zne : w.heap.size ≠ w1.heap.size := by omega
  clear CE0 hB0 hb1 z0
  obtain ⟨b0, b1, b2, b3, b4, b5, b6, b7, b8⟩ := CE1.out
  go_wp2_with fail
  refine (Hcl.out _ (by (repeat (first | with_reducible exact hB | with_reducible refine Below.alloc ?_ (by have := hB.size; simp; try omega) _ | with_reducible refine Below.setCell ?_ (by have := hB.size; simp; try omega) _ | with_reducible refine below_drewN ?_ _ | with_reducible refine Below.drew ?_)))).mono ?_
  rintro e w2 ⟨V, rfl, hv, hb2⟩
  have hB2 : Below w.heap.size w w2 := bnext (by (repeat (first | with_reducible exact hB | with_reducible refine Below.alloc ?_ (by have := hB.size; simp; try omega) _ | with_reducible refine Below.setCell ?_ (by have := hB.size; simp; try omega) _ | with_reducible refine below_drewN ?_ _ | with_reducible refine Below.drew ?_))) hb2
  have hb2w : Below w1.heap.size w1 w2 := ((Below.refl w1.heap.size w1).alloc (Nat.le_refl _) _).trans (hb2.mono (by simp))
  have CE2 := hid (CE1.out.below hb2w z1)
  have zz : w1.heap.size < w2.heap.size := by have := hb2.size; simp at this; omega
  have Hdel := hid (delete_any rs n Hl.out oi w.heap.size _ V w2 hn hb2.size hv (fun q hq => (HO.out.2.2 q hq).below hB2) CE2.out.2.1 (by simp; omega))
  clear b0 b1 b2 b3 b4 b5 b6 b7 b8 hv
  go_wp2_with fail
  refine Hdel.out.mono ?_
  rintro e w3 ⟨v, rfl, hv3, hb3⟩
  have hB3 : Below w.heap.size w w3 := hB2.trans (hb3.mono (by have := hB.size; simp; omega))
  obtain ⟨A3, c3, rfl, -, -, ho⟩ := own_objs hv3 (fun q hq => by unfold dropR at hq; exact (HO.out.2.2 q (List.mem_filter.1 hq).1).below hB3)
  have Ho := hid ho
  have HV3 := hid hv3
  have HW1 := hB.size
  clear ho hv3 hb3
  generalize hdr : dropR oi rs = rs3 at *
  have Hdr := hid hdr
  clear hdr
  generalize rs3.length = m at *
  go_wp2_with fail
  go_ret2
  exact RetDo2.of_set _ Ho.out (by rw [← Hdr.out, dropR_dat]) hB3 (fun g hg ha _ => ⟨fun a e => by obtain ⟨A4, c4, e4, hA4, -⟩ := own_slice HV3.out; injection e4 with e5; have := (hA4 a (e5 ▸ e)).1; simp at this; omega, fun q hq => by rw [← Hdr.out] at hq; unfold dropR at hq; exact ha q (List.mem_filter.1 hq).1⟩)
end Fb
namespace Fb
open Go Go.Proofs Go.RowKit Go.Sort
theorem do_none_eq {l : List FObj} {x : FOp} (hk : x.kind ≠ 2) (h : getP x.id l = none) : doP l x = ([], 5) := by unfold doP; rw [if_neg hk, h]
theorem do_two_eq {l : List FObj} {x : FOp} (hk : x.kind = 2) : doP l x = (setP (freshP x.id x.pic) l, 0) := by unfold doP; rw [if_pos hk]
theorem do_seven_eq {l : List FObj} {x : FOp} {o : FObj} (hk : x.kind = 7) (h : getP x.id l = some o) : doP l x = (dropP x.id l, 0) := by unfold doP; rw [if_neg (by omega), h]; simp only; rw [if_pos hk]
theorem do_turn_eq {l : List FObj} {x : FOp} {o : FObj} (hk : x.kind ≠ 2) (hk7 : x.kind ≠ 7) (h : getP x.id l = some o) : doP l x = (setP (turnP o x) l, 0) := by unfold doP; rw [if_neg hk, h]; simp only; rw [if_neg hk7]
theorem boundB_place {x : FOp} (hk : x.kind = 8 ∨ x.kind = 9) (h : boundB x = true) : (-20 ≤ x.a ∧ x.a ≤ 20) ∧ (-20 ≤ x.b ∧ x.b ≤ 20) := by
  unfold boundB at h
  rw [if_neg (by omega), if_pos (by omega)] at h
  unfold inB at h
  simp at h
  omega
theorem shape_id {x : FOp} (h : shapeB x = true) (hk : hasId x.kind = false) : x.id = 0 := by
  unfold shapeB at h
  rw [hk] at h
  simp at h
  exact h.1
/-- whatever the op: the ways -/
theorem do_ways {rs : List (FAt FObj)} {x : FOp} (hf : ObjsFine (dat rs)) (ho : opFault x = 0) :
    x.kind = 2 ∨ (x.kind ≠ 2 ∧ getR x.id rs = none) ∨ ∃ r, getR x.id rs = some r ∧ ObjFine r.x ∧ (x.kind = 3 ∨ x.kind = 4 ∨ x.kind = 5 ∨ x.kind = 6 ∨ x.kind = 7 ∨ x.kind = 8 ∨ x.kind = 9) := by
  obtain ⟨⟨k1, k2⟩, hs, hid', -, -⟩ := opFault_fine ho
  by_cases h2 : x.kind = 2
  · exact Or.inl h2
  refine Or.inr ?_
  cases hg : getR x.id rs with
  | none => exact Or.inl ⟨h2, rfl⟩
  | some r =>
    refine Or.inr ⟨r, rfl, ?_⟩
    obtain ⟨hm, he⟩ := getR_mem hg
    have hfo : ObjFine r.x := hf.2 r.x (List.mem_map_of_mem hm)
    refine ⟨hfo, ?_⟩
    have h1 := hfo.1.1
    cases hh : hasId x.kind with
    | false => have := shape_id hs hh; omega
    | true => unfold hasId at hh; simp at hh; omega
theorem getP_none {rs : List (FAt FObj)} {id : Int} (h : getR id rs = none) : getP id (dat rs) = none := by rw [getR_dat, h]; rfl
theorem getP_some {rs : List (FAt FObj)} {id : Int} {r : FAt FObj} (h : getR id rs = some r) : getP id (dat rs) = some r.x := by rw [getR_dat, h]; rfl
theorem do_any3 (r : FAt FOp) (A : Option Addr) (n c : Nat) (rs : List (FAt FObj)) (w : World) (h : Objs w A n rs) (hp : Pixs w r.A r.n r.x.pic.p) (hf : ObjsFine (dat rs)) (hn : n ≤ 1000) (ho : opFault r.x = 0) :
    Calls Try.prog 46 #[.slice A n c, opV r] w (RetDo2 rs (if r.x.kind = 2 then r.A else none) (doP (dat rs) r.x).1 (errV (doP (dat rs) r.x).2) w) := by
  obtain ⟨-, -, -, hb, hpc⟩ := opFault_fine ho
  have hw := do_ways hf ho
  obtain ⟨⟨k, i, a, b, cc, d, ⟨pw, ph, pl⟩⟩, pA, pn, pc⟩ := r
  simp only at hp hw hb hpc ho
  unfold opV
  simp only
  rcases hw with rfl | ⟨hk, hg⟩ | ⟨r0, hg, hfo, hk⟩
  · rw [do_two_eq rfl, if_pos rfl]
    exact do_k2 i a b cc d pw ph pl pA pn pc A n c rs w h hp hf.1 hn
  · rw [do_none_eq hk (getP_none hg), if_neg hk]
    exact do_none k i a b cc d pw ph pl pA pn pc A n c rs w h hp hf.1 hn hk hg
  · rw [if_neg (by omega)]
    rcases hk with rfl | rfl | rfl | rfl | rfl | rfl | rfl
    · rw [do_turn_eq (by simp) (by simp) (getP_some hg)]
      exact do_k3 i a b cc d pw ph pl pA pn pc A n c rs r0 w h hp hf.1 hn hg
    · rw [do_turn_eq (by simp) (by simp) (getP_some hg)]
      exact do_k4 i a b cc d pw ph pl pA pn pc A n c rs r0 w h hp hf.1 hn hg
    · rw [do_turn_eq (by simp) (by simp) (getP_some hg)]
      cases h5 : decide (a = 1)
      · exact do_k5f i a b cc d pw ph pl pA pn pc A n c rs r0 w h hp hf.1 hn hg h5
      · exact do_k5t i a b cc d pw ph pl pA pn pc A n c rs r0 w h hp hf.1 hn hg h5
    · rw [do_turn_eq (by simp) (by simp) (getP_some hg)]
      exact do_k6 i a b cc d pw ph pl pA pn pc A n c rs r0 w h hp hf.1 hn hg
    · rw [do_seven_eq rfl (getP_some hg)]
      exact do_k7 i a b cc d pw ph pl pA pn pc A n c rs r0 w h hp hf.1 hn hg
    · rw [do_turn_eq (by simp) (by simp) (getP_some hg)]
      obtain ⟨hx, hy⟩ := boundB_place (Or.inl rfl) hb
      exact do_k8 i a b cc d pw ph pl pA pn pc A n c rs r0 w h hp hf.1 hn hg hfo.2.2 (picFault_fine.1 (hpc (by decide))) hx hy
    · rw [do_turn_eq (by simp) (by simp) (getP_some hg)]
      obtain ⟨hx, hy⟩ := boundB_place (Or.inr rfl) hb
      exact do_k9 i a b cc d pw ph pl pA pn pc A n c rs r0 w h hp hf.1 hn hg hfo.2.2 (picFault_fine.1 (hpc (by decide))) hx hy
theorem RetDo2.more {rs : List (FAt FObj)} {pA : Option Addr} {k : Int} {P : List FObj} {u : Value} {w w' : World} {e : Ending} (h : RetDo2 rs (if k = 2 then pA else none) P u w e w') : RetDo2 rs pA P u w e w' := by
  obtain ⟨A, n, c, rs', h1, h2, h3, h4, h5⟩ := h
  refine ⟨A, n, c, rs', h1, h2, h3, h4, fun g hg ha hp => h5 g hg ha ?_⟩
  split
  · exact hp
  · intro a e; cases e
theorem do_any2 (r : FAt FOp) (A : Option Addr) (n c : Nat) (rs : List (FAt FObj)) (w : World) (h : Objs w A n rs) (hp : Pixs w r.A r.n r.x.pic.p) (hf : ObjsFine (dat rs)) (hn : n ≤ 1000) (ho : opFault r.x = 0) :
    Calls Try.prog 46 #[.slice A n c, opV r] w (RetDo2 rs r.A (doP (dat rs) r.x).1 (errV (doP (dat rs) r.x).2) w) :=
  (do_any3 r A n c rs w h hp hf hn ho).mono fun _ _ h => h.more
theorem do_any (r : FAt FOp) (A : Option Addr) (n c : Nat) (rs : List (FAt FObj)) (w : World) (h : Objs w A n rs) (hp : Pixs w r.A r.n r.x.pic.p) (hf : ObjsFine (dat rs)) (hn : n ≤ 1000) (ho : opFault r.x = 0) :
    Calls Try.prog 46 #[.slice A n c, opV r] w (RetDo (doP (dat rs) r.x).1 (errV (doP (dat rs) r.x).2) w) := (do_any2 r A n c rs w h hp hf hn ho).mono fun _ _ h => h.fst
end Fb
