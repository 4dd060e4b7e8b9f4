/- slices.IndexFunc, slices.DeleteFunc at objects, of a number: what is left. Conditions: the slice is the call's own; few elements. -/
import Derived.Test.YtbddmpbifkgloaaObjsSet
import Derived.Lib.SliceRun
namespace Fb
open Go Go.Proofs Go.RowKit Go.Sort
def zeroObV : Value := .agg #[.int .i64 0, .int .i64 0, .int .i64 0, .int .i64 0, .int .i64 0, .slice none 0 0, .int .i64 0, .int .i64 0, .int .i64 0, .int .i64 0, .bool false]
theorem zero_ob (w : World) : (zeroValue 29).run Try.prog w = .ok zeroObV w := by kernel_rfl
theorem zero_one {k : Nat} {u : Value} (h : u ∈ (Builtin.zeroCells zeroObV.cells k).toList) : u.oneCell' = true := by
  unfold Builtin.zeroCells at h
  simp only [Array.toList_map, List.mem_map, Array.mem_toList_iff, Array.mem_range] at h
  obtain ⟨i, -, rfl⟩ := h
  have hs : zeroObV.cells.size = 11 := rfl
  rw [hs]
  have hl : i % 11 < 11 := Nat.mod_lt _ (by omega)
  rcases (show i % 11 = 0 ∨ i % 11 = 1 ∨ i % 11 = 2 ∨ i % 11 = 3 ∨ i % 11 = 4 ∨ i % 11 = 5 ∨ i % 11 = 6 ∨ i % 11 = 7 ∨ i % 11 = 8 ∨ i % 11 = 9 ∨ i % 11 = 10 by omega) with e | e | e | e | e | e | e | e | e | e | e <;> rw [e] <;> rfl
theorem clear_into {w : World} {g o k c : Nat} {cur : List Value} (hg : w.heap[g]? = some (.cells cur.toArray 29 (0, 0))) (hk : 0 < k) (hfit : o + k * 11 ≤ cur.length) :
    ∃ w4, (∀ ty, (Builtin.clear_ #[22] ty #[.slice (some ⟨g, o, none⟩) k c]).run Try.prog w = .ok (.tuple #[]) w4) ∧
      Hid (w4.heap[g]? = some (.cells (splice cur o (Builtin.zeroCells zeroObV.cells k).toList).toArray 29 (0, 0))) ∧ Hid (∀ B w0, Below B w0 w → B ≤ g → Below B w0 w4) := by
  have hz : (Builtin.zeroCells zeroObV.cells k).toList.length = k * 11 := zeros_len _ k rfl
  have hst := run_storeCells_at Try.prog g o 29 (Builtin.zeroCells zeroObV.cells k).toList 0 cur.toArray w hg (by simpa [size_zeroCells, hz] using (show o + (Builtin.zeroCells zeroObV.cells k).toList.length ≤ cur.length by rw [hz]; exact hfit)) (fun u hu => zero_one hu)
  obtain ⟨m, rfl⟩ : ∃ m, k = m + 1 := ⟨k - 1, by omega⟩
  refine ⟨w.setRow g (cur.toArray.toList.take o ++ (Builtin.zeroCells zeroObV.cells (m + 1)).toList ++ cur.toArray.toList.drop (o + (Builtin.zeroCells zeroObV.cells (m + 1)).toList.length)).toArray, ?_, ?_, ?_⟩
  · intro ty
    simp only [Nat.add_zero] at hst
    have hz2 := fun w => zero_ob w
    unfold zeroObV at hst hz2 ⊢
    simp [Builtin.clear_, run_underlying Try.underlying22, hz2]
    rw [hst]
    simp
  · show _ = _
    rw [setRow_heap w g _ _ 29 _ hg]; simp [splice]
  · exact fun B w0 hb hB => below_setRow hb hB _
set_option maxRecDepth 100000 in
set_option maxHeartbeats 800000 in
theorem doid_any (r : FAt FObj) (id : Int) (bo : Nat) (w : World) (h : w.cell? ⟨bo, 1, none⟩ = some (.int .i64 id)) (hb : bo < w.heap.size) :
    Calls Try.prog 42 #[objV r, .pointer (some ⟨bo, 0, none⟩)] w (Ret (.bool (decide (r.x.id = id))) w) := by
  have hne : bo ≠ w.heap.size := by omega
  by_cases he : r.x.id = id
  · have hr := hid (show decide (r.x.id = id) = true by simp [he])
    have hq : (r.x.id == id) = true := by simp [he]
    clear he
    go_enter Try.func42, Try.ntmps42
    go_wp2_with fail
    go_ret
    exact ⟨by rw [hr.out]; rfl, by (repeat (first | with_reducible exact Below.refl _ _ | with_reducible refine Below.alloc ?_ (by first | omega | (simp; done) | (simp; omega)) _ | with_reducible refine below_drewN ?_ _ | with_reducible refine Below.drew ?_))⟩
  · have hr := hid (show decide (r.x.id = id) = false by simp [he])
    have hq : (r.x.id == id) = false := by simp [he]
    clear he
    go_enter Try.func42, Try.ntmps42
    go_wp2_with fail
    go_ret
    exact ⟨by rw [hr.out]; rfl, by (repeat (first | with_reducible exact Below.refl _ _ | with_reducible refine Below.alloc ?_ (by first | omega | (simp; done) | (simp; omega)) _ | with_reducible refine below_drewN ?_ _ | with_reducible refine Below.drew ?_))⟩
/-- an index of the first object of the number; -1: there is none -/
def IdxId (rs : List (FAt FObj)) (id : Int) (w : World) (e : Ending) (w' : World) : Prop := ∃ q : Int, e = .returned (.int .i64 q) ∧
  ((q = -1 ∧ ∀ r ∈ rs, r.x.id ≠ id) ∨ ∃ k : Nat, q = k ∧ k < rs.length ∧ (∀ j (h : j < rs.length), j < k → rs[j].x.id ≠ id) ∧ ∃ h : k < rs.length, rs[k].x.id = id) ∧ Below w.heap.size w w'
set_option maxRecDepth 100000 in
set_option maxHeartbeats 1600000 in
theorem indexid_any (A : Option Addr) (n c : Nat) (rs : List (FAt FObj)) (id : Int) (bo : Nat) (w : World) (h : Objs w A n rs) (hn : n ≤ 1000) (hb : w.cell? ⟨bo, 1, none⟩ = some (.int .i64 id)) (hbo : bo < w.heap.size) :
    Calls Try.prog 61 #[.slice A n c, .func (.func 42) #[] #[.pointer (some ⟨bo, 0, none⟩)]] w (IdxId rs id w) := by
  have Hl := hid h.1
  have HO := hid h
  have Hbo := hid hb
  clear h hb
  go_enter Try.func61, Try.ntmps61
  go_wp2_with fail
  go_loopw [8] (fun i wr => ∃ k : Nat, k ≤ n ∧ i = .int .i64 k ∧ Hid (∀ j (h : j < rs.length), j < k → rs[j].x.id ≠ id) ∧ Below w.heap.size w wr) (fun i _ => n - (intOf i).toNat)
  case atStart => exact ⟨0, by omega, rfl, hid (fun j h hj => absurd hj (by omega)), Below.refl _ _⟩
  case round =>
    obtain ⟨k, hk, rfl, hz, hbel⟩ := hrel
    by_cases hlt : k < n
    · have k1 : k < rs.length := by rw [Hl.out]; exact hlt
      obtain ⟨b, off, rfl, hbs, hc⟩ := HO.out.open_ (by omega)
      obtain ⟨d0, d1, d2, d3, d4, d5, d6, d7, d8, d9, d10⟩ := hc.cells hbel hbs k1
      have q2 : (k : Int) < (n : Int) := by omega
      have Hhit := hid (fun h : rs[k].x.id = id => (⟨k, rfl, k1, hz.out, k1, h⟩ : ∃ k' : Nat, ((k : Nat) : Int) = k' ∧ k' < rs.length ∧ (∀ j (h : j < rs.length), j < k' → rs[j].x.id ≠ id) ∧ ∃ h : k' < rs.length, rs[k'].x.id = id))
      have Hst := hid (fun h : rs[k].x.id ≠ id => fun j (hj : j < rs.length) (hj2 : j < k + 1) => (show rs[j].x.id ≠ id from by
        by_cases e : j = k
        · subst e; exact h
        · exact hz.out j hj (by omega)))
      clear hz hc
      have Hc := hid (fun W (hB : Below w.heap.size w W) => doid_any rs[k] id bo W ((hB.cell hbo).trans Hbo.out) (Nat.lt_of_lt_of_le hbo hB.size))
      generalize rs[k] = r at *
      by_cases hx : r.x.id = id
      · have Hh := hid (Hhit.out hx)
        have hd := hid (show decide (r.x.id = id) = true by simp [hx])
        clear hx Hst Hhit
        go_wp2_with fail
        refine (Hc.out _ hbel).mono ?_
        rintro e w1 ⟨rfl, hb1⟩
        have hbel' := bnext hbel hb1
        rw [hd.out]
        clear hbel hb1 d0 d1 d2 d3 d4 d5 d6 d7 d8 d9 d10
        go_wp2_with fail
        go_ret
        exact ⟨k, rfl, Or.inr Hh.out, hbel'⟩
      · have Hs := hid (Hst.out hx)
        have hd := hid (show decide (r.x.id = id) = false by simp [hx])
        clear hx Hst Hhit
        go_wp2_with fail
        refine (Hc.out _ hbel).mono ?_
        rintro e w1 ⟨rfl, hb1⟩
        have hbel' := bnext hbel hb1
        rw [hd.out]
        clear hbel hb1 d0 d1 d2 d3 d4 d5 d6 d7 d8 d9 d10
        go_wp2_with fail
        go_roundw
        case rel => exact ⟨k + 1, by omega, by go_num, Hs, hbel'⟩
        case measure => simp [intOf]; omega
    · have Hn := hid (show ∀ r ∈ rs, r.x.id ≠ id from fun r hr => by
        obtain ⟨j, hj, rfl⟩ := List.getElem_of_mem hr
        exact hz.out j hj (by rw [Hl.out] at hj; omega))
      clear hz
      go_wp2_with fail
      go_ret
      exact ⟨-1, rfl, Or.inl ⟨rfl, Hn.out⟩, hbel⟩
end Fb
