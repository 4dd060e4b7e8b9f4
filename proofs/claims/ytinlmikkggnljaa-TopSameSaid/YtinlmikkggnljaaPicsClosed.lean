/- flickerbooklaw.pictures: a closed fact. No conditions. -/
import Derived.Test.YtinlmikkggnljaaPicBytesW
import Derived.Test.YtinlmikkggnljaaSameWalk
namespace Fb
open Go Go.Proofs Go.RowKit Go.Sort
theorem pixs_blk2 {w : World} {pb n : Nat} {l : List Px} {T : TypeId} {fz : Nat × Nat} (h : w.heap[pb]? = some (.cells (pxCells l).toArray T fz)) (hn : l.length = n) : Pixs w (some ⟨pb, 0, none⟩) n l := by
  refine ⟨hn, by rw [pxCells_len, hn], fun _ => ⟨pb, 0, rfl, (Array.getElem?_eq_some_iff.1 h).1, fun j u hu => ?_⟩⟩
  rw [Lib.cell_of_heap h, Nat.zero_add]
  simpa using hu
theorem picB_one : picB ⟨1, 1, [(7, 7)]⟩ = [1, 1, 1, 0, 2, 7] := by decide
theorem picF_one : picFault ⟨1, 1, [(7, 7)]⟩ = 0 := by decide
set_option maxRecDepth 100000 in
set_option maxHeartbeats 1000000 in
theorem pictures_any (w : World) : Calls Try.prog 10 #[] w (Ret (.bool true) w) := by
  have hB1 : Below w.heap.size w (w.alloc (.cells #[.int .i64 7, .int .i64 7] 43)) := (Below.refl _ _).alloc (Nat.le_refl _) _
  have hpx : Pixs (w.alloc (.cells #[.int .i64 7, .int .i64 7] 43)) (some ⟨w.heap.size, 0, none⟩) 1 [(7, 7)] := pixs_blk2 (fz := (0, 0)) (heap_alloc_new w _) rfl
  have Hp := hid hpx
  clear hpx
  go_enter Try.func10, Try.ntmps10
  go_wp2_with fail
  refine (pbytes_any ⟨⟨1, 1, [(7, 7)]⟩, some ⟨w.heap.size, 0, none⟩, 1, 1⟩ _ Hp.out (by show 1 ≤ 100; omega)).mono ?_
  rintro e w1 ⟨rfl, hb⟩
  have hB2 := bnext hB1 hb
  clear hb hB1 Hp
  unfold picBV
  simp only [picB_one, picF_one, errV_zero]
  go_wp2_with fail
  refine (same_any 0 0 _ (by decide)).mono ?_
  rintro e w2 ⟨rfl, hb⟩
  have hB3 := bnext hB2 hb
  clear hb hB2
  have e0 : sameB 0 0 = true := rfl
  have e1 : strOf [1, 1, 1, 0, 2, 7] = ⟨#[1, 1, 1, 0, 2, 7]⟩ := rfl
  rw [e0]
  clear e0
  go_wp2_with fail
  go_ret
  exact ⟨rfl, hB3⟩
end Fb
