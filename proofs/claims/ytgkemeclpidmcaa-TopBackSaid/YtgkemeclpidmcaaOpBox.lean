/- A box that holds an op, and what its cells hold. Conditions: those of each lemma. -/
import Derived.Test.YtgkemeclpidmcaaOwnKit
import Derived.Test.YtgkemeclpidmcaaErr
import Derived.Lib.Builder
namespace Fb
open Go Go.Proofs Go.RowKit Go.Sort
def noOp : FOp := ⟨0, 0, 0, 0, 0, 0, ⟨0, 0, []⟩⟩
theorem opblk_cell {w : World} {g : Nat} {cur : Array Value} {T : TypeId} (h : w.heap[g]? = some (.cells cur T (0, 0))) (j : Nat) (u : Value) (hu : cur[j]? = some u) : w.cell? ⟨g, j, none⟩ = some u := by
  rw [Lib.cell_of_heap h]; exact hu
theorem opblk_free {w : World} {g : Nat} {cur : Array Value} {T : TypeId} (h : w.heap[g]? = some (.cells cur T (0, 0))) (j : Nat) : w.frozen? ⟨g, j, none⟩ = false := Lib.frozen_of_heap h j
theorem blk_keep {W W' : World} {g : Nat} {o : Go.Obj} (h : W.heap[g]? = some o) (hb : Below W.heap.size W W') : W'.heap[g]? = some o := by
  rw [hb.block g (Array.getElem?_eq_some_iff.1 h).1]; exact h
def OpBoxAt (g : Nat) (k i a b c d pw ph : Int) (A : Option Addr) (n cp : Nat) (W : World) : Prop := W.heap[g]? = some (.cells #[.int .i64 k, .int .i64 i, .int .i64 a, .int .i64 b, .int .i64 c, .int .i64 d, .int .i64 pw, .int .i64 ph, .slice A n cp] 51)
theorem OpBoxAt.cells {H : Nat} {k i a b c d pw ph : Int} {A : Option Addr} {n cp : Nat} {W : World} (h : OpBoxAt H k i a b c d pw ph A n cp W) :
    W.cell? ⟨H, 0, none⟩ = some (.int .i64 k) ∧ W.cell? ⟨H, 1, none⟩ = some (.int .i64 i) ∧ W.cell? ⟨H, 2, none⟩ = some (.int .i64 a) ∧ W.cell? ⟨H, 3, none⟩ = some (.int .i64 b) ∧ W.cell? ⟨H, 4, none⟩ = some (.int .i64 c) ∧ W.cell? ⟨H, 5, none⟩ = some (.int .i64 d) ∧ W.cell? ⟨H, 6, none⟩ = some (.int .i64 pw) ∧ W.cell? ⟨H, 7, none⟩ = some (.int .i64 ph) ∧ W.cell? ⟨H, 8, none⟩ = some (.slice A n cp) :=
  ⟨opblk_cell h 0 _ rfl, opblk_cell h 1 _ rfl, opblk_cell h 2 _ rfl, opblk_cell h 3 _ rfl, opblk_cell h 4 _ rfl, opblk_cell h 5 _ rfl, opblk_cell h 6 _ rfl, opblk_cell h 7 _ rfl, opblk_cell h 8 _ rfl⟩
end Fb
