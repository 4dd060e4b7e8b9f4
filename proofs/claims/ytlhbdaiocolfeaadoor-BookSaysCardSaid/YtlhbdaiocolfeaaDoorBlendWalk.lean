/- slices.Clone at pixels, blend.whole, the closures of Add and Put, the reference's Over. Conditions: bounds on lengths and pixels. -/
import Derived.Test.YtlhbdaiocolfeaaDoorBlendLaw
import Derived.Test.YtlhbdaiocolfeaaDoorOverWalk
import Derived.Test.YtlhbdaiocolfeaaDoorOwnKit
import Derived.Test.YtlhbdaiocolfeaaDoorStructEq
import Derived.RegionTactic
namespace Fb
open Go Go.Proofs Go.RowKit Go.Sort
theorem info_px : (Tryd.prog.info? 114).map (fun i => (i.zero, i.size, i.bytes)) = some (some (.agg #[.int .i64 0, .int .i64 0]), 2, 16) := by kernel_rfl
/-- the call returns a slice of its own that holds the cells xs -/
def RetOwn (t : TypeId) (size : Nat) (xs : List Value) (n : Nat) (w : World) (e : Ending) (w' : World) : Prop := ∃ v, e = .returned v ∧ w'.ownsRow w.heap.size t size v n xs ∧ Below w.heap.size w w'
theorem pxCells_cell {l : List Px} {u : Value} (h : u ∈ pxCells l) : u.oneCell' = true := by
  unfold pxCells at h
  obtain ⟨p, _, hp⟩ := List.mem_flatMap.1 h
  simp at hp
  rcases hp with rfl | rfl <;> rfl
theorem pxCells_len (l : List Px) : (pxCells l).length = l.length * 2 := flat_len (enc := fun p : Px => [.int .i64 p.1, .int .i64 p.2]) (fun _ => rfl) l
/-! ## only one block has turned -/
theorem gb_refl (w : World) (r : Option Nat) : w.grownBy w r := ⟨rfl, rfl, rfl, Nat.le_refl _, fun _ _ _ => rfl⟩
theorem gb_below {a w w' : World} {r : Option Nat} (h : a.grownBy w r) (hb : Below w.heap.size w w') : a.grownBy w' r :=
  ⟨hb.os.trans h.os, hb.tape.trans h.tape, hb.output.trans h.output, Nat.le_trans h.size hb.size, fun k hk hne => (hb.block k (Nat.lt_of_lt_of_le hk h.size)).trans (h.block k hk hne)⟩
theorem gb_drewN {a w : World} {r : Option Nat} (h : a.grownBy w r) (n : Nat) : a.grownBy (w.drewN n) r := ⟨h.os, h.tape, h.output, h.size, h.block⟩
theorem gb_drew {a w : World} {r : Option Nat} (h : a.grownBy w r) : a.grownBy w.drew r := ⟨h.os, h.tape, h.output, h.size, h.block⟩
theorem gb_set {a w : World} {g : Nat} (h : a.grownBy w (some g)) (o : Nat) (u : Value) : a.grownBy (w.setCell ⟨g, o, none⟩ u) (some g) :=
  ⟨h.os, h.tape, h.output, by simpa using h.size, fun k hk hne => (Below.heap_setCell w ⟨g, o, none⟩ u k (fun e => hne (by rw [e]))).trans (h.block k hk hne)⟩
theorem gb_cell {a w : World} {g b o : Nat} {v : Value} (h : a.grownBy w (some g)) (hb : b < a.heap.size) (hne : b ≠ g) (hc : a.cell? ⟨b, o, none⟩ = some v) : w.cell? ⟨b, o, none⟩ = some v := by
  rw [World.cell?_of_block (w := a) (w' := w) (h.block b hb (fun e => hne (by injection e)))]
  exact hc
theorem pxCells_set (l : List Px) (k : Nat) (p : Px) : ((pxCells l).set (k * 2) (.int .i64 p.1)).set (k * 2 + 1) (.int .i64 p.2) = pxCells (l.set k p) := by
  induction l generalizing k with
  | nil => simp [pxCells]
  | cons a l ih =>
    cases k with
    | zero => simp [pxCells]
    | succ k =>
      have e : (k + 1) * 2 = k * 2 + 1 + 1 := by omega
      have := ih k
      simp only [pxCells, List.flatMap_cons, List.set_cons_succ] at this ⊢
      rw [e]
      simp only [List.cons_append, List.nil_append, List.set_cons_succ, this]
theorem own_px {w : World} {base g n cap : Nat} {l : List Px} (h : w.ownsRow base 114 2 (.slice (some ⟨g, 0, none⟩) n cap) n (pxCells l)) {k : Nat} {p : Px} (hk : l[k]? = some p) :
    w.cell? ⟨g, k * 2, none⟩ = some (.int .i64 p.1) ∧ w.cell? ⟨g, k * 2 + 1, none⟩ = some (.int .i64 p.2) := by
  have h0 := own_cell (cel := fun p : Px => [.int .i64 p.1, .int .i64 p.2]) (fun _ => rfl) h hk (j := 0) (by decide)
  have h1 := own_cell (cel := fun p : Px => [.int .i64 p.1, .int .i64 p.2]) (fun _ => rfl) h hk (j := 1) (by decide)
  exact ⟨by simpa using h0, by simpa using h1⟩
theorem own_set {w : World} {base g n cap : Nat} {l : List Px} (h : w.ownsRow base 114 2 (.slice (some ⟨g, 0, none⟩) n cap) n (pxCells l)) (k : Nat) (p : Px) :
    ((w.setCell ⟨g, k * 2, none⟩ (.int .i64 p.1)).setCell ⟨g, k * 2 + 1, none⟩ (.int .i64 p.2)).ownsRow base 114 2 (.slice (some ⟨g, 0, none⟩) n cap) n (pxCells (l.set k p)) := by
  rw [← pxCells_set]
  exact ((h.stored (k * 2) (.int .i64 p.1)).1.stored (k * 2 + 1) (.int .i64 p.2)).1
theorem gb_frozen {a w : World} {g b o : Nat} (h : a.grownBy w (some g)) (hb : b < a.heap.size) (hne : b ≠ g) (hc : a.frozen? ⟨b, o, none⟩ = false) : w.frozen? ⟨b, o, none⟩ = false := by
  rw [World.frozen?_of_block (w := a) (w' := w) (h.block b hb (fun e => hne (by injection e)))]
  exact hc
theorem pixs_own {w : World} {base g n cap : Nat} {l : List Px} (h : w.ownsRow base 114 2 (.slice (some ⟨g, 0, none⟩) n cap) n (pxCells l)) (hl : l.length = n) : Pixs w (some ⟨g, 0, none⟩) n l := ⟨hl, Row.of_own h⟩
end Fb
