/- blend.change, Add and Put return what the plain laws say. Conditions: pictures that may be, places not too far. -/
import Derived.Test.YtlhbdaiocolfeaaDoorBlendWalk
import Derived.Test.YtlhbdaiocolfeaaDoorBlendLaw2
import Derived.Test.YtlhbdaiocolfeaaDoorTailRegion
import Derived.Deep.RegionHeld3
import Derived.OneCell
import Derived.Deep.CutBlock
import Derived.Deep.DeepCutAuto
namespace Fb
open Go Go.Proofs Go.RowKit Go.Sort
/-- the call returns a picture in new memory -/
def RetPic (x : FPic) (w : World) (e : Ending) (w' : World) : Prop := ∃ (A : Option Addr) (c : Nat), e = .returned (.agg #[.int .i64 x.w, .int .i64 x.h, .slice A x.p.length c]) ∧ Pixs w' A x.p.length x.p ∧ (∀ a, A = some a → w.heap.size ≤ a.block) ∧ Below w.heap.size w w'
theorem pic_len {p : FPic} (h : PicFine p) : 1 ≤ p.p.length ∧ p.p.length ≤ 64 := by
  obtain ⟨h1, h2, h3, h4, h5, -⟩ := h
  have a1 : 1 * 1 ≤ p.w * p.h := Int.mul_le_mul h1 h3 (by omega) (by omega)
  have a2 : p.w * p.h ≤ 8 * 8 := Int.mul_le_mul h2 h4 (by omega) (by omega)
  omega
theorem cell_all2 {w : World} {b o : Nat} {v : Value} (hb : b < w.heap.size) (h : w.cell? ⟨b, o, none⟩ = some v) (d : Nat) (os : Array Go.Obj) : (grow (redrawn w d) os).cell? ⟨b, o, none⟩ = some v := ((below_regrown w d os).cell (p := ⟨b, o, none⟩) hb).trans h
/-- cells and marks of an old block, in one fact -/
theorem held_cell {w w' : World} {B : Nat} (hb : Below B w w') {b o : Nat} {v : Value} (h : b < B) (hc : w.cell? ⟨b, o, none⟩ = some v) : w'.cell? ⟨b, o, none⟩ = some v := (hb.cell (p := ⟨b, o, none⟩) h).trans hc
/-- the rect r lies in a new block, that slot t points to -/
def NewRect (W : World) (r : FRect) (t : Value) (wi : World) : Prop := ∃ gr, t = .pointer (some ⟨gr, 0, none⟩) ∧ W.heap.size ≤ gr ∧ RectAt wi gr r ∧ Below W.heap.size W wi
theorem below_grown {a w w' : World} {B g : Nat} (h : Below B a w) (hg : w.grownBy w' (some g)) (hB : B ≤ w.heap.size) (hb : B ≤ g) : Below B a w' :=
  ⟨hg.os.trans h.os, hg.tape.trans h.tape, hg.output.trans h.output, Nat.le_trans h.size hg.size, fun k hk => (hg.block k (by omega) (by intro e; injection e; omega)).trans (h.block k hk)⟩
theorem change_eq {g : Px → Px → Px} {l q : List Px} {P H Q K : Nat} {x y : Int} {cc : Nat → Nat → Bool} {vv : Nat → Nat → Px} (hc : onB ⟨x, y, (Q : Int), (K : Int)⟩ = cc)
    (hv : (fun j i => g (l.getD (j * P + i) (0, 0)) (srcP ⟨(Q : Int), (K : Int), q⟩ x y j i)) = vv) : changeP g ⟨(P : Int), (H : Int), l⟩ ⟨(Q : Int), (K : Int), q⟩ x y = ⟨(P : Int), (H : Int), updL P l cc vv⟩ := by
  subst hc hv
  unfold changeP
  simp
end Fb
