/- What a box of the call's own holds: a picture, a pixel, an object. Conditions: none; plain lemmas. -/
import Derived.Test.YtgkemeclpidmcaaBase
namespace Fb
open Go Go.RowKit
theorem kcell {w w' : World} {B : Nat} (hb : Below B w w') {b o : Nat} {v : Value} (h : b < B) (hc : w.cell? ⟨b, o, none⟩ = some v) : w'.cell? ⟨b, o, none⟩ = some v := (hb.cell (p := ⟨b, o, none⟩) h).trans hc
/-- block g holds a picture's head -/
def PicAt (g : Nat) (pw ph : Int) (A : Option Addr) (n c : Nat) (W : World) : Prop := g < W.heap.size ∧ W.cell? ⟨g, 0, none⟩ = some (.int .i64 pw) ∧ W.cell? ⟨g, 1, none⟩ = some (.int .i64 ph) ∧ W.cell? ⟨g, 2, none⟩ = some (.slice A n c)
theorem PicAt.below {g : Nat} {pw ph : Int} {A : Option Addr} {n c : Nat} {W W' : World} (h : PicAt g pw ph A n c W) (hb : Below W.heap.size W W') : PicAt g pw ph A n c W' :=
  ⟨Nat.lt_of_lt_of_le h.1 hb.size, kcell hb h.1 h.2.1, kcell hb h.1 h.2.2.1, kcell hb h.1 h.2.2.2⟩
theorem PicAt.new (W : World) (pw ph : Int) (A : Option Addr) (n c : Nat) (t : TypeId) : PicAt W.heap.size pw ph A n c (W.alloc (.cells #[.int .i64 pw, .int .i64 ph, .slice A n c] t)) := ⟨by simp, by simp, by simp, by simp⟩
def PxAt (g : Nat) (v a : Int) (W : World) : Prop := g < W.heap.size ∧ W.cell? ⟨g, 0, none⟩ = some (.int .i64 v) ∧ W.cell? ⟨g, 1, none⟩ = some (.int .i64 a)
theorem PxAt.below {g : Nat} {v a : Int} {W W' : World} (h : PxAt g v a W) (hb : Below W.heap.size W W') : PxAt g v a W' := ⟨Nat.lt_of_lt_of_le h.1 hb.size, kcell hb h.1 h.2.1, kcell hb h.1 h.2.2⟩
theorem PxAt.new (W : World) (v a : Int) (t : TypeId) : PxAt W.heap.size v a (W.alloc (.cells #[.int .i64 v, .int .i64 a] t)) := ⟨by simp, by simp, by simp⟩
def PixIn (b off : Nat) (l : List Px) (W : World) : Prop := b < W.heap.size ∧ PixAt W b off l
theorem PixIn.below {b off : Nat} {l : List Px} {W W' : World} (h : PixIn b off l W) (hb : Below W.heap.size W W') : PixIn b off l W' := ⟨Nat.lt_of_lt_of_le h.1 hb.size, fun k hk => ⟨kcell hb h.1 (h.2 k hk).1, kcell hb h.1 (h.2 k hk).2⟩⟩
theorem pixs_in {w : World} {b off n : Nat} {l : List Px} (h : Pixs w (some ⟨b, off, none⟩) n l) (hn : 0 < n) : PixIn b off l w := by
  obtain ⟨b', off', e, hb, ha⟩ := h.open_ hn
  injection e with e
  injection e with e1 e2
  subst e1 e2
  exact ⟨hb, ha⟩
end Fb
