/- Pictures in new memory, their address written out; stores that leave them alone. Conditions: pictures that may be. -/
import Derived.Test.YtjbnmgobgcgjmaaBlendAdd
import Derived.Test.YtjbnmgobgcgjmaaAddLaw
import Derived.Test.YtjbnmgobgcgjmaaHeld
import Derived.Test.YtjbnmgobgcgjmaaReelSame
namespace Fb
open Go Go.Proofs Go.RowKit Go.Sort
/-- the call returns a picture in new memory, at an address -/
def RetPicA (pw ph : Int) (l : List Px) (w : World) (e : Ending) (w' : World) : Prop := ∃ b off c : Nat, e = .returned (.agg #[.int .i64 pw, .int .i64 ph, .slice (some ⟨b, off, none⟩) l.length c]) ∧ Pixs w' (some ⟨b, off, none⟩) l.length l ∧ w.heap.size ≤ b ∧ b < w'.heap.size ∧ Below w.heap.size w w'
theorem ret_a {pw ph : Int} {l : List Px} {w w' : World} {e : Ending} (hf : PicFine ⟨pw, ph, l⟩) (h : RetPic ⟨pw, ph, l⟩ w e w') : RetPicA pw ph l w e w' := by
  obtain ⟨A, c, rfl, hp, hn, hb⟩ := h
  obtain ⟨b, off, rfl, hbl, -⟩ := hp.open_ (by have := pic_len hf; simp only at this ⊢; omega)
  exact ⟨b, off, c, rfl, hp, hn _ rfl, hbl, hb⟩
theorem Pixs.setCell {w : World} {b off n g o : Nat} {l : List Px} {v : Value} (h : Pixs w (some ⟨b, off, none⟩) n l) (hne : b ≠ g) : Pixs (w.setCell ⟨g, o, none⟩ v) (some ⟨b, off, none⟩) n l := by
  refine ⟨h.1, h.2.1, fun hn => ?_⟩
  obtain ⟨b', off', e, hb, hc⟩ := h.2.2 hn
  injection e with e
  injection e with e1 e2
  subst e1 e2
  refine ⟨b, off, rfl, by simpa using hb, fun j u hu => ?_⟩
  rw [World.cell?_of_block (w := w) (w' := w.setCell ⟨g, o, none⟩ v) (Below.heap_setCell w ⟨g, o, none⟩ v b hne)]
  exact hc j u hu
/-- a block whose cells may be written -/
def Free (g : Nat) (W : World) : Prop := g < W.heap.size ∧ ∀ o, W.frozen? ⟨g, o, none⟩ = false
theorem Free.below {g : Nat} {W W' : World} (h : Free g W) (hb : Below W.heap.size W W') : Free g W' := ⟨Nat.lt_of_lt_of_le h.1 hb.size, fun o => (hb.frozen (p := ⟨g, o, none⟩) h.1).trans (h.2 o)⟩
/-- the same picture at two addresses -/
theorem same_selfA (pw ph : Int) (l : List Px) (A B : Option Addr) (c d : Nat) (w : World) (ha : Pixs w A l.length l) (hb : Pixs w B l.length l) (hl : l.length ≤ 1000000) :
    Calls Try.prog 16 #[.agg #[.int .i64 pw, .int .i64 ph, .slice A l.length c], .agg #[.int .i64 pw, .int .i64 ph, .slice B l.length d]] w (Ret (.bool true) w) := by
  have h := rsame_pic_any ⟨⟨pw, ph, l⟩, A, l.length, c⟩ ⟨⟨pw, ph, l⟩, B, l.length, d⟩ w ha hb hl hl
  have e : samePic ⟨pw, ph, l⟩ ⟨pw, ph, l⟩ = true := by unfold samePic; simp
  simp only [e] at h
  exact h
end Fb
