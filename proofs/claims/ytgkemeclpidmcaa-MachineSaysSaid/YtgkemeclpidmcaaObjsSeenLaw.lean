/- The box that holds a picture that is laid on again and again. Conditions: those of each lemma. -/
import Derived.Test.YtgkemeclpidmcaaPlainC
import Derived.Test.YtgkemeclpidmcaaWalksA
import Derived.Test.YtgkemeclpidmcaaObjsA
import Derived.Test.YtgkemeclpidmcaaBlendAdd
namespace Fb
open Go Go.Proofs Go.RowKit Go.Sort
/-- a box that holds a picture, and may be written -/
def PicBox (w : World) (g : Nat) (pw ph : Int) (A : Option Addr) (n c : Nat) : Prop := w.cell? ⟨g, 0, none⟩ = some (.int .i64 pw) ∧ w.cell? ⟨g, 1, none⟩ = some (.int .i64 ph) ∧ w.cell? ⟨g, 2, none⟩ = some (.slice A n c) ∧ (∀ o, w.frozen? ⟨g, o, none⟩ = false) ∧ g < w.heap.size
theorem PicBox.below {w w' : World} {B g : Nat} {pw ph : Int} {A : Option Addr} {n c : Nat} (h : PicBox w g pw ph A n c) (hb : Below B w w') (hB : g < B) : PicBox w' g pw ph A n c := by
  obtain ⟨c0, c1, c2, f, z⟩ := h
  have k : ∀ o v, w.cell? ⟨g, o, none⟩ = some v → w'.cell? ⟨g, o, none⟩ = some v := fun o v hv => (hb.cell (p := ⟨g, o, none⟩) hB).trans hv
  exact ⟨k _ _ c0, k _ _ c1, k _ _ c2, fun o => (hb.frozen (p := ⟨g, o, none⟩) hB).trans (f o), Nat.lt_of_lt_of_le z hb.size⟩
/-- another picture is put into the box -/
def putBox (w : World) (g : Nat) (pw ph : Int) (A : Option Addr) (n c : Nat) : World := ((w.setCell ⟨g, 0, none⟩ (.int .i64 pw)).setCell ⟨g, 1, none⟩ (.int .i64 ph)).setCell ⟨g, 2, none⟩ (.slice A n c)
theorem putBox_is {w : World} {g : Nat} {pw ph pw' ph' : Int} {A A' : Option Addr} {n c n' c' : Nat} (h : PicBox w g pw ph A n c) : PicBox (putBox w g pw' ph' A' n' c') g pw' ph' A' n' c' := by
  obtain ⟨c0, c1, c2, f, z⟩ := h
  unfold putBox
  refine ⟨?_, ?_, ?_, ?_, ?_⟩
  · go_simp
  · go_simp
  · go_simp
  · intro o; go_simp
  · simpa using z
theorem putBox_below {w0 w : World} {B g : Nat} (pw ph : Int) (A : Option Addr) (n c : Nat) (h : Below B w0 w) (hg : B ≤ g) : Below B w0 (putBox w g pw ph A n c) := ((h.setCell hg _).setCell hg _).setCell hg _
theorem putBox_pixs {w : World} {g : Nat} {pw ph : Int} {A B : Option Addr} {n c m : Nat} {l : List Px} (h : Pixs w B m l) (hne : ∀ a, B = some a → g ≠ a.block) : Pixs (putBox w g pw ph A n c) B m l :=
  pixs_off (pixs_off (pixs_off h hne _ _) hne _ _) hne _ _
theorem putBox_keep {w : World} {g g' : Nat} {pw ph : Int} {B : Option Addr} {m d : Nat} (pw' ph' : Int) (A : Option Addr) (n c : Nat) (h : PicBox w g' pw ph B m d) (hne : g ≠ g') : PicBox (putBox w g pw' ph' A n c) g' pw ph B m d := by
  obtain ⟨c0, c1, c2, f, z⟩ := h
  have hne' : g' ≠ g := fun e => hne e.symm
  unfold putBox
  refine ⟨?_, ?_, ?_, ?_, ?_⟩
  · go_simp
  · go_simp
  · go_simp
  · intro o; go_simp
  · simpa using z
/-- the box's slice alone is another one -/
theorem picbox_two {w : World} {g : Nat} {pw ph : Int} {A A' : Option Addr} {n c n' c' : Nat} (h : PicBox w g pw ph A n c) : PicBox (w.setCell ⟨g, 2, none⟩ (.slice A' n' c')) g pw ph A' n' c' := by
  obtain ⟨c0, c1, c2, f, z⟩ := h
  refine ⟨?_, ?_, ?_, ?_, ?_⟩
  · go_simp
  · go_simp
  · go_simp
  · intro o; go_simp
  · simpa using z
theorem own_other {w : World} {base : Nat} {e : TypeId} {size n : Nat} {v : Value} {xs : List Value} {g o : Nat} {u : Value} (h : w.ownsRow base e size v n xs) (hg : g < base) : (w.setCell ⟨g, o, none⟩ u).ownsRow base e size v n xs :=
  ownsRow_setCell_below h (a := ⟨g, o, none⟩) hg u
/-- a picture in new memory, by its parts -/
def RetPicN (pw ph : Int) (N : Nat) (l : List Px) (w : World) (e : Ending) (w' : World) : Prop := ∃ A c, e = .returned (.agg #[.int .i64 pw, .int .i64 ph, .slice A N c]) ∧ Pixs w' A N l ∧ (∀ a, A = some a → w.heap.size ≤ a.block) ∧ Below w.heap.size w w'
theorem ret_n {pw ph : Int} {N : Nat} {l : List Px} {w w' : World} {e : Ending} (hl : l.length = N) (h : RetPic ⟨pw, ph, l⟩ w e w') : RetPicN pw ph N l w e w' := by
  subst hl
  exact h
theorem pixs_blk_lt {w : World} {A : Option Addr} {n : Nat} {l : List Px} (h : Pixs w A n l) (hn : 0 < n) {a : Addr} (ha : A = some a) : a.block < w.heap.size := by
  obtain ⟨b, off, e, hb, -⟩ := h.open_ hn
  rw [e] at ha
  injection ha with ha
  rw [← ha]
  exact hb
end Fb
