/- What is seen of objects, in plain Lean; the box that holds a picture that is laid on again and again. Conditions: those of each lemma. -/
import Derived.Test.YtbddmpbifkgloaaPlain
import Derived.Test.YtbddmpbifkgloaaLayLaw
import Derived.Test.YtbddmpbifkgloaaObjsA
import Derived.Test.YtbddmpbifkgloaaBlendAdd
namespace Fb
open Go Go.Proofs Go.RowKit Go.Sort
def seenP (l : List FObj) (X Y : Nat) (back : Px) : FPic := l.foldl layP (plainP X Y back)
theorem plain_fine {X Y : Nat} {b : Px} (h1 : 1 ≤ X) (h2 : X ≤ 8) (h3 : 1 ≤ Y) (h4 : Y ≤ 8) (hb : PxFine b) : PicFine (plainP X Y b) := by
  unfold plainP PicFine
  simp only
  refine ⟨by omega, by omega, by omega, by omega, by rw [List.length_replicate]; exact Int.natCast_mul X Y, fun q hq => ?_⟩
  rw [List.eq_of_mem_replicate hq]
  exact hb
theorem foldl_lay {p : FPic} : ∀ (l : List FObj), (l.foldl layP p).w = p.w ∧ (l.foldl layP p).h = p.h ∧ (l.foldl layP p).p.length = p.p.length
  | [] => ⟨rfl, rfl, rfl⟩
  | o :: l => by
    have := foldl_lay (p := layP p o) l
    rw [List.foldl_cons]
    refine ⟨this.1.trans rfl, this.2.1.trans rfl, this.2.2.trans ?_⟩
    unfold layP
    simp [updL_len]
theorem foldl_fine {p : FPic} (hp : PicFine p) : ∀ (l : List FObj), (∀ o ∈ l, ObjFine o) → PicFine (l.foldl layP p)
  | [], _ => hp
  | o :: l, h => by
    rw [List.foldl_cons]
    exact foldl_fine (lay_fine hp (h o (by simp)).2.2) l (fun q hq => h q (by simp [hq]))
/-- the picture after k objects -/
def seenK (l : List FObj) (X Y : Nat) (back : Px) (k : Nat) : FPic := seenP (l.take k) X Y back
theorem seenK_zero (l : List FObj) (X Y : Nat) (back : Px) : seenK l X Y back 0 = plainP X Y back := rfl
theorem seenK_succ {l : List FObj} {X Y : Nat} {back : Px} {k : Nat} (h : k < l.length) : seenK l X Y back (k + 1) = layP (seenK l X Y back k) l[k] := by
  unfold seenK seenP
  rw [List.take_succ_eq_append_getElem h, List.foldl_append]
  rfl
theorem seenK_all {l : List FObj} {X Y : Nat} {back : Px} {k : Nat} (h : l.length ≤ k) : seenK l X Y back k = seenP l X Y back := by unfold seenK; rw [List.take_of_length_le h]
theorem seenK_shape (l : List FObj) (X Y : Nat) (back : Px) (k : Nat) : seenK l X Y back k = ⟨(X : Int), (Y : Int), (seenK l X Y back k).p⟩ ∧ (seenK l X Y back k).p.length = X * Y := by
  obtain ⟨h1, h2, h3⟩ := foldl_lay (p := plainP X Y back) (l.take k)
  have e : (seenK l X Y back k) = ⟨(seenK l X Y back k).w, (seenK l X Y back k).h, (seenK l X Y back k).p⟩ := rfl
  refine ⟨?_, ?_⟩
  · rw [e]
    have a1 : (seenK l X Y back k).w = (X : Int) := h1
    have a2 : (seenK l X Y back k).h = (Y : Int) := h2
    rw [a1, a2]
  · have : (seenK l X Y back k).p.length = (plainP X Y back).p.length := h3
    rw [this]
    unfold plainP
    simp
theorem seenK_fine {l : List FObj} {X Y : Nat} {back : Px} (k : Nat) (h1 : 1 ≤ X) (h2 : X ≤ 8) (h3 : 1 ≤ Y) (h4 : Y ≤ 8) (hb : PxFine back) (hf : ∀ o ∈ l, ObjFine o) : PicFine (seenK l X Y back k) :=
  foldl_fine (plain_fine h1 h2 h3 h4 hb) _ (fun o ho => hf o (List.mem_of_mem_take ho))
/-- a box that holds a picture, and may be written -/
def PicBox (w : World) (g : Nat) (pw ph : Int) (A : Option Addr) (n c : Nat) : Prop := w.cell? ⟨g, 0, none⟩ = some (.int .i64 pw) ∧ w.cell? ⟨g, 1, none⟩ = some (.int .i64 ph) ∧ w.cell? ⟨g, 2, none⟩ = some (.slice A n c) ∧ (∀ o, w.frozen? ⟨g, o, none⟩ = false) ∧ g < w.heap.size
theorem PicBox.below {w w' : World} {B g : Nat} {pw ph : Int} {A : Option Addr} {n c : Nat} (h : PicBox w g pw ph A n c) (hb : Below B w w') (hB : g < B) : PicBox w' g pw ph A n c := by
  obtain ⟨c0, c1, c2, f, z⟩ := h
  have k : ∀ o v, w.cell? ⟨g, o, none⟩ = some v → w'.cell? ⟨g, o, none⟩ = some v := fun o v hv => (hb.cell (p := ⟨g, o, none⟩) hB).trans hv
  exact ⟨k _ _ c0, k _ _ c1, k _ _ c2, fun o => (hb.frozen (p := ⟨g, o, none⟩) hB).trans (f o), Nat.lt_of_lt_of_le z hb.size⟩
/-- another picture is put into the box -/
def putBox (w : World) (g : Nat) (pw ph : Int) (A : Option Addr) (n c : Nat) : World := ((w.setCell ⟨g, 0, none⟩ (.int .i64 pw)).setCell ⟨g, 1, none⟩ (.int .i64 ph)).setCell ⟨g, 2, none⟩ (.slice A n c)
theorem putBox_is {w : World} {g : Nat} {pw ph pw' ph' : Int} {A A' : Option Addr} {n c n' c' : Nat} (h : PicBox w g pw ph A n c) : PicBox (putBox w g pw' ph' A' n' c') g pw' ph' A' n' c' := by
  obtain ⟨c0, c1, c2, f, z⟩ := h
  unfold putBox
  refine ⟨?_, ?_, ?_, ?_, ?_⟩
  · go_simp
  · go_simp
  · go_simp
  · intro o; go_simp
  · simpa using z
theorem putBox_below {w0 w : World} {B g : Nat} (pw ph : Int) (A : Option Addr) (n c : Nat) (h : Below B w0 w) (hg : B ≤ g) : Below B w0 (putBox w g pw ph A n c) := ((h.setCell hg _).setCell hg _).setCell hg _
theorem putBox_pixs {w : World} {g : Nat} {pw ph : Int} {A B : Option Addr} {n c m : Nat} {l : List Px} (h : Pixs w B m l) (hne : ∀ a, B = some a → g ≠ a.block) : Pixs (putBox w g pw ph A n c) B m l :=
  pixs_off (pixs_off (pixs_off h hne _ _) hne _ _) hne _ _
theorem putBox_keep {w : World} {g g' : Nat} {pw ph : Int} {B : Option Addr} {m d : Nat} (pw' ph' : Int) (A : Option Addr) (n c : Nat) (h : PicBox w g' pw ph B m d) (hne : g ≠ g') : PicBox (putBox w g pw' ph' A n c) g' pw ph B m d := by
  obtain ⟨c0, c1, c2, f, z⟩ := h
  have hne' : g' ≠ g := fun e => hne e.symm
  unfold putBox
  refine ⟨?_, ?_, ?_, ?_, ?_⟩
  · go_simp
  · go_simp
  · go_simp
  · intro o; go_simp
  · simpa using z
/-- the box's slice alone is another one -/
theorem picbox_two {w : World} {g : Nat} {pw ph : Int} {A A' : Option Addr} {n c n' c' : Nat} (h : PicBox w g pw ph A n c) : PicBox (w.setCell ⟨g, 2, none⟩ (.slice A' n' c')) g pw ph A' n' c' := by
  obtain ⟨c0, c1, c2, f, z⟩ := h
  refine ⟨?_, ?_, ?_, ?_, ?_⟩
  · go_simp
  · go_simp
  · go_simp
  · intro o; go_simp
  · simpa using z
theorem own_other {w : World} {base : Nat} {e : TypeId} {size n : Nat} {v : Value} {xs : List Value} {g o : Nat} {u : Value} (h : w.ownsRow base e size v n xs) (hg : g < base) : (w.setCell ⟨g, o, none⟩ u).ownsRow base e size v n xs :=
  ownsRow_setCell_below h (a := ⟨g, o, none⟩) hg u
/-- a picture in new memory, by its parts -/
def RetPicN (pw ph : Int) (N : Nat) (l : List Px) (w : World) (e : Ending) (w' : World) : Prop := ∃ A c, e = .returned (.agg #[.int .i64 pw, .int .i64 ph, .slice A N c]) ∧ Pixs w' A N l ∧ (∀ a, A = some a → w.heap.size ≤ a.block) ∧ Below w.heap.size w w'
theorem ret_n {pw ph : Int} {N : Nat} {l : List Px} {w w' : World} {e : Ending} (hl : l.length = N) (h : RetPic ⟨pw, ph, l⟩ w e w') : RetPicN pw ph N l w e w' := by
  subst hl
  exact h
theorem pixs_blk_lt {w : World} {A : Option Addr} {n : Nat} {l : List Px} (h : Pixs w A n l) (hn : 0 < n) {a : Addr} (ha : A = some a) : a.block < w.heap.size := by
  obtain ⟨b, off, e, hb, -⟩ := h.open_ hn
  rw [e] at ha
  injection ha with ha
  rw [← ha]
  exact hb
end Fb
