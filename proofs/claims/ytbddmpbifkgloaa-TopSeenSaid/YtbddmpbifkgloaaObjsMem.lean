/- Objects in memory: the cells of a slice of objects; what a call leaves that returns one. Conditions: none; plain lemmas. -/
import Derived.Test.YtbddmpbifkgloaaObjsLaw
import Derived.Test.YtbddmpbifkgloaaObjFineW
import Derived.Test.YtbddmpbifkgloaaBlend
namespace Fb
open Go Go.Proofs Go.RowKit Go.Sort
/-- the data of what lies in memory -/
def dat (rs : List (FAt FObj)) : List FObj := rs.map (·.x)
theorem dat_len (rs : List (FAt FObj)) : (dat rs).length = rs.length := by simp [dat]
theorem dat_at {rs : List (FAt FObj)} {k : Nat} (h : k < rs.length) : (dat rs)[k]'(by rw [dat_len]; exact h) = rs[k].x := by simp [dat]
def ObAt (w : World) (b off : Nat) (rs : List (FAt FObj)) : Prop := ∀ k (h : k < rs.length), w.cell? ⟨b, off + k * 11, none⟩ = some (.int .i64 rs[k].x.id) ∧ w.cell? ⟨b, off + k * 11 + 1, none⟩ = some (.int .i64 rs[k].x.x) ∧
  w.cell? ⟨b, off + k * 11 + 2, none⟩ = some (.int .i64 rs[k].x.y) ∧ w.cell? ⟨b, off + k * 11 + 3, none⟩ = some (.int .i64 rs[k].x.pic.w) ∧ w.cell? ⟨b, off + k * 11 + 4, none⟩ = some (.int .i64 rs[k].x.pic.h) ∧
  w.cell? ⟨b, off + k * 11 + 5, none⟩ = some (.slice rs[k].A rs[k].n rs[k].c) ∧ w.cell? ⟨b, off + k * 11 + 6, none⟩ = some (.int .i64 rs[k].x.clip.x) ∧ w.cell? ⟨b, off + k * 11 + 7, none⟩ = some (.int .i64 rs[k].x.clip.y) ∧
  w.cell? ⟨b, off + k * 11 + 8, none⟩ = some (.int .i64 rs[k].x.clip.w) ∧ w.cell? ⟨b, off + k * 11 + 9, none⟩ = some (.int .i64 rs[k].x.clip.h) ∧ w.cell? ⟨b, off + k * 11 + 10, none⟩ = some (.bool rs[k].x.shown)
theorem Objs.open_ {w : World} {A : Option Addr} {n : Nat} {rs : List (FAt FObj)} (h : Objs w A n rs) (hn : 0 < n) : ∃ b off, A = some ⟨b, off, none⟩ ∧ b < w.heap.size ∧ ObAt w b off rs := by
  obtain ⟨b, off, e, hb, hc⟩ := h.2.1.2 hn
  refine ⟨b, off, e, hb, fun k hk => ?_⟩
  have e0 : rs[k]? = some rs[k] := List.getElem?_eq_getElem hk
  have f := fun j hj => flat_at (enc := obCells) (size := 11) (fun _ => rfl) rs k j _ e0 hj
  refine ⟨?_, ?_, ?_, ?_, ?_, ?_, ?_, ?_, ?_, ?_, ?_⟩
  · have := hc (k * 11 + 0) _ (f 0 (by omega)); simpa using this
  · have := hc (k * 11 + 1) _ (f 1 (by omega)); simpa [Nat.add_assoc] using this
  · have := hc (k * 11 + 2) _ (f 2 (by omega)); simpa [Nat.add_assoc] using this
  · have := hc (k * 11 + 3) _ (f 3 (by omega)); simpa [Nat.add_assoc] using this
  · have := hc (k * 11 + 4) _ (f 4 (by omega)); simpa [Nat.add_assoc] using this
  · have := hc (k * 11 + 5) _ (f 5 (by omega)); simpa [Nat.add_assoc] using this
  · have := hc (k * 11 + 6) _ (f 6 (by omega)); simpa [Nat.add_assoc] using this
  · have := hc (k * 11 + 7) _ (f 7 (by omega)); simpa [Nat.add_assoc] using this
  · have := hc (k * 11 + 8) _ (f 8 (by omega)); simpa [Nat.add_assoc] using this
  · have := hc (k * 11 + 9) _ (f 9 (by omega)); simpa [Nat.add_assoc] using this
  · have := hc (k * 11 + 10) _ (f 10 (by omega)); simpa [Nat.add_assoc] using this
theorem Objs.below {w w' : World} {A : Option Addr} {n : Nat} {rs : List (FAt FObj)} (h : Objs w A n rs) (hb : Below w.heap.size w w') : Objs w' A n rs :=
  ⟨h.1, h.2.1.below hb, fun r hr => (h.2.2 r hr).below hb⟩
theorem Objs.alloc {w : World} {A : Option Addr} {n : Nat} {rs : List (FAt FObj)} (h : Objs w A n rs) (o : Go.Obj) : Objs (w.alloc o) A n rs := h.below ((Below.refl _ _).alloc (Nat.le_refl _) o)
/-- the cells of one object, in any world that has kept them -/
def ObCells (w : World) (b o : Nat) (r : FAt FObj) : Prop := w.cell? ⟨b, o, none⟩ = some (.int .i64 r.x.id) ∧ w.cell? ⟨b, o + 1, none⟩ = some (.int .i64 r.x.x) ∧
  w.cell? ⟨b, o + 2, none⟩ = some (.int .i64 r.x.y) ∧ w.cell? ⟨b, o + 3, none⟩ = some (.int .i64 r.x.pic.w) ∧ w.cell? ⟨b, o + 4, none⟩ = some (.int .i64 r.x.pic.h) ∧
  w.cell? ⟨b, o + 5, none⟩ = some (.slice r.A r.n r.c) ∧ w.cell? ⟨b, o + 6, none⟩ = some (.int .i64 r.x.clip.x) ∧ w.cell? ⟨b, o + 7, none⟩ = some (.int .i64 r.x.clip.y) ∧
  w.cell? ⟨b, o + 8, none⟩ = some (.int .i64 r.x.clip.w) ∧ w.cell? ⟨b, o + 9, none⟩ = some (.int .i64 r.x.clip.h) ∧ w.cell? ⟨b, o + 10, none⟩ = some (.bool r.x.shown)
theorem ObAt.cells {w w' : World} {B b off : Nat} {rs : List (FAt FObj)} (h : ObAt w b off rs) (hb : Below B w w') (hB : b < B) {k : Nat} (hk : k < rs.length) : ObCells w' b (off + k * 11) rs[k] := by
  obtain ⟨c0, c1, c2, c3, c4, c5, c6, c7, c8, c9, c10⟩ := h k hk
  have f : ∀ o v, w.cell? ⟨b, o, none⟩ = some v → w'.cell? ⟨b, o, none⟩ = some v := fun o v hv => (hb.cell (p := ⟨b, o, none⟩) hB).trans hv
  exact ⟨f _ _ c0, f _ _ c1, f _ _ c2, f _ _ c3, f _ _ c4, f _ _ c5, f _ _ c6, f _ _ c7, f _ _ c8, f _ _ c9, f _ _ c10⟩
theorem ObCells.below {w w' : World} {B b o : Nat} {r : FAt FObj} (h : ObCells w b o r) (hb : Below B w w') (hB : b < B) : ObCells w' b o r := by
  obtain ⟨c0, c1, c2, c3, c4, c5, c6, c7, c8, c9, c10⟩ := h
  have f : ∀ o v, w.cell? ⟨b, o, none⟩ = some v → w'.cell? ⟨b, o, none⟩ = some v := fun o v hv => (hb.cell (p := ⟨b, o, none⟩) hB).trans hv
  exact ⟨f _ _ c0, f _ _ c1, f _ _ c2, f _ _ c3, f _ _ c4, f _ _ c5, f _ _ c6, f _ _ c7, f _ _ c8, f _ _ c9, f _ _ c10⟩
/-- a box of its own that holds the object -/
def ObBox (w : World) (g : Nat) (r : FAt FObj) : Prop := w.cell? ⟨g, 0, none⟩ = some (.int .i64 r.x.id) ∧ w.cell? ⟨g, 1, none⟩ = some (.int .i64 r.x.x) ∧ w.cell? ⟨g, 2, none⟩ = some (.int .i64 r.x.y) ∧ w.cell? ⟨g, 3, none⟩ = some (.int .i64 r.x.pic.w) ∧ w.cell? ⟨g, 4, none⟩ = some (.int .i64 r.x.pic.h) ∧ w.cell? ⟨g, 5, none⟩ = some (.slice r.A r.n r.c) ∧ w.cell? ⟨g, 6, none⟩ = some (.int .i64 r.x.clip.x) ∧ w.cell? ⟨g, 7, none⟩ = some (.int .i64 r.x.clip.y) ∧ w.cell? ⟨g, 8, none⟩ = some (.int .i64 r.x.clip.w) ∧ w.cell? ⟨g, 9, none⟩ = some (.int .i64 r.x.clip.h) ∧ w.cell? ⟨g, 10, none⟩ = some (.bool r.x.shown)
theorem ObBox.below {w w' : World} {B g : Nat} {r : FAt FObj} (h : ObBox w g r) (hb : Below B w w') (hB : g < B) : ObBox w' g r := by
  obtain ⟨c0, c1, c2, c3, c4, c5, c6, c7, c8, c9, c10⟩ := h
  have f : ∀ o v, w.cell? ⟨g, o, none⟩ = some v → w'.cell? ⟨g, o, none⟩ = some v := fun o v hv => (hb.cell (p := ⟨g, o, none⟩) hB).trans hv
  exact ⟨f _ _ c0, f _ _ c1, f _ _ c2, f _ _ c3, f _ _ c4, f _ _ c5, f _ _ c6, f _ _ c7, f _ _ c8, f _ _ c9, f _ _ c10⟩
/-- the call returns a slice of these objects; what was there is as it was -/
def RetObjs (P : List FObj) (w : World) (e : Ending) (w' : World) : Prop := ∃ (A : Option Addr) (n c : Nat) (rs : List (FAt FObj)), e = .returned (.slice A n c) ∧ Objs w' A n rs ∧ dat rs = P ∧ Below w.heap.size w w'
end Fb
