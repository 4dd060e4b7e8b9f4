/- Small words for the laws of objects: a copy is the same, boxes that are kept. Conditions: those of each lemma. -/
import Derived.Test.YtbddmpbifkgloaaSameOb
import Derived.Test.YtbddmpbifkgloaaObjsB
import Derived.Test.YtbddmpbifkgloaaObjsLaw2
import Derived.Test.YtbddmpbifkgloaaLightObs
import Derived.Test.YtbddmpbifkgloaaOpCheck
import Derived.Test.YtbddmpbifkgloaaSameWalk
namespace Fb
open Go Go.Proofs Go.RowKit Go.Sort
theorem getV_eq2 (o : Option (FAt FObj)) : getV o = .tuple #[objV (o.getD zeroO), .bool o.isSome] := by cases o <;> rfl
theorem dat_fine2 {rs : List (FAt FObj)} (h : ∀ o ∈ dat rs, ObjFine o) : ∀ r ∈ rs, ObjFine r.x := fun r hr => h r.x (List.mem_map_of_mem hr)
theorem getD_some {o : Option (FAt FObj)} (h : o.isSome = true) : o = some (o.getD zeroO) := by
  cases o with
  | none => cases h
  | some r => rfl
theorem getD_none {o : Option (FAt FObj)} (h : o.isSome = false) : o = none := by
  cases o with
  | none => rfl
  | some r => cases h
/-- an object with another slice for the same picture -/
theorem sameobj_self (x : FObj) (A B : Option Addr) (n m c d : Nat) (w : World) (hr : Pixs w A n x.pic.p) (hs : Pixs w B m x.pic.p) (hn : n ≤ 1000000) (hm : m ≤ 1000000) :
    Calls Try.prog 15 #[objV ⟨x, A, n, c⟩, objV ⟨x, B, m, d⟩] w (Ret (.bool true) w) := by
  have h := sameobj_any ⟨x, A, n, c⟩ ⟨x, B, m, d⟩ w hr hs hn hm
  rw [show sameOb (⟨x, A, n, c⟩ : FAt FObj).x (⟨x, B, m, d⟩ : FAt FObj).x = true from sameOb_iff.2 rfl] at h
  exact h
theorem fine_len {p : FPic} {w : World} {A : Option Addr} {n : Nat} (hf : PicFine p) (h : Pixs w A n p.p) : n ≤ 1000000 := by
  have := pic_len hf
  rw [h.1] at this
  omega
/-- a row that is not written -/
theorem Objs.setOther {w : World} {A : Option Addr} {n g o : Nat} {rs : List (FAt FObj)} {u : Value} (h : Objs w A n rs) (hA : NotIn g A) (hv : Avoid g rs) : Objs (w.setCell ⟨g, o, none⟩ u) A n rs :=
  ⟨h.1, h.2.1.grown (gb_set (gb_refl w (some g)) o u) (fun _ a ha e => hA a ha (by injection e with e; exact e.symm)), fun r hr => pixs_off (h.2.2 r hr) (fun a ha e => hv r hr a ha e.symm) o u⟩
/-- the object that a number has, in a list that lies in memory -/
theorem getR_of {rs : List (FAt FObj)} {id : Int} {x : FObj} (h : getP id (dat rs) = some x) : ∃ r, getR id rs = some r ∧ r.x = x ∧ r ∈ rs := by
  rw [getR_dat] at h
  cases hg : getR id rs with
  | none => rw [hg] at h; cases h
  | some r =>
    rw [hg] at h
    exact ⟨r, rfl, Option.some.inj h, (getR_mem hg).1⟩
theorem avoid_old {w : World} {A : Option Addr} {n g : Nat} {rs : List (FAt FObj)} (h : Objs w A n rs) (hf : ∀ r ∈ rs, ObjFine r.x) (hg : w.heap.size ≤ g) : Avoid g rs := fun q hq a ha => by
  have hp := h.2.2 q hq
  have hl := pic_len (hf q hq).2.2
  rw [hp.1] at hl
  have := hp.open_ (by omega)
  obtain ⟨b, off, e, hb, -⟩ := this
  rw [e] at ha
  injection ha with ha
  rw [← ha]
  show b ≠ g
  omega
theorem ObBox.setOther {w : World} {g g' o : Nat} {r : FAt FObj} {u : Value} (h : ObBox w g r) (hne : g ≠ g') : ObBox (w.setCell ⟨g', o, none⟩ u) g r := by
  obtain ⟨c0, c1, c2, c3, c4, c5, c6, c7, c8, c9, c10⟩ := h
  refine ⟨?_, ?_, ?_, ?_, ?_, ?_, ?_, ?_, ?_, ?_, ?_⟩ <;> go_simp
theorem getD_pixs {w : World} {A : Option Addr} {n : Nat} {rs : List (FAt FObj)} {id : Int} (h : Objs w A n rs) (hf : ∀ r ∈ rs, ObjFine r.x) :
    Pixs w ((getR id rs).getD zeroO).A ((getR id rs).getD zeroO).n ((getR id rs).getD zeroO).x.pic.p ∧ ((getR id rs).getD zeroO).n ≤ 1000000 := by
  cases hg : getR id rs with
  | none => exact ⟨pixs_none _ _, by show 0 ≤ 1000000; omega⟩
  | some r =>
    obtain ⟨hm, -⟩ := getR_mem hg
    exact ⟨h.2.2 r hm, fine_len (hf r hm).2.2 (h.2.2 r hm)⟩
theorem getD_same {rs rs2 : List (FAt FObj)} {id : Int} (h : getP id (dat rs2) = getP id (dat rs)) : (getR id rs2).isSome = (getR id rs).isSome ∧ ((getR id rs).getD zeroO).x = ((getR id rs2).getD zeroO).x := by
  rw [getR_dat, getR_dat] at h
  cases h1 : getR id rs2 with
  | none =>
    rw [h1] at h
    cases h2 : getR id rs with
    | none => exact ⟨rfl, rfl⟩
    | some r => rw [h2] at h; cases h
  | some q =>
    rw [h1] at h
    cases h2 : getR id rs with
    | none => rw [h2] at h; cases h
    | some r => rw [h2] at h; exact ⟨rfl, (Option.some.inj h).symm⟩
end Fb
