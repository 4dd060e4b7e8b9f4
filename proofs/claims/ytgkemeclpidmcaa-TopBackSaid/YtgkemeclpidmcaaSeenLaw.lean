/- What is seen of objects, in plain Lean. Conditions: those of each lemma. -/
import Derived.Test.YtgkemeclpidmcaaPlain
import Derived.Test.YtgkemeclpidmcaaObjsLaw
namespace Fb
open Go Go.Proofs Go.RowKit Go.Sort
def seenP (l : List FObj) (X Y : Nat) (back : Px) : FPic := l.foldl layP (plainP X Y back)
theorem plain_fine {X Y : Nat} {b : Px} (h1 : 1 ≤ X) (h2 : X ≤ 8) (h3 : 1 ≤ Y) (h4 : Y ≤ 8) (hb : PxFine b) : PicFine (plainP X Y b) := by
  unfold plainP PicFine
  simp only
  refine ⟨by omega, by omega, by omega, by omega, by rw [List.length_replicate]; exact Int.natCast_mul X Y, fun q hq => ?_⟩
  rw [List.eq_of_mem_replicate hq]
  exact hb
theorem foldl_lay {p : FPic} : ∀ (l : List FObj), (l.foldl layP p).w = p.w ∧ (l.foldl layP p).h = p.h ∧ (l.foldl layP p).p.length = p.p.length
  | [] => ⟨rfl, rfl, rfl⟩
  | o :: l => by
    have := foldl_lay (p := layP p o) l
    rw [List.foldl_cons]
    refine ⟨this.1.trans rfl, this.2.1.trans rfl, this.2.2.trans ?_⟩
    unfold layP
    simp [updL_len]
theorem foldl_fine {p : FPic} (hp : PicFine p) : ∀ (l : List FObj), (∀ o ∈ l, ObjFine o) → PicFine (l.foldl layP p)
  | [], _ => hp
  | o :: l, h => by
    rw [List.foldl_cons]
    exact foldl_fine (lay_fine hp (h o (by simp)).2.2) l (fun q hq => h q (by simp [hq]))
/-- the picture after k objects -/
def seenK (l : List FObj) (X Y : Nat) (back : Px) (k : Nat) : FPic := seenP (l.take k) X Y back
theorem seenK_zero (l : List FObj) (X Y : Nat) (back : Px) : seenK l X Y back 0 = plainP X Y back := rfl
theorem seenK_succ {l : List FObj} {X Y : Nat} {back : Px} {k : Nat} (h : k < l.length) : seenK l X Y back (k + 1) = layP (seenK l X Y back k) l[k] := by
  unfold seenK seenP
  rw [List.take_succ_eq_append_getElem h, List.foldl_append]
  rfl
theorem seenK_all {l : List FObj} {X Y : Nat} {back : Px} {k : Nat} (h : l.length ≤ k) : seenK l X Y back k = seenP l X Y back := by unfold seenK; rw [List.take_of_length_le h]
theorem seenK_shape (l : List FObj) (X Y : Nat) (back : Px) (k : Nat) : seenK l X Y back k = ⟨(X : Int), (Y : Int), (seenK l X Y back k).p⟩ ∧ (seenK l X Y back k).p.length = X * Y := by
  obtain ⟨h1, h2, h3⟩ := foldl_lay (p := plainP X Y back) (l.take k)
  have e : (seenK l X Y back k) = ⟨(seenK l X Y back k).w, (seenK l X Y back k).h, (seenK l X Y back k).p⟩ := rfl
  refine ⟨?_, ?_⟩
  · rw [e]
    have a1 : (seenK l X Y back k).w = (X : Int) := h1
    have a2 : (seenK l X Y back k).h = (Y : Int) := h2
    rw [a1, a2]
  · have : (seenK l X Y back k).p.length = (plainP X Y back).p.length := h3
    rw [this]
    unfold plainP
    simp
theorem seenK_fine {l : List FObj} {X Y : Nat} {back : Px} (k : Nat) (h1 : 1 ≤ X) (h2 : X ≤ 8) (h3 : 1 ≤ Y) (h4 : Y ≤ 8) (hb : PxFine back) (hf : ∀ o ∈ l, ObjFine o) : PicFine (seenK l X Y back k) :=
  foldl_fine (plain_fine h1 h2 h3 h4 hb) _ (fun o ho => hf o (List.mem_of_mem_take ho))
end Fb
