/- Pictures laid, added and put, in plain Lean: a list of pixels row by row, of which some are changed. Conditions: those of each lemma. -/
import Derived.Test.YtgkemeclpidmcaaRectLaw
import Derived.Test.YtgkemeclpidmcaaOverLaw
namespace Fb
/-- the pixels of a picture of w columns, each for which 'c row column' holds turned to 'v row column' -/
def updL (w : Nat) (l : List Px) (c : Nat → Nat → Bool) (v : Nat → Nat → Px) : List Px := l.mapIdx fun k a => if c (k / w) (k % w) then v (k / w) (k % w) else a
theorem updL_len (w : Nat) (l : List Px) (c v) : (updL w l c v).length = l.length := by simp [updL]
theorem updL_at {w : Nat} {l : List Px} {c v} {k : Nat} (h : k < l.length) (h' : k < (updL w l c v).length) : (updL w l c v)[k] = if c (k / w) (k % w) then v (k / w) (k % w) else l[k] := by simp [updL]
theorem updL_none {w : Nat} {l : List Px} {c v} (h : ∀ j i, c j i = false) : updL w l c v = l := by
  apply List.ext_getElem
  · rw [updL_len]
  · intro k h1 h2
    rw [updL_at h2, h]; simp
theorem updL_congr {w : Nat} {l : List Px} {c c' v v'} (h : ∀ k, k < l.length → c (k / w) (k % w) = c' (k / w) (k % w)) (hv : ∀ k, k < l.length → c (k / w) (k % w) = true → v (k / w) (k % w) = v' (k / w) (k % w)) : updL w l c v = updL w l c' v' := by
  apply List.ext_getElem
  · rw [updL_len, updL_len]
  · intro k h1 h2
    have hk : k < l.length := by rw [updL_len] at h1; exact h1
    rw [updL_at hk, updL_at hk, ← h k hk]
    by_cases hc : c (k / w) (k % w) = true
    · rw [if_pos hc, if_pos hc, hv k hk hc]
    · rw [if_neg hc, if_neg hc]
theorem div_mod_at {w j i : Nat} (hi : i < w) : (j * w + i) / w = j ∧ (j * w + i) % w = i := by
  have hw : 0 < w := by omega
  refine ⟨?_, ?_⟩
  · rw [Nat.mul_comm, Nat.mul_add_div hw, Nat.div_eq_of_lt hi]; omega
  · rw [Nat.mul_comm, Nat.mul_add_mod, Nat.mod_eq_of_lt hi]
theorem at_lt {w h j i : Nat} (hj : j < h) (hi : i < w) : j * w + i < w * h := by
  have : (j + 1) * w ≤ h * w := Nat.mul_le_mul_right _ hj
  rw [Nat.add_mul, Nat.mul_comm h w] at this
  omega
theorem updL_set {w : Nat} {l : List Px} {c c' v} {j i : Nat} (hi : i < w) (_hk : j * w + i < l.length) (hc : ∀ j' i', c' j' i' = (c j' i' || (decide (j' = j) && decide (i' = i)))) :
    (updL w l c v).set (j * w + i) (v j i) = updL w l c' v := by
  obtain ⟨e1, e2⟩ := div_mod_at (j := j) hi
  apply List.ext_getElem
  · rw [List.length_set, updL_len, updL_len]
  · intro k h1 h2
    have hkl : k < l.length := by rw [updL_len] at h2; exact h2
    rw [updL_at hkl, List.getElem_set]
    by_cases hkk : j * w + i = k
    · subst hkk
      rw [if_pos rfl, e1, e2, hc]
      simp
    · rw [if_neg hkk, updL_at hkl, hc]
      have : (decide (k / w = j) && decide (k % w = i)) = false := by
        by_cases h3 : k / w = j
        · by_cases h4 : k % w = i
          · exfalso
            apply hkk
            rw [← h3, ← h4, Nat.mul_comm]
            exact Nat.div_add_mod k w
          · simp [h4]
        · simp [h3]
      rw [this, Bool.or_false]
/-! ## one behind another -/
def overP (a b : Px) : Px := (overV a.1 a.2 b.1 b.2, overA a.2 b.2)
def addP (a b : Px) : Px := ((a.1 + b.1) % 256, (a.2 + b.2) % 256)
def putP (_ b : Px) : Px := b
def PxFine (p : Px) : Prop := 0 ≤ p.1 ∧ p.1 ≤ 255 ∧ 0 ≤ p.2 ∧ p.2 ≤ 255
def PicFine (p : FPic) : Prop := 1 ≤ p.w ∧ p.w ≤ 8 ∧ 1 ≤ p.h ∧ p.h ≤ 8 ∧ (p.p.length : Int) = p.w * p.h ∧ ∀ q ∈ p.p, PxFine q
theorem overP_fine {a b : Px} (ha : PxFine a) (hb : PxFine b) : PxFine (overP a b) := by
  have h := overA_bd a.2 b.2 ha.2.2 hb.2.2
  refine ⟨?_, ?_, ?_, ?_⟩
  · by_cases hc : overA a.2 b.2 = 0
    · unfold overP overV; unfold overA at hc; simp only; rw [if_pos hc]; omega
    · have := overV_bd a.1 a.2 b.1 b.2 ha.2.2 hb.2.2 hc
      have := ha.1; have := hb.1
      unfold overP; simp only; omega
  · by_cases hc : overA a.2 b.2 = 0
    · unfold overP overV; unfold overA at hc; simp only; rw [if_pos hc]; omega
    · have := overV_bd a.1 a.2 b.1 b.2 ha.2.2 hb.2.2 hc
      have := ha.2.1; have := hb.2.1
      unfold overP; simp only; omega
  · have := ha.2.2.1; unfold overP; simp only; omega
  · unfold overP; simp only; omega
theorem addP_fine (a b : Px) : PxFine (addP a b) := by
  unfold addP PxFine; simp only
  omega
/-- the pixel of q (its origin at x, y) over the row j, column i -/
def srcP (q : FPic) (x y : Int) (j i : Nat) : Px := q.p.getD (((j : Int) - y) * q.w + (i : Int) - x).toNat (0, 0)
/-- is row j, column i in the rect? -/
def onB (r : FRect) (j i : Nat) : Bool := hasB r (i : Int) (j : Int)
/-- a picture of which another one, from x, y on, changes pixels -/
def changeP (g : Px → Px → Px) (p q : FPic) (x y : Int) : FPic :=
  { p with p := updL p.w.toNat p.p (onB ⟨x, y, q.w, q.h⟩) fun j i => g (p.p.getD (j * p.w.toNat + i) (0, 0)) (srcP q x y j i) }
/-- an object laid on a picture -/
def layP (p : FPic) (o : FObj) : FPic :=
  { p with p := updL p.w.toNat p.p (fun j i => o.shown && (onB o.clip j i && onB ⟨o.x, o.y, o.pic.w, o.pic.h⟩ j i)) fun j i => overP (srcP o.pic o.x o.y j i) (p.p.getD (j * p.w.toNat + i) (0, 0)) }
/-- where the pixel lies that is over row j, column i -/
theorem src_lt {q : FPic} {x y : Int} {j i : Nat} (hq : PicFine q) (h : onB ⟨x, y, q.w, q.h⟩ j i = true) :
    0 ≤ ((j : Int) - y) * q.w + (i : Int) - x ∧ (((j : Int) - y) * q.w + (i : Int) - x) < q.p.length := by
  unfold onB hasB at h
  simp at h
  obtain ⟨h1, h2, h3, h4⟩ := h
  obtain ⟨q1, q2, q3, q4, q5, -⟩ := hq
  rw [q5]
  have a1 : 0 ≤ (j : Int) - y := by omega
  have a2 : (j : Int) - y ≤ q.h - 1 := by omega
  have b1 : 0 ≤ ((j : Int) - y) * q.w := Int.mul_nonneg a1 (by omega)
  have b2 : ((j : Int) - y) * q.w ≤ (q.h - 1) * q.w := Int.mul_le_mul_of_nonneg_right a2 (by omega)
  have e : (q.h - 1) * q.w = q.w * q.h - q.w := by rw [Int.sub_mul, Int.one_mul, Int.mul_comm]
  rw [e] at b2
  omega
theorem src_fine {q : FPic} {x y : Int} {j i : Nat} (hq : PicFine q) (h : onB ⟨x, y, q.w, q.h⟩ j i = true) : PxFine (srcP q x y j i) := by
  obtain ⟨h1, h2⟩ := src_lt hq h
  unfold srcP
  rw [List.getD_eq_getElem?_getD, List.getElem?_eq_getElem (by omega)]
  exact hq.2.2.2.2.2 _ (List.getElem_mem _)
end Fb
