/- Pictures added and put, in plain Lean: in whichever order, 256 times nothing, put twice as put once. Conditions: pictures that may be. -/
import Derived.Test.YtjbnmgobgcgjmaaLayLaw
namespace Fb
theorem change_w (g : Px → Px → Px) (p q : FPic) (x y : Int) : (changeP g p q x y).w = p.w ∧ (changeP g p q x y).h = p.h ∧ (changeP g p q x y).p.length = p.p.length := by
  refine ⟨rfl, rfl, ?_⟩
  unfold changeP; simp only [updL_len]
/-- pixel k of a changed picture -/
theorem change_at {g : Px → Px → Px} {p q : FPic} {x y : Int} {k : Nat} (h : k < p.p.length) : (changeP g p q x y).p.getD k (0, 0) = if onB ⟨x, y, q.w, q.h⟩ (k / p.w.toNat) (k % p.w.toNat) then g (p.p.getD k (0, 0)) (srcP q x y (k / p.w.toNat) (k % p.w.toNat)) else p.p.getD k (0, 0) := by
  have hl := (change_w g p q x y).2.2
  rw [getD_at (by omega), getD_at h]
  have e : (changeP g p q x y).p = updL p.w.toNat p.p (onB ⟨x, y, q.w, q.h⟩) fun j i => g (p.p.getD (j * p.w.toNat + i) (0, 0)) (srcP q x y j i) := rfl
  simp only [e]
  rw [updL_at h]
  have e2 : k / p.w.toNat * p.w.toNat + k % p.w.toNat = k := by rw [Nat.mul_comm]; exact Nat.div_add_mod _ _
  rw [e2, getD_at h]
theorem pic_ext {a b : FPic} (hw : a.w = b.w) (hh : a.h = b.h) (hl : a.p.length = b.p.length) (hp : ∀ k, k < a.p.length → a.p.getD k (0, 0) = b.p.getD k (0, 0)) : a = b := by
  obtain ⟨aw, ah, ap⟩ := a
  obtain ⟨bw, bh, bp⟩ := b
  simp only at hw hh hl hp
  subst hw hh
  congr 1
  apply List.ext_getElem hl
  intro k h1 h2
  have := hp k h1
  rw [getD_at h1, getD_at h2] at this
  exact this
theorem addP_comm (a s t : Px) : addP (addP a s) t = addP (addP a t) s := by
  unfold addP
  refine Prod.ext ?_ ?_ <;> simp only <;> omega
/-- added in whichever order -/
theorem add_comm2 (p q r : FPic) (x y i j : Int) : changeP addP (changeP addP p q x y) r i j = changeP addP (changeP addP p r i j) q x y := by
  obtain ⟨w1, h1, l1⟩ := change_w addP p q x y
  obtain ⟨w2, h2, l2⟩ := change_w addP p r i j
  obtain ⟨w3, h3, l3⟩ := change_w addP (changeP addP p q x y) r i j
  obtain ⟨w4, h4, l4⟩ := change_w addP (changeP addP p r i j) q x y
  refine pic_ext (by rw [w3, w4, w1, w2]) (by rw [h3, h4, h1, h2]) (by omega) (fun k hk => ?_)
  rw [change_at (by omega), change_at (by omega), change_at (by omega), change_at (by omega), w1, w2]
  by_cases c1 : onB ⟨i, j, r.w, r.h⟩ (k / p.w.toNat) (k % p.w.toNat) = true <;> by_cases c2 : onB ⟨x, y, q.w, q.h⟩ (k / p.w.toNat) (k % p.w.toNat) = true
  · rw [if_pos c1, if_pos c2, if_pos c2, if_pos c1, addP_comm]
  · rw [if_pos c1, if_neg c2, if_neg c2, if_pos c1]
  · rw [if_neg c1, if_pos c2, if_pos c2, if_neg c1]
  · rw [if_neg c1, if_neg c2, if_neg c2, if_neg c1]
/-- added n times -/
def addN (p q : FPic) (x y : Int) : Nat → FPic
  | 0 => p
  | n + 1 => changeP addP (addN p q x y n) q x y
theorem addN_w (p q : FPic) (x y : Int) : ∀ n, (addN p q x y n).w = p.w ∧ (addN p q x y n).h = p.h ∧ (addN p q x y n).p.length = p.p.length
  | 0 => ⟨rfl, rfl, rfl⟩
  | n + 1 => by
    obtain ⟨w1, h1, l1⟩ := addN_w p q x y n
    obtain ⟨w2, h2, l2⟩ := change_w addP (addN p q x y n) q x y
    exact ⟨w2.trans w1, h2.trans h1, l2.trans l1⟩
theorem addN_fine {p q : FPic} {x y : Int} (hp : PicFine p) (hq : PicFine q) : ∀ n, PicFine (addN p q x y n)
  | 0 => hp
  | n + 1 => change_fine (fun a b _ _ => addP_fine a b) (addN_fine hp hq n) hq
theorem addN_at {p q : FPic} {x y : Int} {k : Nat} (h : k < p.p.length) (hf : PxFine (p.p.getD k (0, 0))) : ∀ n, (addN p q x y n).p.getD k (0, 0) =
    if onB ⟨x, y, q.w, q.h⟩ (k / p.w.toNat) (k % p.w.toNat) then (((p.p.getD k (0, 0)).1 + n * (srcP q x y (k / p.w.toNat) (k % p.w.toNat)).1) % 256, ((p.p.getD k (0, 0)).2 + n * (srcP q x y (k / p.w.toNat) (k % p.w.toNat)).2) % 256) else p.p.getD k (0, 0)
  | 0 => by
    show p.p.getD k (0, 0) = _
    split
    · obtain ⟨h1, h2, h3, h4⟩ := hf
      refine Prod.ext ?_ ?_ <;> simp only [Int.natCast_zero, Int.zero_mul, Int.add_zero, Int.ofNat_zero] <;> omega
    · rfl
  | n + 1 => by
    obtain ⟨w1, h1, l1⟩ := addN_w p q x y n
    show (changeP addP (addN p q x y n) q x y).p.getD k (0, 0) = _
    rw [change_at (by omega), addN_at h hf n, w1]
    split
    · unfold addP
      simp only
      have e1 : ((n + 1 : Nat) : Int) * (srcP q x y (k / p.w.toNat) (k % p.w.toNat)).1 = (n : Int) * (srcP q x y (k / p.w.toNat) (k % p.w.toNat)).1 + (srcP q x y (k / p.w.toNat) (k % p.w.toNat)).1 := by rw [Int.natCast_add, Int.add_mul]; simp
      have e2 : ((n + 1 : Nat) : Int) * (srcP q x y (k / p.w.toNat) (k % p.w.toNat)).2 = (n : Int) * (srcP q x y (k / p.w.toNat) (k % p.w.toNat)).2 + (srcP q x y (k / p.w.toNat) (k % p.w.toNat)).2 := by rw [Int.natCast_add, Int.add_mul]; simp
      rw [e1, e2]
      generalize (n : Int) * (srcP q x y (k / p.w.toNat) (k % p.w.toNat)).1 = m1
      generalize (n : Int) * (srcP q x y (k / p.w.toNat) (k % p.w.toNat)).2 = m2
      refine Prod.ext ?_ ?_ <;> simp only <;> omega
    · rfl
theorem addN_256 {p q : FPic} {x y : Int} (hp : PicFine p) : addN p q x y 256 = p := by
  obtain ⟨w1, h1, l1⟩ := addN_w p q x y 256
  refine pic_ext w1 h1 l1 (fun k hk => ?_)
  have hk' : k < p.p.length := by omega
  have hf : PxFine (p.p.getD k (0, 0)) := by rw [getD_at hk']; exact hp.2.2.2.2.2 _ (List.getElem_mem hk')
  rw [addN_at hk' hf]
  split
  · obtain ⟨h1, h2, h3, h4⟩ := hf
    refine Prod.ext ?_ ?_ <;> simp only <;> omega
  · rfl
/-- put twice is put once -/
theorem put_twice (p q : FPic) (x y : Int) : changeP putP (changeP putP p q x y) q x y = changeP putP p q x y := by
  obtain ⟨w1, h1, l1⟩ := change_w putP p q x y
  obtain ⟨w2, h2, l2⟩ := change_w putP (changeP putP p q x y) q x y
  refine pic_ext w2 h2 l2 (fun k hk => ?_)
  rw [change_at (by omega), w1, change_at (by omega)]
  split
  · rfl
  · rfl
theorem put_get? {p q : FPic} {x y : Int} {W H : Nat} (hp : PicFine p) (hW : p.w = (W : Int)) (hH : p.h = (H : Int)) {j i : Nat} (hj : j < H) (hi : i < W) : j * W + i < (changeP putP p q x y).p.length ∧ j * W + i < p.p.length ∧
    (changeP putP p q x y).p.getD (j * W + i) (0, 0) = if onB ⟨x, y, q.w, q.h⟩ j i then srcP q x y j i else p.p.getD (j * W + i) (0, 0) := by
  obtain ⟨W', H', e1, e2, h1, h2, e3, e4⟩ := fine_nat hp
  obtain rfl : W' = W := by omega
  obtain rfl : H' = H := by omega
  have hk : j * W' + i < p.p.length := by rw [e4]; exact at_lt hj hi
  obtain ⟨a, b, c⟩ := change_w putP p q x y
  refine ⟨by omega, hk, ?_⟩
  obtain ⟨d1, d2⟩ := div_mod_at (j := j) hi
  rw [change_at hk, e3, d1, d2]
  rfl
end Fb
