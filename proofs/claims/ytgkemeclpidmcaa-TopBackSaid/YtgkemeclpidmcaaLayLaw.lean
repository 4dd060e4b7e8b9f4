/- Pictures that an object was laid on, or that were added or put: pixel by pixel, in plain Lean. Conditions: pictures and objects that may be. -/
import Derived.Test.YtgkemeclpidmcaaBlendLaw2
set_option linter.unusedSimpArgs false
set_option linter.unusedVariables false
namespace Fb
theorem fine_nat {p : FPic} (h : PicFine p) : ∃ W H : Nat, p.w = W ∧ p.h = H ∧ 1 ≤ W ∧ 1 ≤ H ∧ p.w.toNat = W ∧ p.p.length = W * H := by
  obtain ⟨h1, h2, h3, h4, h5, -⟩ := h
  refine ⟨p.w.toNat, p.h.toNat, by omega, by omega, by omega, by omega, rfl, ?_⟩
  have e : (p.p.length : Int) = ((p.w.toNat * p.h.toNat : Nat) : Int) := by
    rw [h5, Int.natCast_mul]
    congr 1 <;> omega
  omega
theorem upd_get {W H : Nat} {l : List Px} {c : Nat → Nat → Bool} {v : Nat → Nat → Px} (hl : l.length = W * H) {j i : Nat} (hj : j < H) (hi : i < W) : ∃ (h1 : j * W + i < (updL W l c v).length) (h2 : j * W + i < l.length), (updL W l c v)[j * W + i] = if c j i then v j i else l[j * W + i] := by
  have hk : j * W + i < l.length := by rw [hl]; exact at_lt hj hi
  refine ⟨by rw [updL_len]; exact hk, hk, ?_⟩
  rw [updL_at hk]
  obtain ⟨e1, e2⟩ := div_mod_at (j := j) hi
  rw [e1, e2]
theorem overP_all {v : Int} (b : Px) (h0 : 0 ≤ v) (h1 : v ≤ 255) (hb : PxFine b) : overP (v, 255) b = (v, 255) := by
  unfold overP overV overA through
  simp only
  have e : (255 - (255 : Int)) * b.2 / 255 = 0 := by simp
  rw [e]
  simp
/-- whatever is changed by what may be, may be -/
theorem upd_fine {W : Nat} {l : List Px} {c : Nat → Nat → Bool} {v : Nat → Nat → Px} (hl : ∀ q ∈ l, PxFine q) (hv : ∀ j i, c j i = true → j * W + i < l.length → i < W → PxFine (v j i)) (hW : 0 < W) : ∀ q ∈ updL W l c v, PxFine q := by
  intro q hq
  obtain ⟨k, hk, rfl⟩ := List.getElem_of_mem hq
  have hk' : k < l.length := by rw [updL_len] at hk; exact hk
  rw [updL_at hk']
  by_cases hc : c (k / W) (k % W) = true
  · rw [if_pos hc]
    exact hv _ _ hc (by rw [Nat.mul_comm, Nat.div_add_mod]; exact hk') (Nat.mod_lt _ hW)
  · rw [if_neg hc]; exact hl _ (List.getElem_mem hk')
theorem lay_fine {p : FPic} {o : FObj} (hp : PicFine p) (ho : PicFine o.pic) : PicFine (layP p o) := by
  obtain ⟨W, H, e1, e2, h1, h2, e3, e4⟩ := fine_nat hp
  obtain ⟨a1, a2, a3, a4, a5, a6⟩ := hp
  have el : (layP p o).p.length = p.p.length := by unfold layP; simp only [updL_len]
  refine ⟨a1, a2, a3, a4, by rw [el]; exact a5, ?_⟩
  unfold layP
  dsimp only
  refine upd_fine a6 (fun j i hc hk hi => ?_) (by omega)
  simp only [Bool.and_eq_true] at hc
  refine overP_fine (src_fine ho hc.2.2) ?_
  rw [List.getD_eq_getElem?_getD, List.getElem?_eq_getElem hk]
  exact a6 _ (List.getElem_mem hk)
theorem change_fine {g : Px → Px → Px} (hg : ∀ a b, PxFine a → PxFine b → PxFine (g a b)) {p q : FPic} {x y : Int} (hp : PicFine p) (hq : PicFine q) : PicFine (changeP g p q x y) := by
  obtain ⟨W, H, e1, e2, h1, h2, e3, e4⟩ := fine_nat hp
  obtain ⟨a1, a2, a3, a4, a5, a6⟩ := hp
  have el : (changeP g p q x y).p.length = p.p.length := by unfold changeP; simp only [updL_len]
  refine ⟨a1, a2, a3, a4, by rw [el]; exact a5, ?_⟩
  unfold changeP
  dsimp only
  refine upd_fine a6 (fun j i hc hk hi => ?_) (by omega)
  refine hg _ _ ?_ (src_fine hq hc)
  rw [List.getD_eq_getElem?_getD, List.getElem?_eq_getElem hk]
  exact a6 _ (List.getElem_mem hk)
/-- the pixel of a picture that an object was laid on -/
theorem lay_get {p : FPic} {o : FObj} {W H : Nat} (hp : PicFine p) (hW : p.w = (W : Int)) (hH : p.h = (H : Int)) {j i : Nat} (hj : j < H) (hi : i < W) : ∃ (h1 : j * W + i < (layP p o).p.length) (h2 : j * W + i < p.p.length),
    (layP p o).p[j * W + i] = if o.shown && (onB o.clip j i && onB ⟨o.x, o.y, o.pic.w, o.pic.h⟩ j i) then overP (srcP o.pic o.x o.y j i) p.p[j * W + i] else p.p[j * W + i] := by
  obtain ⟨W', H', e1, e2, h1, h2, e3, e4⟩ := fine_nat hp
  obtain rfl : W' = W := by omega
  obtain rfl : H' = H := by omega
  obtain ⟨g1, g2, g3⟩ := upd_get (c := fun j i => o.shown && (onB o.clip j i && onB ⟨o.x, o.y, o.pic.w, o.pic.h⟩ j i)) (v := fun j i => overP (srcP o.pic o.x o.y j i) (p.p.getD (j * W' + i) (0, 0))) e4 hj hi
  have e : (layP p o).p = updL W' p.p (fun j i => o.shown && (onB o.clip j i && onB ⟨o.x, o.y, o.pic.w, o.pic.h⟩ j i)) (fun j i => overP (srcP o.pic o.x o.y j i) (p.p.getD (j * W' + i) (0, 0))) := by
    unfold layP; simp only [e3]
  refine ⟨by rw [e]; exact g1, g2, ?_⟩
  simp only [e, g3]
  rw [List.getD_eq_getElem?_getD, List.getElem?_eq_getElem g2, Option.getD_some]
theorem getD_at {l : List Px} {k : Nat} (h : k < l.length) : l.getD k (0, 0) = l[k] := by rw [List.getD_eq_getElem?_getD, List.getElem?_eq_getElem h, Option.getD_some]
theorem lay_get? {p : FPic} {o : FObj} {W H : Nat} (hp : PicFine p) (hW : p.w = (W : Int)) (hH : p.h = (H : Int)) {j i : Nat} (hj : j < H) (hi : i < W) : j * W + i < (layP p o).p.length ∧ j * W + i < p.p.length ∧
    (layP p o).p.getD (j * W + i) (0, 0) = if o.shown && (onB o.clip j i && onB ⟨o.x, o.y, o.pic.w, o.pic.h⟩ j i) then overP (srcP o.pic o.x o.y j i) (p.p.getD (j * W + i) (0, 0)) else p.p.getD (j * W + i) (0, 0) := by
  obtain ⟨h1, h2, h3⟩ := lay_get (o := o) hp hW hH hj hi
  exact ⟨h1, h2, by rw [getD_at h1, getD_at h2, h3]⟩
theorem src_get {q : FPic} {x y : Int} {j i : Nat} (hq : PicFine q) (h : onB ⟨x, y, q.w, q.h⟩ j i = true) : ∃ (S : Nat) (hS : S < q.p.length), ((j : Int) - y) * q.w + (i : Int) - x = (S : Int) ∧ srcP q x y j i = q.p[S] := by
  obtain ⟨h1, h2⟩ := src_lt hq h
  refine ⟨(((j : Int) - y) * q.w + (i : Int) - x).toNat, by omega, by omega, ?_⟩
  unfold srcP
  rw [List.getD_eq_getElem?_getD, List.getElem?_eq_getElem (by omega)]
  rfl
end Fb
