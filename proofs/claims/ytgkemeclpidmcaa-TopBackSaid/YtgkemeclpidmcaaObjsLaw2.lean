/- What is seen: what isn't shown, what covers all; what an op keeps. Conditions: those of each lemma. What an op does to one object, and that it leaves the others. Conditions: those of each lemma. -/
import Derived.Test.YtgkemeclpidmcaaSeenLaw
import Derived.Test.YtgkemeclpidmcaaOpLaw2
namespace Fb
theorem lay_hid0 {p : FPic} {o : FObj} (h : o.shown = false) : layP p o = p := by
  unfold layP
  rw [h]
  simp only [Bool.false_and]
  rw [updL_none (fun _ _ => rfl)]
theorem drop_above {i : Int} : ∀ {l : List FObj} (_ : ∀ r ∈ l, i < r.id), dropP i l = l := fun {l} h => by
  unfold dropP
  rw [List.filter_eq_self]
  intro r hr
  have := h r hr
  simp
  omega
theorem drop_none {i : Int} {l : List FObj} (h : getP i l = none) : dropP i l = l := by
  unfold dropP
  rw [List.filter_eq_self]
  intro r hr
  simpa using get_no h r hr
theorem fold_hidden {o : FObj} (hs : o.shown = false) : ∀ {l : List FObj} (_ : Rise l) (p : FPic), (setP o l).foldl layP p = (dropP o.id l).foldl layP p
  | [], _, p => by
    unfold setP dropP
    simp only [List.foldl_cons, List.foldl_nil, List.filter_nil]
    exact lay_hid0 hs
  | r :: rs, h, p => by
    have h2 := h
    unfold Rise at h2
    rw [List.pairwise_cons] at h2
    unfold setP
    by_cases h1 : r.id < o.id
    · have hd : dropP o.id (r :: rs) = r :: dropP o.id rs := by
        unfold dropP
        rw [List.filter_cons, if_pos (by simp; omega)]
      rw [if_pos h1, hd, List.foldl_cons, List.foldl_cons, fold_hidden hs h2.2]
    · rw [if_neg h1]
      by_cases he : r.id = o.id
      · have hd : dropP o.id (r :: rs) = rs := by
          have := drop_above (i := o.id) (l := rs) (fun q hq => by have := h2.1 q hq; omega)
          unfold dropP at this ⊢
          rw [List.filter_cons, if_neg (by simp; omega), this]
        rw [if_pos he, hd, List.foldl_cons, lay_hid0 hs]
      · have hd : dropP o.id (r :: rs) = r :: rs := drop_above (fun q hq => by
          rcases List.mem_cons.1 hq with rfl | hq
          · omega
          · have := h2.1 q hq; omega)
        rw [if_neg he, hd, List.foldl_cons, lay_hid0 hs]
theorem seen_hidden {o : FObj} {l : List FObj} (hs : o.shown = false) (hr : Rise l) (X Y : Nat) (b : Px) : seenP (setP o l) X Y b = seenP (dropP o.id l) X Y b := fold_hidden hs hr _
theorem set_last {o : FObj} : ∀ {l : List FObj} (_ : Rise l) (_ : ∀ r ∈ l, r.id ≤ o.id), setP o l = dropP o.id l ++ [o]
  | [], _, _ => rfl
  | r :: rs, h, hm => by
    have h2 := h
    unfold Rise at h2
    rw [List.pairwise_cons] at h2
    have h0 := hm r (by simp)
    unfold setP
    by_cases h1 : r.id < o.id
    · have hd : dropP o.id (r :: rs) = r :: dropP o.id rs := by
        unfold dropP
        rw [List.filter_cons, if_pos (by simp; omega)]
      rw [if_pos h1, hd, set_last h2.2 (fun q hq => hm q (by simp [hq])), List.cons_append]
    · have hn : rs = [] := by
        rw [List.eq_nil_iff_forall_not_mem]
        intro q hq
        have := h2.1 q hq
        have := hm q (by simp [hq])
        omega
      subst hn
      have hd : dropP o.id [r] = [] := by
        unfold dropP
        rw [List.filter_cons, if_neg (by simp; omega), List.filter_nil]
      rw [if_neg h1, if_pos (by omega), hd, List.nil_append]
theorem lay_full {q : FPic} {X Y : Nat} {v : Int} {i : Int} (hq : PicFine q) (hw : q.w = (X : Int)) (hh : q.h = (Y : Int)) (hX : 1 ≤ X) (hX8 : X ≤ 8) (hY : 1 ≤ Y) (hY8 : Y ≤ 8) (h0 : 0 ≤ v) (h1 : v ≤ 255) :
    layP q (freshP i (plainP X Y (v, 255))) = plainP X Y (v, 255) := by
  obtain ⟨-, -, -, -, hl, hpx⟩ := hq
  obtain ⟨qw, qh, ql⟩ := q
  simp only at hw hh hl hpx
  subst hw hh
  have hln : ql.length = X * Y := by
    have : ((X * Y : Nat) : Int) = (X : Int) * (Y : Int) := Int.natCast_mul X Y
    omega
  unfold layP freshP plainP
  simp only [Int.toNat_natCast, Bool.true_and, FPic.mk.injEq, true_and]
  apply List.ext_getElem
  · rw [updL_len, List.length_replicate, hln]
  · intro k hk1 hk2
    rw [updL_len] at hk1
    rw [updL_at hk1, List.getElem_replicate]
    obtain ⟨hj, hi⟩ := kdiv (w := X) (h := Y) (by omega) (by rw [← hln]; exact hk1)
    have c1 : ∀ j i : Nat, j < Y → i < X → onB ⟨0, 0, 20, 20⟩ j i = true := fun j i _ _ => by unfold onB hasB; simp; omega
    have c2 : ∀ j i : Nat, j < Y → i < X → onB ⟨0, 0, (X : Int), (Y : Int)⟩ j i = true := fun j i _ _ => by unfold onB hasB; simp; omega
    rw [c1 _ _ hj hi, c2 _ _ hj hi, if_pos (by rfl)]
    have hs : srcP ⟨(X : Int), (Y : Int), List.replicate (X * Y) (v, 255)⟩ 0 0 (k / X) (k % X) = (v, 255) := by
      unfold srcP
      simp only
      have e : (((k / X : Nat) : Int) - 0) * (X : Int) + ((k % X : Nat) : Int) - 0 = ((k / X * X + k % X : Nat) : Int) := by simp
      rw [e, Int.toNat_natCast, List.getD_eq_getElem?_getD, List.getElem?_replicate, if_pos (at_lt' hj hi)]
      rfl
    rw [hs]
    refine overP_all _ h0 h1 ?_
    have hb : k / X * X + k % X < ql.length := by rw [hln]; exact at_lt' hj hi
    rw [List.getD_eq_getElem?_getD, List.getElem?_eq_getElem hb]
    exact hpx _ (List.getElem_mem hb)
where
  at_lt' {X Y j i : Nat} (hj : j < Y) (hi : i < X) : j * X + i < X * Y := at_lt hj hi
theorem seen_front {l : List FObj} {X Y : Nat} {v : Int} {b : Px} (hf : ObjsFine l) (hX : 1 ≤ X) (hX8 : X ≤ 8) (hY : 1 ≤ Y) (hY8 : Y ≤ 8) (h0 : 0 ≤ v) (h1 : v ≤ 255) (hb : PxFine b) :
    seenP (setP (freshP 6 (plainP X Y (v, 255))) l) X Y b = plainP X Y (v, 255) := by
  unfold seenP
  rw [set_last hf.1 (fun r hr => (hf.2 r hr).1.2.1), List.foldl_append, List.foldl_cons, List.foldl_nil]
  have hp := foldl_fine (plain_fine hX hX8 hY hY8 hb) (dropP (freshP 6 (plainP X Y (v, 255))).id l) (fun o ho => hf.2 o (drop_mem ho).1)
  obtain ⟨e1, e2, -⟩ := foldl_lay (p := plainP X Y b) (dropP (freshP 6 (plainP X Y (v, 255))).id l)
  exact lay_full hp e1 e2 hX hX8 hY hY8 h0 h1
theorem fresh_fine {i : Int} {p : FPic} (hi : 1 ≤ i) (hi6 : i ≤ 6) (hp : PicFine p) : ObjFine (freshP i p) := by
  refine ⟨⟨hi, hi6, ?_, ?_, ?_, ?_⟩, rectFault_zero ?_, hp⟩
  all_goals (unfold freshP; simp)
/-! ## what an op leaves -/
theorem turn_fine {o : FObj} {x : FOp} (ho : ObjFine o) (hx : opFault x = 0) (hk : x.kind = 3 ∨ x.kind = 4 ∨ x.kind = 5 ∨ x.kind = 6 ∨ x.kind = 8 ∨ x.kind = 9) : ObjFine (turnP o x) := by
  obtain ⟨-, -, -, hb, hp⟩ := opFault_fine hx
  obtain ⟨⟨i1, i2, x1, x2, y1, y2⟩, hc, hpf⟩ := ho
  unfold boundB inB at hb
  unfold turnP
  rcases hk with hk | hk | hk | hk | hk | hk
  · rw [if_pos hk]
    rw [if_neg (by omega), if_pos (by omega)] at hb
    simp at hb
    exact ⟨⟨i1, i2, by simp only; omega, by simp only; omega, by simp only; omega, by simp only; omega⟩, hc, hpf⟩
  · rw [if_neg (by omega), if_pos hk]
    rw [if_neg (by omega), if_neg (by omega), if_pos hk] at hb
    exact ⟨⟨i1, i2, x1, x2, y1, y2⟩, by simpa using hb, hpf⟩
  · rw [if_neg (by omega), if_neg (by omega), if_pos hk]
    exact ⟨⟨i1, i2, x1, x2, y1, y2⟩, hc, hpf⟩
  · rw [if_neg (by omega), if_neg (by omega), if_neg (by omega), if_pos hk]
    rw [if_neg (by omega), if_neg (by omega), if_neg (by omega), if_neg (by omega), if_pos hk] at hb
    simp at hb
    exact ⟨⟨by simp only; omega, by simp only; omega, x1, x2, y1, y2⟩, hc, hpf⟩
  · rw [if_neg (by omega), if_neg (by omega), if_neg (by omega), if_neg (by omega), if_pos hk]
    exact ⟨⟨i1, i2, x1, x2, y1, y2⟩, hc, change_fine (fun a b _ _ => addP_fine a b) hpf (picFault_fine.1 (hp (by unfold hasPic; simp; omega)))⟩
  · rw [if_neg (by omega), if_neg (by omega), if_neg (by omega), if_neg (by omega), if_neg (by omega)]
    exact ⟨⟨i1, i2, x1, x2, y1, y2⟩, hc, change_fine (fun a b _ hb => hb) hpf (picFault_fine.1 (hp (by unfold hasPic; simp; omega)))⟩
theorem turn_id {o : FObj} {x : FOp} : (turnP o x).id = if x.kind = 6 then x.a else o.id := by
  unfold turnP
  by_cases h6 : x.kind = 6
  · rw [if_pos h6, if_neg (by omega), if_neg (by omega), if_neg (by omega), if_pos h6]
  · rw [if_neg h6]
    repeat' split
    all_goals (first | rfl | omega)
end Fb
namespace Fb
theorem do_err {l : List FObj} {x : FOp} (h : (doP l x).2 ≠ 0) : doP l x = ([], 5) ∧ getP x.id l = none := by
  unfold doP at h ⊢
  by_cases hk : x.kind = 2
  · rw [if_pos hk] at h; exact absurd rfl h
  · rw [if_neg hk] at h ⊢
    cases hg : getP x.id l with
    | none => exact ⟨rfl, rfl⟩
    | some o =>
      rw [hg] at h
      simp only at h
      split at h <;> exact absurd rfl h
theorem do_kinds {l : List FObj} {x : FOp} (hf : ObjsFine l) (ho : opFault x = 0) (h : (doP l x).2 = 0) :
    (x.kind = 2 ∧ doP l x = (setP (freshP x.id x.pic) l, 0) ∧ hasId x.kind = true) ∨ (∃ o, getP x.id l = some o ∧ x.kind = 7 ∧ doP l x = (dropP x.id l, 0)) ∨
      ∃ o, getP x.id l = some o ∧ (x.kind = 3 ∨ x.kind = 4 ∨ x.kind = 5 ∨ x.kind = 6 ∨ x.kind = 8 ∨ x.kind = 9) ∧ doP l x = (setP (turnP o x) l, 0) := by
  obtain ⟨⟨k1, k2⟩, hs, hid', -, -⟩ := opFault_fine ho
  by_cases hk : x.kind = 2
  · exact Or.inl ⟨hk, by unfold doP; rw [if_pos hk], by rw [hk]; rfl⟩
  · refine Or.inr ?_
    unfold doP at h ⊢
    rw [if_neg hk] at h ⊢
    cases hg : getP x.id l with
    | none => rw [hg] at h; simp at h
    | some o =>
      simp only
      by_cases h7 : x.kind = 7
      · exact Or.inl ⟨o, rfl, h7, by rw [if_pos h7]⟩
      · refine Or.inr ⟨o, rfl, ?_, by rw [if_neg h7]⟩
        obtain ⟨hm, he⟩ := get_mem hg
        have h1 := (hf.2 o hm).1.1
        cases hh : hasId x.kind with
        | false =>
          have hz : x.id = 0 := by
            unfold shapeB at hs
            rw [hh] at hs
            simp at hs
            exact hs.1
          omega
        | true => unfold hasId at hh; simp at hh; omega
theorem do_fine {l : List FObj} {x : FOp} (hf : ObjsFine l) (ho : opFault x = 0) : ObjsFine (doP l x).1 := by
  by_cases h : (doP l x).2 = 0
  · obtain ⟨-, -, hi, -, hp⟩ := opFault_fine ho
    rcases do_kinds hf ho h with ⟨hk, e, hh⟩ | ⟨o, hg, hk, e⟩ | ⟨o, hg, hk, e⟩
    · rw [e]
      have := hi hh
      exact set_fine hf (fresh_fine (by omega) (by omega) (picFault_fine.1 (hp (by rw [hk]; rfl))))
    · rw [e]; exact drop_fine hf
    · rw [e]; exact set_fine hf (turn_fine (hf.2 o (get_mem hg).1) ho hk)
  · rw [(do_err h).1]; exact nil_fine
theorem do_other {l : List FObj} {x : FOp} {id : Int} (hf : ObjsFine l) (ho : opFault x = 0) (h : (doP l x).2 = 0) (h1 : id ≠ x.id) (h2 : x.kind = 6 → id ≠ x.a) : getP id (doP l x).1 = getP id l := by
  rcases do_kinds hf ho h with ⟨hk, e, hh⟩ | ⟨o, hg, hk, e⟩ | ⟨o, hg, hk, e⟩
  · rw [e]; simp only
    rw [get_set, if_neg (show ¬ (freshP x.id x.pic).id = id from fun h => h1 h.symm)]
  · rw [e]; simp only
    exact get_drop (fun h => h1 h.symm)
  · rw [e]; simp only
    rw [get_set, turn_id]
    have he := (get_mem hg).2
    by_cases h6 : x.kind = 6
    · have := h2 h6
      rw [if_pos h6, if_neg (by omega)]
    · rw [if_neg h6, if_neg (by omega)]
/-! ## a copy -/
def copyOp (i j : Int) : FOp := ⟨6, i, j, 0, 0, 0, ⟨0, 0, []⟩⟩
theorem copy_ok {i j : Int} (hi : 1 ≤ i ∧ i ≤ 6) (hj : 1 ≤ j ∧ j ≤ 6) : opFault (copyOp i j) = 0 := by
  refine opFault_none (show 1 ≤ (6 : Int) ∧ (6 : Int) ≤ 16 by decide) ?_ ?_ rfl
  · rfl
  · unfold copyOp boundB inB hasId
    simp
    omega
theorem copy_do {l : List FObj} {o : FObj} {i j : Int} (h : getP i l = some o) : doP l (copyOp i j) = (setP { o with id := j } l, 0) := by
  unfold doP copyOp
  simp only [if_neg (show ¬ (6 : Int) = 2 by decide), if_neg (show ¬ (6 : Int) = 7 by decide), h]
  rfl
theorem copy_none {l : List FObj} {i j : Int} (h : getP i l = none) : doP l (copyOp i j) = ([], 5) := by
  unfold doP copyOp
  simp only [if_neg (show ¬ (6 : Int) = 2 by decide), h]
/-- an op of an object that is there does well -/
theorem do_well {l : List FObj} {x : FOp} {o : FObj} (h : getP x.id l = some o) : (doP l x).2 = 0 := by
  by_cases he : (doP l x).2 = 0
  · exact he
  · have := (do_err he).2
    rw [h] at this
    cases this
end Fb
