/- Objects by numbers that rise, in plain Lean: found, laid, done with. Conditions: those of each lemma. -/
import Derived.Test.YtgkemeclpidmcaaLayLaw
import Derived.Test.YtgkemeclpidmcaaObjFault
import Derived.Test.YtgkemeclpidmcaaOpLaw
namespace Fb
/-- the numbers rise -/
def Rise (l : List FObj) : Prop := l.Pairwise (fun a b => a.id < b.id)
def getP (id : Int) (l : List FObj) : Option FObj := l.find? (fun o => decide (o.id = id))
def setP (o : FObj) : List FObj → List FObj
  | [] => [o]
  | r :: rs => if r.id < o.id then r :: setP o rs else if r.id = o.id then o :: rs else o :: r :: rs
def dropP (id : Int) (l : List FObj) : List FObj := l.filter (fun o => decide (o.id ≠ id))
def freshP (id : Int) (p : FPic) : FObj := ⟨id, 0, 0, p, ⟨0, 0, 20, 20⟩, true⟩
/-- what an op makes of its object -/
def turnP (o : FObj) (x : FOp) : FObj :=
  if x.kind = 3 then { o with x := x.a, y := x.b } else if x.kind = 4 then { o with clip := ⟨x.a, x.b, x.c, x.d⟩ } else if x.kind = 5 then { o with shown := decide (x.a = 1) }
  else if x.kind = 6 then { o with id := x.a } else if x.kind = 8 then { o with pic := changeP addP o.pic x.pic x.a x.b } else { o with pic := changeP putP o.pic x.pic x.a x.b }
def doP (l : List FObj) (x : FOp) : List FObj × Nat :=
  if x.kind = 2 then (setP (freshP x.id x.pic) l, 0) else
  match getP x.id l with
  | none => ([], 5)
  | some o => if x.kind = 7 then (dropP x.id l, 0) else (setP (turnP o x) l, 0)

theorem rise_at {l : List FObj} (h : Rise l) {i j : Nat} (hij : i < j) (hj : j < l.length) : l[i].id < l[j].id := by
  unfold Rise at h
  rw [List.pairwise_iff_getElem] at h
  exact h i j (by omega) hj hij
theorem rise_at_le {l : List FObj} (h : Rise l) {i j : Nat} (hij : i ≤ j) (hj : j < l.length) : l[i].id ≤ l[j].id := by
  rcases Nat.lt_or_eq_of_le hij with h1 | rfl
  · exact Int.le_of_lt (rise_at h h1 hj)
  · exact Int.le_refl _
/-- laid at its place, where one of its number is -/
theorem set_is {o : FObj} : ∀ {l : List FObj} {i : Nat} (_ : i < l.length) (_ : ∀ k (hk : k < l.length), k < i → l[k].id < o.id) (_ : l[i].id = o.id), setP o l = l.set i o
  | [], i, h, _, _ => absurd h (by simp)
  | r :: rs, 0, _, _, h2 => by
    simp only [List.getElem_cons_zero] at h2
    unfold setP
    rw [if_neg (by omega), if_pos h2]; rfl
  | r :: rs, i + 1, h, h1, h2 => by
    have h0 := h1 0 (by simp) (by omega)
    simp only [List.getElem_cons_zero] at h0
    simp only [List.getElem_cons_succ] at h2
    unfold setP
    rw [if_pos h0, List.set_cons_succ, set_is (i := i) (by simpa using h) (fun k hk hki => by have := h1 (k + 1) (by simpa using hk) (by omega); simpa using this) h2]
/-- laid at its place, where none of its number is -/
theorem set_new {o : FObj} : ∀ {l : List FObj} {i : Nat} (_ : i ≤ l.length) (_ : ∀ k (hk : k < l.length), k < i → l[k].id < o.id) (_ : ∀ (hk : i < l.length), o.id < l[i].id), setP o l = l.take i ++ o :: l.drop i
  | [], i, h, _, _ => by
    simp at h; subst h; rfl
  | r :: rs, 0, _, _, h2 => by
    have := h2 (by simp)
    simp only [List.getElem_cons_zero] at this
    unfold setP
    rw [if_neg (by omega), if_neg (by omega)]; rfl
  | r :: rs, i + 1, h, h1, h2 => by
    have h0 := h1 0 (by simp) (by omega)
    simp only [List.getElem_cons_zero] at h0
    unfold setP
    rw [if_pos h0, List.take_succ_cons, List.drop_succ_cons, List.cons_append,
      set_new (i := i) (by simpa using h) (fun k hk hki => by have := h1 (k + 1) (by simpa using hk) (by omega); simpa using this) (fun hk => by have := h2 (by simpa using hk); simpa using this)]
theorem get_is {id : Int} {l : List FObj} (hr : Rise l) {i : Nat} (h : i < l.length) (h2 : l[i].id = id) : getP id l = some l[i] := by
  unfold getP
  rw [List.find?_eq_some_iff_getElem]
  refine ⟨by simpa using h2, i, h, rfl, fun j hj => ?_⟩
  have := rise_at hr hj h
  simp
  omega
theorem get_none {id : Int} {l : List FObj} (h : ∀ k (hk : k < l.length), l[k].id ≠ id) : getP id l = none := by
  unfold getP
  rw [List.find?_eq_none]
  intro o ho
  obtain ⟨k, hk, rfl⟩ := List.getElem_of_mem ho
  simpa using h k hk
theorem get_mem {id : Int} {l : List FObj} {o : FObj} (h : getP id l = some o) : o ∈ l ∧ o.id = id := by
  unfold getP at h
  exact ⟨List.mem_of_find?_eq_some h, by have := List.find?_some h; simpa using this⟩
theorem get_no {id : Int} {l : List FObj} (h : getP id l = none) : ∀ o ∈ l, o.id ≠ id := by
  intro o ho
  unfold getP at h
  rw [List.find?_eq_none] at h
  simpa using h o ho
/-! ## one element more -/
theorem set_snoc_low {o : FObj} (a : FObj) : ∀ {l : List FObj} (_ : ∀ r ∈ l, r.id < o.id), setP o (l ++ [a]) = l ++ (if a.id < o.id then [a, o] else if a.id = o.id then [o] else [o, a])
  | [], _ => by simp only [List.nil_append]; unfold setP; repeat' split
                all_goals (first | rfl | skip)
  | r :: rs, h => by
    have h0 := h r (by simp)
    rw [List.cons_append]
    unfold setP
    rw [if_pos h0, set_snoc_low a (fun q hq => h q (by simp [hq])), List.cons_append]
theorem set_snoc_laid {o : FObj} (a : FObj) : ∀ {l : List FObj} (_ : ∃ r ∈ l, o.id ≤ r.id), setP o (l ++ [a]) = setP o l ++ [a]
  | [], h => by obtain ⟨r, hr, _⟩ := h; simp at hr
  | r :: rs, h => by
    rw [List.cons_append]
    unfold setP
    split
    · rename_i hlt
      rw [set_snoc_laid a (by
        obtain ⟨q, hq, hle⟩ := h
        rcases List.mem_cons.1 hq with rfl | hq
        · omega
        · exact ⟨q, hq, hle⟩)]
      rfl
    · split <;> simp
theorem set_end {o : FObj} : ∀ {l : List FObj} (_ : ∀ r ∈ l, r.id < o.id), setP o l = l ++ [o]
  | [], _ => rfl
  | r :: rs, h => by
    unfold setP
    rw [if_pos (h r (by simp)), set_end (fun q hq => h q (by simp [hq]))]; rfl
/-! ## what is kept -/
theorem set_mem {o q : FObj} : ∀ {l : List FObj}, q ∈ setP o l → q = o ∨ q ∈ l
  | [], h => by unfold setP at h; simp at h; exact Or.inl h
  | r :: rs, h => by
    unfold setP at h
    split at h
    · rcases List.mem_cons.1 h with rfl | h
      · exact Or.inr (by simp)
      · rcases set_mem h with h | h
        · exact Or.inl h
        · exact Or.inr (by simp [h])
    · split at h
      · rcases List.mem_cons.1 h with rfl | h
        · exact Or.inl rfl
        · exact Or.inr (by simp [h])
      · rcases List.mem_cons.1 h with rfl | h
        · exact Or.inl rfl
        · exact Or.inr h
theorem set_rise {o : FObj} : ∀ {l : List FObj}, Rise l → Rise (setP o l)
  | [], _ => by unfold setP Rise; simp
  | r :: rs, h => by
    unfold Rise at h
    rw [List.pairwise_cons] at h
    unfold setP
    split
    · rename_i hlt
      unfold Rise
      rw [List.pairwise_cons]
      refine ⟨fun q hq => ?_, set_rise h.2⟩
      rcases set_mem hq with rfl | hq
      · exact hlt
      · exact h.1 q hq
    · split
      · rename_i he
        unfold Rise
        rw [List.pairwise_cons]
        exact ⟨fun q hq => by rw [← he]; exact h.1 q hq, h.2⟩
      · unfold Rise
        rw [List.pairwise_cons, List.pairwise_cons]
        refine ⟨fun q hq => ?_, h⟩
        rcases List.mem_cons.1 hq with rfl | hq
        · omega
        · have := h.1 q hq; omega
theorem drop_rise {id : Int} {l : List FObj} (h : Rise l) : Rise (dropP id l) := List.Pairwise.filter _ h
theorem drop_mem {id : Int} {l : List FObj} {q : FObj} (h : q ∈ dropP id l) : q ∈ l ∧ q.id ≠ id := by
  unfold dropP at h
  rw [List.mem_filter] at h
  exact ⟨h.1, by simpa using h.2⟩
theorem get_set {o : FObj} {id : Int} : ∀ {l : List FObj}, getP id (setP o l) = if o.id = id then some o else getP id l
  | [] => by
    unfold setP getP
    rw [List.find?_cons]
    by_cases h : o.id = id
    · simp [h]
    · simp [h]
  | r :: rs => by
    have ih := get_set (o := o) (id := id) (l := rs)
    unfold getP at ih ⊢
    unfold setP
    by_cases h : o.id = id
    · rw [if_pos h] at ih ⊢
      split
      · rename_i hlt
        rw [List.find?_cons, ih]
        have : decide (r.id = id) = false := by simp; omega
        rw [this]
      · split
        · rw [List.find?_cons]; simp [h]
        · rw [List.find?_cons]; simp [h]
    · rw [if_neg h] at ih ⊢
      split
      · rw [List.find?_cons, List.find?_cons, ih]
      · split
        · rename_i he
          rw [List.find?_cons, List.find?_cons]
          have h1 : decide (o.id = id) = false := by simpa using h
          have h2 : decide (r.id = id) = false := by simp; omega
          rw [h1, h2]
        · rw [List.find?_cons]
          have h1 : decide (o.id = id) = false := by simpa using h
          rw [h1]
theorem get_drop {i id : Int} (h : i ≠ id) : ∀ {l : List FObj}, getP id (dropP i l) = getP id l
  | [] => rfl
  | r :: rs => by
    have ih := get_drop h (l := rs)
    unfold getP dropP at ih ⊢
    by_cases hr : r.id = i
    · have h1 : decide (r.id ≠ i) = false := by simpa using hr
      have h2 : decide (r.id = id) = false := by simp; omega
      rw [List.filter_cons, h1, List.find?_cons, h2]
      simpa using ih
    · have h1 : decide (r.id ≠ i) = true := by simpa using hr
      rw [List.filter_cons, h1, if_pos rfl, List.find?_cons, List.find?_cons, ih]
/-- rising numbers from a to b are few -/
theorem rise_few {b : Int} : ∀ {l : List FObj} {a : Int}, Rise l → (∀ o ∈ l, a ≤ o.id ∧ o.id ≤ b) → l ≠ [] → (l.length : Int) ≤ b - a + 1
  | [], _, _, _, h => absurd rfl h
  | [r], a, _, h, _ => by have := h r (by simp); simp; omega
  | r :: q :: rs, a, hr, h, _ => by
    unfold Rise at hr
    rw [List.pairwise_cons] at hr
    have h0 := h r (by simp)
    have := rise_few (a := a + 1) (b := b) (l := q :: rs) hr.2 (fun o ho => by
      have h1 := hr.1 o ho
      have h2 := h o (by simp only [List.mem_cons] at ho ⊢; exact Or.inr ho)
      omega) (by simp)
    simp only [List.length_cons] at this ⊢
    omega
/-- objects that may be, rising -/
def ObjsFine (l : List FObj) : Prop := Rise l ∧ ∀ o ∈ l, ObjFine o
theorem objs_few {l : List FObj} (h : ObjsFine l) : l.length ≤ 6 := by
  by_cases he : l = []
  · subst he; simp
  · have := rise_few (a := 1) (b := 6) h.1 (fun o ho => by have := (h.2 o ho).1; omega) he
    omega
theorem set_fine {o : FObj} {l : List FObj} (h : ObjsFine l) (ho : ObjFine o) : ObjsFine (setP o l) :=
  ⟨set_rise h.1, fun q hq => (set_mem hq).elim (fun e => e ▸ ho) (fun hq => h.2 q hq)⟩
theorem drop_fine {id : Int} {l : List FObj} (h : ObjsFine l) : ObjsFine (dropP id l) := ⟨drop_rise h.1, fun q hq => h.2 q (drop_mem hq).1⟩
theorem nil_fine : ObjsFine [] := ⟨by unfold Rise; simp, by simp⟩
end Fb
