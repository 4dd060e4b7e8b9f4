/- A region that draws its order, of reads and of calls that only make memory, and then of one last operation that waits for all of them: the text's order serves for every order. Conditions: no guards; edges point back; the last operation waits for each. -/
import Derived.Lib.QuietBelow
namespace Fb
open Go Go.Sort Go.RowKit
section
variable {P : Program} {md : Region.Mode} {C : World → Prop} {h : List Oper} {o : Oper}
/-- no guards, edges that point back, and a last operation that waits for each one -/
def lastB (md : Region.Mode) (h : List Oper) (o : Oper) : Bool :=
  ((List.range h.length).all fun j => (h[j]?).elim true fun x => x.guard.isNone && x.after.all fun e => decide (e.on < j)) &&
  (o.guard.isNone && ((o.after.all fun e => decide (e.on < h.length)) && (List.range h.length).all fun i => o.after.any fun e => Region.binds md e && decide (e.on = i)))
theorem lastB_head (hB : lastB md h o = true) {j : Nat} {x : Oper} (hx : h[j]? = some x) : x.guard = none ∧ ∀ e ∈ x.after, e.on < j := by
  unfold lastB at hB
  simp only [Bool.and_eq_true] at hB
  have hj := (List.getElem?_eq_some_iff.1 hx).1
  have h1 := List.all_eq_true.1 hB.1 j (List.mem_range.2 hj)
  rw [hx] at h1
  simp only [Option.elim_some, Bool.and_eq_true, Option.isNone_iff_eq_none] at h1
  exact ⟨h1.1, fun e he => by simpa using Array.all_eq_true'.1 h1.2 e he⟩
theorem lastB_last (hB : lastB md h o = true) : o.guard = none ∧ (∀ e ∈ o.after, e.on < h.length) ∧ ∀ i, i < h.length → ∃ e ∈ o.after, Region.binds md e = true ∧ e.on = i := by
  unfold lastB at hB
  simp only [Bool.and_eq_true, Option.isNone_iff_eq_none] at hB
  obtain ⟨-, h1, h2, h3⟩ := hB
  refine ⟨h1, fun e he => by simpa using Array.all_eq_true'.1 h2 e he, fun i hi => ?_⟩
  obtain ⟨e, he, hb⟩ := Array.any_eq_true'.1 (List.all_eq_true.1 h3 i (List.mem_range.2 hi))
  simp only [Bool.and_eq_true, decide_eq_true_eq] at hb
  exact ⟨e, he, hb.1, hb.2⟩
/-- what is listed, without and with the last operation -/
structure Both2 (n : Nat) (l' l : Array Bool) : Prop where
  s1 : l'.size = n
  s2 : l.size = n + 1
  eq : ∀ i, i < n → l'[i]? = l[i]?
  last : l[n]? = some false
theorem Both2.getD {n : Nat} {l' l : Array Bool} (b : Both2 n l' l) {i : Nat} (hi : i < n) (d : Bool) : l'.getD i d = l.getD i d := by
  have := b.eq i hi
  rw [Array.getD_eq_getD_getElem?, Array.getD_eq_getD_getElem?, this]
theorem Both2.set {n : Nat} {l' l : Array Bool} (b : Both2 n l' l) {i : Nat} (hi : i < n) : Both2 n (l'.setIfInBounds i true) (l.setIfInBounds i true) :=
  ⟨by simp [b.s1], by simp [b.s2], fun j hj => by
    rw [Array.getElem?_setIfInBounds, Array.getElem?_setIfInBounds, b.s1, b.s2, b.eq j hj]
    by_cases e : i = j
    · subst e; simp [hi]; omega
    · simp [e], by rw [Array.getElem?_setIfInBounds, if_neg (by omega)]; exact b.last⟩
theorem at_head {i : Nat} (hi : i < h.length) : (h ++ [o]).toArray[i]? = h[i]? := by simp [List.getElem?_append_left hi]
theorem at_last : (h ++ [o]).toArray[h.length]? = some o := by simp
def AllL (n : Nat) (l : Array Bool) : Prop := ∀ j, j < n → l.getD j false = true
theorem ready_down (hB : lastB md h o = true) {l' l : Array Bool} (b : Both2 h.length l' l) {i : Nat} (hr : i ∈ Region.ready md (h ++ [o]).toArray l) :
    (i < h.length ∧ i ∈ Region.ready md h.toArray l') ∨ (i = h.length ∧ AllL h.length l') := by
  obtain ⟨h1, x, h2, h3⟩ := mem_ready.1 hr
  have hi : i < h.length + 1 := by
    have := (Array.getElem?_eq_some_iff.1 h2).1
    simpa using this
  rcases Nat.lt_or_ge i h.length with hlt | hge
  · left
    rw [at_head hlt] at h2
    refine ⟨hlt, mem_ready.2 ⟨by rw [b.getD hlt]; exact h1, x, by simpa using h2, fun e he hb => ?_⟩⟩
    rw [b.getD (Nat.lt_trans ((lastB_head hB h2).2 e he) hlt)]
    exact h3 e he hb
  · right
    obtain rfl : i = h.length := by omega
    rw [at_last] at h2
    injection h2 with h2
    subst h2
    refine ⟨rfl, fun j hj => ?_⟩
    obtain ⟨e, he, hb, rfl⟩ := (lastB_last hB).2.2 j hj
    rw [b.getD hj]
    exact h3 e he hb
theorem ready_up (hB : lastB md h o = true) {l' l : Array Bool} (b : Both2 h.length l' l) {i : Nat} (hi : i < h.length) (hr : i ∈ Region.ready md h.toArray l') : i ∈ Region.ready md (h ++ [o]).toArray l := by
  obtain ⟨h1, x, h2, h3⟩ := mem_ready.1 hr
  have h2' : h[i]? = some x := by simpa using h2
  refine mem_ready.2 ⟨by rw [← b.getD hi]; exact h1, x, by rw [at_head hi]; exact h2', fun e he hb => ?_⟩
  rw [← b.getD (Nat.lt_trans ((lastB_head hB h2').2 e he) hi)]
  exact h3 e he hb
theorem ready_last (hB : lastB md h o = true) {l' l : Array Bool} (b : Both2 h.length l' l) (ha : AllL h.length l') : h.length ∈ Region.ready md (h ++ [o]).toArray l := by
  refine mem_ready.2 ⟨by rw [Array.getD_eq_getD_getElem?, b.last]; rfl, o, at_last, fun e he _ => ?_⟩
  have hlt := (lastB_last hB).2.1 e he
  rw [← b.getD hlt]
  exact ha _ hlt
/-- where nothing may come up, all is listed -/
theorem all_of_none (hB : lastB md h o = true) {l' : Array Bool} (hs : l'.size = h.length) (hr : Region.ready md h.toArray l' = []) : AllL h.length l' := by
  intro j
  induction j using Nat.strongRecOn with
  | _ j ih =>
    intro hj
    cases hd : l'.getD j true with
    | true =>
      rw [Array.getD_eq_getD_getElem?] at hd ⊢
      rw [Array.getElem?_eq_getElem (by omega)] at hd ⊢
      simpa using hd
    | false =>
      exfalso
      have hx : h[j]? = some h[j] := List.getElem?_eq_getElem hj
      have : j ∈ Region.ready md h.toArray l' := mem_ready.2 ⟨hd, h[j], by simp, fun e he _ => ih e.on ((lastB_head hB hx).2 e he) (Nat.lt_trans ((lastB_head hB hx).2 e he) hj)⟩
      rw [hr] at this
      cases this
theorem none_of_all {l : Array Bool} {ops : Array Oper} (ha : ∀ j, j < ops.size → l.getD j true = true) : Region.ready md ops l = [] := by
  cases hr : Region.ready md ops l with
  | nil => rfl
  | cons i r =>
    exfalso
    have : i ∈ Region.ready md ops l := by rw [hr]; simp
    obtain ⟨h1, x, h2, -⟩ := mem_ready.1 this
    rw [ha i (Array.getElem?_eq_some_iff.1 h2).1] at h1
    cases h1
theorem wpAny_end {ops : Array Oper} {Q : Exit → Act → World → Prop} {l : Array Bool} {a : Act} {w : World} (hr : Region.ready md ops l = []) (hq : Q .normal a w) : ∀ f, wpAny P md ops Q f l a w
  | 0 => ⟨hr, hq⟩
  | f + 1 => ⟨fun _ => hq, fun i hi => by rw [hr] at hi; cases hi⟩
theorem wanted_none {x : Oper} (hg : x.guard = none) (y) : Region.wanted x y = true := by simp [Region.wanted, hg]
theorem wpAny_tail (hB : lastB md h o = true) {Q : Exit → Act → World → Prop} : ∀ (f : Nat) (l' l : Array Bool) (a : Act) (w : World), Both2 h.length l' l → C w →
    wpAnyQ P md h.toArray C (fun a => ∀ w, C w → (o.wp P a w (fun a w => Q .normal a w) Q ∨ (o.asks P a w ∧ LetsOut Q))) f l' a → wpAny P md (h ++ [o]).toArray Q (f + 1) l a w := by
  have fin : ∀ (f : Nat) (l' l : Array Bool) (a : Act) (w : World), Both2 h.length l' l → AllL h.length l' → (o.wp P a w (fun a w => Q .normal a w) Q ∨ (o.asks P a w ∧ LetsOut Q)) → wpAny P md (h ++ [o]).toArray Q (f + 1) l a w := by
    intro f l' l a w b ha hw
    refine ⟨fun h0 => ?_, fun i hi => ?_⟩
    · have := ready_last hB b ha
      rw [h0] at this
      cases this
    · rcases ready_down hB b hi with ⟨h1, h2⟩ | ⟨rfl, -⟩
      · exfalso
        have h3 := (mem_ready.1 h2).1
        have h4 := ha i h1
        rw [Array.getD_eq_getD_getElem?, Array.getElem?_eq_getElem (by have := b.s1; omega)] at h3 h4
        simp at h3 h4
        rw [h3] at h4
        cases h4
      · unfold wpOp
        rw [at_last]
        simp only [wanted_none (lastB_last hB).1, if_true]
        have hend : ∀ j, j < (h ++ [o]).toArray.size → (l.setIfInBounds h.length true).getD j true = true := by
          intro j hj
          have hj' : j < h.length + 1 := by simpa using hj
          have hs2 := b.s2
          rw [Array.getD_eq_getD_getElem?, Array.getElem?_setIfInBounds]
          by_cases e : h.length = j
          · subst e; simp [hs2]
          · rw [if_neg e]
            have hlt : j < h.length := by omega
            have h5 := ha j hlt
            rw [b.getD hlt, Array.getD_eq_getD_getElem?, Array.getElem?_eq_getElem (by omega)] at h5
            rw [Array.getElem?_eq_getElem (by omega)]
            simpa using h5
        rcases hw with hw | hw
        · exact .inl (Oper.wp_mono (fun a' w' hq => wpAny_end (none_of_all hend) hq f) hw)
        · exact .inr hw
  intro f
  induction f with
  | zero =>
    intro l' l a w b hw hq
    exact fin 0 l' l a w b (all_of_none hB b.s1 hq.1) (hq.2 w hw)
  | succ f ih =>
    intro l' l a w b hw hq
    by_cases hr : Region.ready md h.toArray l' = []
    · exact fin (f + 1) l' l a w b (all_of_none hB b.s1 hr) (hq.1 hr w hw)
    · refine ⟨fun h0 => ?_, fun i hi => ?_⟩
      · exfalso
        cases hr' : Region.ready md h.toArray l' with
        | nil => exact hr hr'
        | cons i r =>
          have hm : i ∈ Region.ready md h.toArray l' := by rw [hr']; simp
          obtain ⟨-, x, h2, -⟩ := mem_ready.1 hm
          have hi : i < h.length := by have := (Array.getElem?_eq_some_iff.1 h2).1; simpa using this
          have := ready_up hB b hi hm
          rw [h0] at this
          cases this
      · rcases ready_down hB b hi with ⟨h1, h2⟩ | ⟨rfl, ha⟩
        · have h3 := hq.2 i h2
          have hx : h[i]? = some h[i] := List.getElem?_eq_getElem h1
          have hg := (lastB_head hB hx).1
          unfold qOp at h3
          rw [show h.toArray[i]? = some h[i] by simp] at h3
          simp only [wanted_none hg, if_true] at h3
          unfold wpOp
          rw [at_head h1, hx]
          simp only [wanted_none hg, if_true]
          exact .inl (Oper.wp_of_quiet hw (fun a' w' hw' hk => ih _ _ a' w' (b.set h1) hw' hk) h3)
        · exfalso
          apply hr
          exact none_of_all fun j hj => by
            have hj' : j < h.length := by simpa using hj
            have h5 := ha j hj'
            have hs1 := b.s1
            rw [Array.getD_eq_getD_getElem?, Array.getElem?_eq_getElem (by omega)] at h5 ⊢
            simpa using h5
/-- what stands ahead of the last operation is walked in the text's order; the last one in every world that may come of it -/
theorem wp_region_last {id : Nat} {Q : Exit → Act → World → Prop} {a : Act} {w : World} (hm : P.follows .mixedOrders = true) (hL : Region.lexB .any h.toArray = true) (hB : lastB .any h o = true)
    (hC : C { w with drawn := w.drawn + 1 }) (hw : wpQuiet P h.toArray C (fun a' => ∀ w', C w' → (o.wp P a' w' (fun a w => Q .normal a w) Q ∨ (o.asks P a' w' ∧ LetsOut Q))) h a) : (Code.region id (h ++ [o]).toArray true).wp P Q a w := by
  simp only [Region.lexB, Bool.and_eq_true] at hL
  refine wp_region_any hm ?_
  have H := wpAnyQ_lex (C := C) (md := .any) hL.1 h 0 (Array.replicate h.toArray.size false) a (by simp) (by simpa using hL.2) hw
  have := wpAny_tail (P := P) (C := C) (Q := Q) hB h.length (Array.replicate h.toArray.size false) (Array.replicate (h ++ [o]).toArray.size false) a { w with drawn := w.drawn + 1 }
    ⟨by simp, by simp, fun i hi => by simp [Array.getElem?_replicate, hi]; omega, by simp⟩ hC H
  simpa using this
/-- .. at the class 'w with some blocks laid behind it' -/
theorem wp_region_last_below {id : Nat} {Q : Exit → Act → World → Prop} {a : Act} {w : World} (hm : P.follows .mixedOrders = true) (hL : Region.lexB .any h.toArray = true) (hB : lastB .any h o = true)
    (hw : wpQuiet P h.toArray (fun w' => ∃ p : Regrown, w' = grow (redrawn w p.d) p.os) (fun a' => ∀ w', (∃ p : Regrown, w' = grow (redrawn w p.d) p.os) → (o.wp P a' w' (fun a w => Q .normal a w) Q ∨ (o.asks P a' w' ∧ LetsOut Q))) h a) : (Code.region id (h ++ [o]).toArray true).wp P Q a w :=
  wp_region_last (C := fun w' => ∃ p : Regrown, w' = grow (redrawn w p.d) p.os) hm hL hB ⟨⟨w.drawn + 1, #[]⟩, by rw [grow_empty]; rfl⟩ hw
/-- .. the operations written out; the last one as a list of one, as a plain walk has it -/
theorem wp_region_last_at {id : Nat} {Q : Exit → Act → World → Prop} {a : Act} {w : World} {l : List Oper} (n : Nat) (o : Oper) (hd : l.drop n = [o]) (hm : P.follows .mixedOrders = true) (hL : Region.lexB .any (l.take n).toArray = true) (hB : lastB .any (l.take n) o = true)
    (hw : wpQuiet P (l.take n).toArray (fun w' => ∃ p : Regrown, w' = grow (redrawn w p.d) p.os) (fun a' => ∀ w', (∃ p : Regrown, w' = grow (redrawn w p.d) p.os) → wpList P l.toArray Q [o] a' w') (l.take n) a) : (Code.region id l.toArray true).wp P Q a w := by
  have e : l = l.take n ++ [o] := by rw [← hd, List.take_append_drop]
  have hg := (lastB_last hB).1
  have H := wp_region_last_below (P := P) (id := id) (Q := Q) (a := a) (w := w) hm hL hB (by
    have hmono : ∀ (K K' : Act → Prop), (∀ a, K a → K' a) → ∀ (ops : Array Oper) (l : List Oper) (a : Act), wpQuiet P ops (fun w' => ∃ p : Regrown, w' = grow (redrawn w p.d) p.os) K l a → wpQuiet P ops (fun w' => ∃ p : Regrown, w' = grow (redrawn w p.d) p.os) K' l a := by
      intro K K' hk ops l
      induction l with
      | nil => intro a h; exact hk a h
      | cons x l ih =>
        intro a h
        unfold wpQuiet at h ⊢
        split
        · rename_i hwn; rw [if_pos hwn] at h; exact Oper.quiet_mono (fun a h => ih a h) h
        · rename_i hwn; rw [if_neg hwn] at h; exact ih _ h
    refine hmono _ _ (fun a' h w' hw' => ?_) _ _ _ hw
    have h2 := h w' hw'
    unfold wpList at h2
    rw [if_pos (wanted_none hg _)] at h2
    exact h2)
  rw [e]
  simpa [← e] using H
end
end Fb
