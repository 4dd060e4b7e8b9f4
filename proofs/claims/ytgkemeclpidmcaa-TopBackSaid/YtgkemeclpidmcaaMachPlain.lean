/- The machine that plays a book, in plain Lean: one step, and so many. Conditions: those of each lemma. Runs of the machine that plays a book, in plain Lean: more fuel; plain ops one behind the other. Conditions: those of each lemma. What books of plain ops, and books with a loop, play. Plain Lean. Conditions: those of each lemma. What single books play: waits with nothing between, what is hidden or taken away, moved and back, nothing but what is behind all. Plain Lean. Conditions: those of each lemma. A loop in a loop, played. Plain Lean. Conditions: those of each lemma. -/
import Derived.Test.YtgkemeclpidmcaaObjsLaw2
import Derived.Test.YtgkemeclpidmcaaBookKit
namespace Fb
theorem inM_iff {x lo hi : Int} : inB x lo hi = true ↔ lo ≤ x ∧ x ≤ hi := by unfold inB; simp
structure MSt where
  at_ : Nat
  turns : List (Nat × Nat)
  objs : List FObj
  saved : List FObj
  back : Px
  frames : List FFrame
def m0 : MSt := ⟨0, [], [], [], (0, 0), []⟩
def headW (l : List FOp) : Nat := (opAt l 0).a.toNat
def headH (l : List FOp) : Nat := (opAt l 0).b.toNat
/-- the next turn of a loop, or none -/
def turnM (s : MSt) : MSt :=
  match s.turns.getLast? with
  | none => { s with at_ := s.at_ + 1 }
  | some t => if t.2 ≤ 1 then { s with at_ := s.at_ + 1, turns := s.turns.dropLast } else { s with at_ := t.1 + 1, turns := s.turns.dropLast ++ [(t.1, t.2 - 1)] }
def stepO (l : List FOp) (s : MSt) (o : FOp) : MSt × Nat :=
  if o.kind = 16 then (s, 0)
  else if o.kind = 1 then ({ s with at_ := s.at_ + 1 }, 0)
  else if o.kind = 10 then ({ s with at_ := s.at_ + 1, back := (o.a, o.b) }, 0)
  else if o.kind = 11 then (if s.frames.length = 40 then (s, 7) else ({ s with at_ := s.at_ + 1, frames := s.frames ++ [⟨seenP s.objs (headW l) (headH l) s.back, o.a⟩] }, 0))
  else if o.kind = 12 then (if o.a = 0 then ({ s with at_ := endP l s.at_ + 1 }, 0) else ({ s with at_ := s.at_ + 1, turns := s.turns ++ [(s.at_, o.a.toNat)] }, 0))
  else if o.kind = 13 then (turnM s, 0)
  else if o.kind = 14 then ({ s with at_ := s.at_ + 1, saved := s.objs }, 0)
  else if o.kind = 15 then ({ s with at_ := s.at_ + 1, objs := s.saved }, 0)
  else if (doP s.objs o).2 ≠ 0 then (s, (doP s.objs o).2) else ({ s with at_ := s.at_ + 1, objs := (doP s.objs o).1 }, 0)
def stepP (l : List FOp) (s : MSt) : MSt × Nat := stepO l s (opAt l s.at_)
/-- the machine is as it may be -/
structure MOk (l : List FOp) (s : MSt) : Prop where
  at_ : s.at_ < l.length
  open_ : s.turns.map Prod.fst = openAt l s.at_
  left : ∀ t ∈ s.turns, 1 ≤ t.2 ∧ t.2 ≤ 9
  objs : ObjsFine s.objs
  saved : ObjsFine s.saved
  back : PxFine s.back
  few : s.frames.length ≤ 40
  pics : ∀ f ∈ s.frames, PicFine f.pic ∧ f.pic.w = (headW l : Int) ∧ f.pic.h = (headH l : Int) ∧ 0 ≤ f.delay ∧ f.delay ≤ 99
theorem px_zero : PxFine (0, 0) := ⟨by decide, by decide, by decide, by decide⟩
theorem objs_nil : ObjsFine [] := ⟨List.Pairwise.nil, fun o h => by simp at h⟩
theorem m0_ok {l : List FOp} (hf : BookFine l) : MOk l m0 :=
  ⟨by have := hf.two; show 0 < _; omega, rfl, fun t h => by simp [m0] at h, objs_nil, objs_nil, px_zero, by simp [m0], fun f h => by simp [m0] at h⟩
/-- the head's sides -/
theorem head_sides {l : List FOp} (hf : BookFine l) : 1 ≤ headW l ∧ headW l ≤ 8 ∧ 1 ≤ headH l ∧ headH l ≤ 8 ∧ (headW l : Int) = (opAt l 0).a ∧ (headH l : Int) = (opAt l 0).b := by
  have h := hf.ops 0 (by have := hf.two; omega)
  have hk := hf.head
  obtain ⟨-, -, -, hb, -⟩ := opFault_fine h
  unfold boundB at hb
  rw [if_pos hk] at hb
  simp only [Bool.and_eq_true, inM_iff] at hb
  unfold headW headH
  omega
theorem back_bd {o : FOp} (h : opFault o = 0) (hk : o.kind = 10) : PxFine (o.a, o.b) := by
  obtain ⟨-, -, -, hb, -⟩ := opFault_fine h
  unfold boundB at hb
  simp [hk, inM_iff] at hb
  exact ⟨hb.1.1, hb.1.2, hb.2.1, hb.2.2⟩
theorem wait_bd {o : FOp} (h : opFault o = 0) (hk : o.kind = 11) : 0 ≤ o.a ∧ o.a ≤ 99 := by
  obtain ⟨-, -, -, hb, -⟩ := opFault_fine h
  unfold boundB at hb
  simpa [hk, inM_iff] using hb
theorem loop_bd {o : FOp} (h : opFault o = 0) (hk : o.kind = 12) : 0 ≤ o.a ∧ o.a ≤ 9 := by
  obtain ⟨-, -, -, hb, -⟩ := opFault_fine h
  unfold boundB at hb
  simpa [hk, inM_iff] using hb
theorem openStep_same {s : List Nat} {i : Nat} {k : Int} (h1 : k ≠ 12) (h2 : k ≠ 13) : openStep s i k = s := by unfold openStep; rw [if_neg h1, if_neg h2]
theorem not_last {l : List FOp} (hf : BookFine l) {p : Nat} (hp : p < l.length) (hk : (opAt l p).kind ≠ 16) : p + 1 < l.length := by
  by_cases h : p + 1 < l.length
  · exact h
  · exact absurd (by rw [show p = l.length - 1 by omega]; exact hf.last) hk
theorem seen_ok {l : List FOp} (hf : BookFine l) {s : MSt} (h : MOk l s) : PicFine (seenP s.objs (headW l) (headH l) s.back) ∧ (seenP s.objs (headW l) (headH l) s.back).w = (headW l : Int) ∧ (seenP s.objs (headW l) (headH l) s.back).h = (headH l : Int) ∧ (seenP s.objs (headW l) (headH l) s.back).p.length = headW l * headH l := by
  obtain ⟨h1, h2, h3, h4, -, -⟩ := head_sides hf
  have e := seenK_all (l := s.objs) (X := headW l) (Y := headH l) (back := s.back) (k := s.objs.length) (Nat.le_refl _)
  have f := seenK_fine (l := s.objs) s.objs.length h1 h2 h3 h4 h.back h.objs.2
  have g := seenK_shape s.objs (headW l) (headH l) s.back s.objs.length
  rw [e] at f g
  refine ⟨f, ?_, ?_, g.2⟩
  · rw [g.1]
  · rw [g.1]
/-- what a Next finds -/
theorem turn_last {l : List FOp} (hf : BookFine l) {s : MSt} (h : MOk l s) (hk : (opAt l s.at_).kind = 13) : ∃ r i n, s.turns = r ++ [(i, n)] ∧ openAt l s.at_ = r.map Prod.fst ++ [i] ∧ i < s.at_ ∧ openAt l (i + 1) = r.map Prod.fst ++ [i] ∧ 1 ≤ n ∧ n ≤ 9 := by
  have hne := hf.next _ h.at_ hk
  rw [← h.open_] at hne
  have hne2 : s.turns ≠ [] := fun e => hne (by rw [e]; rfl)
  obtain ⟨r, t, hr⟩ : ∃ r t, s.turns = r ++ [t] := ⟨_, _, (List.dropLast_concat_getLast hne2).symm⟩
  obtain ⟨i, n⟩ := t
  have ho := h.open_
  rw [hr, List.map_append] at ho
  have ho2 : openAt l s.at_ = r.map Prod.fst ++ i :: [] := ho.symm
  have hm := openAt_lt l s.at_ i (by rw [ho2]; simp)
  have hl := h.left (i, n) (by rw [hr]; simp)
  have hu := openAt_under l s.at_ _ _ _ ho2
  exact ⟨r, i, n, hr, ho2, hm.1, by rw [openAt_succ, hm.2, hu]; rfl, hl.1, hl.2⟩
theorem turnM_eq {s : MSt} {r : List (Nat × Nat)} {i n : Nat} (h : s.turns = r ++ [(i, n)]) : turnM s = if n ≤ 1 then { s with at_ := s.at_ + 1, turns := r } else { s with at_ := i + 1, turns := r ++ [(i, n - 1)] } := by
  unfold turnM
  rw [h]
  simp
/-- one step keeps the machine as it may be -/
theorem step_ok {l : List FOp} (hf : BookFine l) {s : MSt} (h : MOk l s) : MOk l (stepP l s).1 := by
  have hof := hf.ops _ h.at_
  have hnl := not_last hf h.at_
  have hsucc := openAt_succ l s.at_
  unfold stepP
  obtain ⟨o, ho⟩ : ∃ o, opAt l s.at_ = o := ⟨_, rfl⟩
  have hturn := turn_last hf h
  have hend : o.kind = 12 → EndAt l s.at_ (endP l s.at_) := fun e => endP_spec hf h.at_ (by rw [ho]; exact e)
  rw [ho] at hof hnl hsucc hturn ⊢
  unfold stepO
  by_cases k16 : o.kind = 16
  · rw [if_pos k16]; exact h
  rw [if_neg k16]
  have hn1 := hnl k16
  have same : o.kind ≠ 12 → o.kind ≠ 13 → s.turns.map Prod.fst = openAt l (s.at_ + 1) := fun a b => by rw [hsucc, openStep_same a b]; exact h.open_
  by_cases k1 : o.kind = 1
  · rw [if_pos k1]
    exact ⟨hn1, same (by omega) (by omega), h.left, h.objs, h.saved, h.back, h.few, h.pics⟩
  rw [if_neg k1]
  by_cases k10 : o.kind = 10
  · rw [if_pos k10]
    exact ⟨hn1, same (by omega) (by omega), h.left, h.objs, h.saved, back_bd hof k10, h.few, h.pics⟩
  rw [if_neg k10]
  by_cases k11 : o.kind = 11
  · rw [if_pos k11]
    by_cases hfu : s.frames.length = 40
    · rw [if_pos hfu]; exact h
    · rw [if_neg hfu]
      have hs := seen_ok hf h
      have hw := wait_bd hof k11
      refine ⟨hn1, same (by omega) (by omega), h.left, h.objs, h.saved, h.back, ?_, fun f hfm => ?_⟩
      · have := h.few; show (s.frames ++ [_]).length ≤ 40; simp; omega
      · rcases List.mem_append.1 hfm with hfm | hfm
        · exact h.pics f hfm
        · simp at hfm; subst hfm; exact ⟨hs.1, hs.2.1, hs.2.2.1, hw.1, hw.2⟩
  rw [if_neg k11]
  by_cases k12 : o.kind = 12
  · rw [if_pos k12]
    by_cases ha : o.a = 0
    · rw [if_pos ha]
      have hE := hend k12
      exact ⟨hE.len, h.open_.trans hE.shut.symm, h.left, h.objs, h.saved, h.back, h.few, h.pics⟩
    · rw [if_neg ha]
      have hb := loop_bd hof k12
      refine ⟨hn1, ?_, fun t ht => ?_, h.objs, h.saved, h.back, h.few, h.pics⟩
      · show (s.turns ++ [_]).map Prod.fst = _
        rw [hsucc, k12, List.map_append, h.open_]; rfl
      · rcases List.mem_append.1 ht with ht | ht
        · exact h.left t ht
        · simp at ht; subst ht; show 1 ≤ o.a.toNat ∧ o.a.toNat ≤ 9; omega
  rw [if_neg k12]
  by_cases k13 : o.kind = 13
  · rw [if_pos k13]
    obtain ⟨r, i, n, hr, ho2, hi, ho3, hn, hn9⟩ := hturn k13
    show MOk l (turnM s)
    rw [turnM_eq hr]
    have hll := h.left
    rw [hr] at hll
    by_cases hn2 : n ≤ 1
    · rw [if_pos hn2]
      refine ⟨hn1, ?_, fun t ht => hll t (by simp [ht]), h.objs, h.saved, h.back, h.few, h.pics⟩
      show r.map Prod.fst = openAt l (s.at_ + 1)
      rw [hsucc, ho2, k13]
      unfold openStep
      rw [if_neg (by decide), if_pos rfl, List.dropLast_concat]
    · rw [if_neg hn2]
      refine ⟨?_, ?_, fun t ht => ?_, h.objs, h.saved, h.back, h.few, h.pics⟩
      · show i + 1 < l.length; omega
      · show (r ++ [(i, n - 1)]).map Prod.fst = openAt l (i + 1)
        rw [ho3, List.map_append]; rfl
      · rcases List.mem_append.1 ht with ht | ht
        · exact hll t (by simp [ht])
        · simp at ht; subst ht; show 1 ≤ n - 1 ∧ n - 1 ≤ 9; omega
  rw [if_neg k13]
  by_cases k14 : o.kind = 14
  · rw [if_pos k14]
    exact ⟨hn1, same k12 k13, h.left, h.objs, h.objs, h.back, h.few, h.pics⟩
  rw [if_neg k14]
  by_cases k15 : o.kind = 15
  · rw [if_pos k15]
    exact ⟨hn1, same k12 k13, h.left, h.saved, h.saved, h.back, h.few, h.pics⟩
  rw [if_neg k15]
  by_cases hd : (doP s.objs o).2 ≠ 0
  · rw [if_pos hd]; exact h
  · rw [if_neg hd]
    exact ⟨hn1, same k12 k13, h.left, do_fine h.objs hof, h.saved, h.back, h.few, h.pics⟩
/-- n steps at most, as long as all goes well -/
def runM (l : List FOp) : Nat → MSt → MSt × Nat
  | 0, s => (s, 0)
  | n + 1, s => if (opAt l s.at_).kind = 16 then (s, 0) else if (stepP l s).2 ≠ 0 then stepP l s else runM l n (stepP l s).1
def fuelN (fuel : Int) : Nat := (min fuel 400).toNat
def endM (l : List FOp) (r : MSt × Nat) : List FFrame × Nat := if r.2 ≠ 0 then ([], r.2) else if (opAt l r.1.at_).kind ≠ 16 then ([], 8) else (r.1.frames, 0)
def playP (l : List FOp) (fuel : Int) : List FFrame × Nat := if bookFault l ≠ 0 then ([], bookFault l) else endM l (runM l (fuelN fuel) m0)
theorem runM_ok {l : List FOp} (hf : BookFine l) : ∀ (n : Nat) (s : MSt), MOk l s → MOk l (runM l n s).1
  | 0, s, h => h
  | n + 1, s, h => by
    rw [runM]
    split
    · exact h
    · split
      · exact step_ok hf h
      · exact runM_ok hf n _ (step_ok hf h)
theorem step_le {l : List FOp} {s : MSt} : (stepP l s).2 ≤ 7 := by
  unfold stepP stepO
  repeat' split
  all_goals (first | omega | (show (doP _ _).2 ≤ 7; unfold doP; (repeat' split) <;> simp) | simp)
theorem runM_le {l : List FOp} : ∀ (n : Nat) (s : MSt), (runM l n s).2 ≤ 7
  | 0, s => by simp [runM]
  | n + 1, s => by
    rw [runM]
    split
    · simp
    · split
      · exact step_le
      · exact runM_le n _
theorem playP_le (l : List FOp) (fuel : Int) : (playP l fuel).2 ≤ 8 := by
  have h1 := bookFault_le l
  have h2 := runM_le (l := l) (fuelN fuel) m0
  unfold playP endM
  split
  · show bookFault l ≤ 8; omega
  · split
    · show (runM _ _ _).2 ≤ 8; omega
    · split
      · show 8 ≤ 8; omega
      · show 0 ≤ 8; omega
end Fb
namespace Fb
/-- a run that has ended is the same with more fuel -/
theorem run_more {l : List FOp} : ∀ (n m : Nat) (s : MSt), ((runM l n s).2 ≠ 0 ∨ (opAt l (runM l n s).1.at_).kind = 16) → runM l (n + m) s = runM l n s
  | 0, m, s, h => by
    rcases h with h | h
    · exact absurd rfl h
    · simp only [runM] at h
      cases m with
      | zero => rfl
      | succ m => simp only [runM]; rw [if_pos h]
  | n + 1, m, s, h => by
    rw [show n + 1 + m = (n + m) + 1 by omega]
    rw [runM] at h ⊢
    rw [runM]
    by_cases h1 : (opAt l s.at_).kind = 16
    · rw [if_pos h1, if_pos h1]
    · rw [if_neg h1] at h ⊢
      rw [if_neg h1]
      by_cases h2 : (stepP l s).2 ≠ 0
      · rw [if_pos h2, if_pos h2]
      · rw [if_neg h2] at h ⊢
        rw [if_neg h2]
        exact run_more n m _ h
theorem fuelN_more {f m : Int} (hm : 0 ≤ m) : ∃ d, fuelN (f + m) = fuelN f + d := ⟨fuelN (f + m) - fuelN f, by unfold fuelN; omega⟩
/-- MORE FUEL CHANGES NOTHING -/
theorem play_more {l : List FOp} {f m : Int} (hm : 0 ≤ m) (h : (playP l f).2 ≠ 8) : playP l (f + m) = playP l f := by
  obtain ⟨d, hd⟩ := fuelN_more (f := f) hm
  unfold playP at h ⊢
  by_cases hb : bookFault l ≠ 0
  · rw [if_pos hb, if_pos hb]
  · rw [if_neg hb] at h ⊢
    rw [if_neg hb, hd]
    congr 1
    apply run_more
    unfold endM at h
    by_cases h1 : (runM l (fuelN f) m0).2 ≠ 0
    · exact Or.inl h1
    · rw [if_neg h1] at h
      by_cases h2 : (opAt l (runM l (fuelN f) m0).1.at_).kind = 16
      · exact Or.inr h2
      · rw [if_pos h2] at h; exact absurd rfl h
theorem play_empty {l : List FOp} {f : Int} (h : (playP l f).2 ≠ 0) : (playP l f).1 = [] := by
  unfold playP endM at h ⊢
  repeat' split
  all_goals (first | rfl | (exfalso; simp_all))
/-! ## plain ops -/
structure MC where
  objs : List FObj
  saved : List FObj
  back : Px
  frames : List FFrame
def MSt.core (s : MSt) : MC := ⟨s.objs, s.saved, s.back, s.frames⟩
def MC.at_ (c : MC) (p : Nat) (t : List (Nat × Nat)) : MSt := ⟨p, t, c.objs, c.saved, c.back, c.frames⟩
def plainK (k : Int) : Prop := k ≠ 16 ∧ k ≠ 12 ∧ k ≠ 13
/-- what a plain op does -/
def coreO (W H : Nat) (c : MC) (o : FOp) : MC × Nat :=
  if o.kind = 1 then (c, 0)
  else if o.kind = 10 then ({ c with back := (o.a, o.b) }, 0)
  else if o.kind = 11 then (if c.frames.length = 40 then (c, 7) else ({ c with frames := c.frames ++ [⟨seenP c.objs W H c.back, o.a⟩] }, 0))
  else if o.kind = 14 then ({ c with saved := c.objs }, 0)
  else if o.kind = 15 then ({ c with objs := c.saved }, 0)
  else if (doP c.objs o).2 ≠ 0 then (c, (doP c.objs o).2) else ({ c with objs := (doP c.objs o).1 }, 0)
def coreL (W H : Nat) : List FOp → MC → MC × Nat
  | [], c => (c, 0)
  | o :: r, c => if (coreO W H c o).2 ≠ 0 then coreO W H c o else coreL W H r (coreO W H c o).1
theorem coreL_append (W H : Nat) : ∀ (a b : List FOp) (c : MC), coreL W H (a ++ b) c = if (coreL W H a c).2 ≠ 0 then coreL W H a c else coreL W H b (coreL W H a c).1
  | [], b, c => by simp [coreL]
  | o :: a, b, c => by
    rw [List.cons_append, coreL, coreL]
    by_cases h : (coreO W H c o).2 ≠ 0
    · rw [if_pos h, if_pos h, if_pos h]
    · rw [if_neg h, if_neg h]
      exact coreL_append W H a b _
theorem step_plain {l : List FOp} {c : MC} {p : Nat} {t : List (Nat × Nat)} (h : plainK (opAt l p).kind) :
    stepP l (c.at_ p t) = if (coreO (headW l) (headH l) c (opAt l p)).2 ≠ 0 then (c.at_ p t, (coreO (headW l) (headH l) c (opAt l p)).2) else ((coreO (headW l) (headH l) c (opAt l p)).1.at_ (p + 1) t, 0) := by
  obtain ⟨h1, h2, h3⟩ := h
  unfold stepP
  show stepO l (c.at_ p t) (opAt l p) = _
  generalize opAt l p = o at *
  unfold stepO coreO
  rw [if_neg h1]
  by_cases k1 : o.kind = 1
  · rw [if_pos k1, if_pos k1]; rfl
  rw [if_neg k1, if_neg k1]
  by_cases k10 : o.kind = 10
  · rw [if_pos k10, if_pos k10]; rfl
  rw [if_neg k10, if_neg k10]
  by_cases k11 : o.kind = 11
  · rw [if_pos k11, if_pos k11]
    show (if c.frames.length = 40 then _ else _) = _
    by_cases hf : c.frames.length = 40
    · rw [if_pos hf, if_pos hf]; rfl
    · rw [if_neg hf, if_neg hf]; rfl
  rw [if_neg k11, if_neg k11, if_neg h2, if_neg h3]
  by_cases k14 : o.kind = 14
  · rw [if_pos k14, if_pos k14]; rfl
  rw [if_neg k14, if_neg k14]
  by_cases k15 : o.kind = 15
  · rw [if_pos k15, if_pos k15]; rfl
  rw [if_neg k15, if_neg k15]
  show (if (doP c.objs o).2 ≠ 0 then _ else _) = _
  by_cases hd : (doP c.objs o).2 ≠ 0
  · rw [if_pos hd, if_pos hd, if_pos hd]; rfl
  · rw [if_neg hd, if_neg hd]; rfl
/-- plain ops, one behind the other -/
theorem run_plain {l : List FOp} {t : List (Nat × Nat)} (m : Nat) : ∀ (os : List FOp) (p : Nat) (c : MC), (∀ i, i < os.length → opAt l (p + i) = opAt os i) → (∀ o ∈ os, plainK o.kind) →
    ((coreL (headW l) (headH l) os c).2 = 0 → runM l (os.length + m) (c.at_ p t) = runM l m ((coreL (headW l) (headH l) os c).1.at_ (p + os.length) t)) ∧
    ((coreL (headW l) (headH l) os c).2 ≠ 0 → (runM l (os.length + m) (c.at_ p t)).2 = (coreL (headW l) (headH l) os c).2)
  | [], p, c, _, _ => by
    refine ⟨fun _ => ?_, fun h => absurd rfl h⟩
    simp [coreL]
  | o :: os, p, c, h, hk => by
    have h0 := h 0 (by simp)
    have e0 : opAt (o :: os) 0 = o := rfl
    rw [Nat.add_zero, e0] at h0
    have hk0 := hk o (by simp)
    have hst := step_plain (l := l) (c := c) (p := p) (t := t) (by rw [h0]; exact hk0)
    rw [h0] at hst
    have ih := run_plain (t := t) m os (p + 1) (coreO (headW l) (headH l) c o).1 (fun i hi => by
      have := h (i + 1) (by simpa using hi)
      rw [show p + 1 + i = p + (i + 1) by omega, this]; rfl) (fun q hq => hk q (by simp [hq]))
    have e1 : (o :: os).length + m = (os.length + m) + 1 := by simp; omega
    rw [e1, runM, coreL]
    have hat : (opAt l (c.at_ p t).at_).kind ≠ 16 := by show (opAt l p).kind ≠ 16; rw [h0]; exact hk0.1
    rw [if_neg hat, hst]
    by_cases hf : (coreO (headW l) (headH l) c o).2 ≠ 0
    · rw [if_pos hf, if_pos hf]
      refine ⟨fun e => absurd e hf, fun _ => ?_⟩
      rw [if_pos hf]
    · rw [if_neg hf, if_neg hf]
      simp only [ne_eq, not_true_eq_false, if_false]
      refine ⟨fun e => ?_, fun e => ih.2 e⟩
      rw [ih.1 e]
      congr 2
      simp; omega
end Fb
namespace Fb
def c0 : MC := ⟨[], [], (0, 0), []⟩
theorem c0_at : c0.at_ 0 [] = m0 := rfl
def endC (r : MC × Nat) : List FFrame × Nat := if r.2 ≠ 0 then ([], r.2) else (r.1.frames, 0)
theorem opAt_append_left {a b : List FOp} {i : Nat} (h : i < a.length) : opAt (a ++ b) i = opAt a i := by
  unfold opAt
  rw [List.getD_eq_getElem?_getD, List.getD_eq_getElem?_getD, List.getElem?_append_left h]
theorem opAt_append_right {a b : List FOp} {i : Nat} : opAt (a ++ b) (a.length + i) = opAt b i := by
  unfold opAt
  rw [List.getD_eq_getElem?_getD, List.getD_eq_getElem?_getD, List.getElem?_append_right (by omega), Nat.add_sub_cancel_left]
theorem run_end {l : List FOp} {s : MSt} (h : (opAt l s.at_).kind = 16) : ∀ m, runM l m s = (s, 0)
  | 0 => rfl
  | m + 1 => by rw [runM, if_pos h]
/-- a run that comes to the book's end -/
theorem endM_at {l : List FOp} {c : MC} {p : Nat} {t : List (Nat × Nat)} (m : Nat) (h : (opAt l p).kind = 16) : endM l (runM l m (c.at_ p t)) = (c.frames, 0) := by
  rw [run_end (s := c.at_ p t) h]
  unfold endM
  rw [if_neg (by simp), if_neg (by show ¬ (opAt l p).kind ≠ 16; simpa using h)]
  rfl
theorem fuel_400 : fuelN 400 = 400 := by decide
/-- a book of plain ops -/
theorem play_straight {os : List FOp} {e : FOp} (hf : BookFine (os ++ [e])) (hk : ∀ o ∈ os, plainK o.kind) (hl : os.length ≤ 400) :
    playP (os ++ [e]) 400 = endC (coreL (headW (os ++ [e])) (headH (os ++ [e])) os c0) := by
  obtain ⟨m, hm⟩ : ∃ m, 400 = os.length + m := ⟨400 - os.length, by omega⟩
  obtain ⟨h1, h2⟩ := run_plain (l := os ++ [e]) (t := []) m os 0 c0 (fun i hi => by rw [Nat.zero_add]; exact opAt_append_left hi) hk
  have he : (opAt (os ++ [e]) os.length).kind = 16 := by
    have := hf.last
    simpa using this
  unfold playP
  rw [if_neg (by rw [book_of hf]; simp), fuel_400, hm, ← c0_at]
  unfold endC
  by_cases hr : (coreL (headW (os ++ [e])) (headH (os ++ [e])) os c0).2 ≠ 0
  · rw [if_pos hr]
    have := h2 hr
    unfold endM
    rw [this, if_pos hr]
  · rw [if_neg hr]
    rw [h1 (by omega), Nat.zero_add, endM_at m he]
/-! ## a loop of plain ops -/
def times (k : Nat) (os : List FOp) : List FOp := (List.replicate k os).flatten
theorem times_succ (k : Nat) (os : List FOp) : times (k + 1) os = os ++ times k os := by unfold times; rw [List.replicate_succ, List.flatten_cons]
theorem times_len (k : Nat) (os : List FOp) : (times k os).length = k * os.length := by unfold times; simp
theorem step_next {l : List FOp} {c : MC} {q p k : Nat} {t : List (Nat × Nat)} (h : (opAt l q).kind = 13) : stepP l (c.at_ q (t ++ [(p, k)])) = (if k ≤ 1 then c.at_ (q + 1) t else c.at_ (p + 1) (t ++ [(p, k - 1)]), 0) := by
  unfold stepP
  show stepO l (c.at_ q (t ++ [(p, k)])) (opAt l q) = _
  unfold stepO
  rw [if_neg (by omega), if_neg (by omega), if_neg (by omega), if_neg (by omega), if_neg (by omega), if_pos h]
  rw [turnM_eq (s := c.at_ q (t ++ [(p, k)])) (r := t) (i := p) (n := k) rfl]
  by_cases hk : k ≤ 1
  · rw [if_pos hk, if_pos hk]; rfl
  · rw [if_neg hk, if_neg hk]; rfl
/-- the rounds of a loop -/
theorem run_rounds {l : List FOp} {os : List FOp} {p : Nat} {t : List (Nat × Nat)} (ho : ∀ i, i < os.length → opAt l (p + 1 + i) = opAt os i) (hk : ∀ o ∈ os, plainK o.kind) (hn : (opAt l (p + 1 + os.length)).kind = 13) (m : Nat) :
    ∀ (k : Nat) (c : MC), 1 ≤ k →
    ((coreL (headW l) (headH l) (times k os) c).2 = 0 → runM l (k * (os.length + 1) + m) (c.at_ (p + 1) (t ++ [(p, k)])) = runM l m ((coreL (headW l) (headH l) (times k os) c).1.at_ (p + 1 + os.length + 1) t)) ∧
    ((coreL (headW l) (headH l) (times k os) c).2 ≠ 0 → (runM l (k * (os.length + 1) + m) (c.at_ (p + 1) (t ++ [(p, k)]))).2 = (coreL (headW l) (headH l) (times k os) c).2)
  | 0, c, h => absurd h (by omega)
  | k + 1, c, _ => by
    obtain ⟨h1, h2⟩ := run_plain (l := l) (t := t ++ [(p, k + 1)]) (1 + (k * (os.length + 1) + m)) os (p + 1) c ho hk
    have e : (k + 1) * (os.length + 1) + m = os.length + (1 + (k * (os.length + 1) + m)) := by rw [Nat.add_mul]; omega
    rw [e, times_succ, coreL_append]
    by_cases hr : (coreL (headW l) (headH l) os c).2 ≠ 0
    · rw [if_pos hr]
      exact ⟨fun h => absurd h hr, fun _ => h2 hr⟩
    · rw [if_neg hr]
      have hr0 : (coreL (headW l) (headH l) os c).2 = 0 := by omega
      rw [h1 hr0]
      have hst := step_next (l := l) (c := (coreL (headW l) (headH l) os c).1) (q := p + 1 + os.length) (p := p) (k := k + 1) (t := t) hn
      have hne : (opAt l ((coreL (headW l) (headH l) os c).1.at_ (p + 1 + os.length) (t ++ [(p, k + 1)])).at_).kind ≠ 16 := by show (opAt l (p + 1 + os.length)).kind ≠ 16; omega
      rw [show 1 + (k * (os.length + 1) + m) = (k * (os.length + 1) + m) + 1 by omega, runM, if_neg hne, hst, if_neg (by simp)]
      by_cases hk0 : k = 0
      · subst hk0
        simp [times, coreL]
      · rw [if_neg (by omega), Nat.add_sub_cancel]
        exact run_rounds ho hk hn m k _ (by omega)
theorem endGo_plain {n : Nat} : ∀ (os r : List FOp) (k d : Nat), (∀ o ∈ os, plainK o.kind) → endGo n (os ++ r) k d = endGo n r (k + os.length) d
  | [], r, k, d, _ => rfl
  | o :: os, r, k, d, h => by
    obtain ⟨-, h2, h3⟩ := h o (by simp)
    rw [List.cons_append, endGo, if_neg h2, if_neg h3, endGo_plain os r _ _ (fun q hq => h q (by simp [hq]))]
    congr 1
    simp; omega
theorem step_loop {l : List FOp} {c : MC} {p : Nat} {t : List (Nat × Nat)} (h : (opAt l p).kind = 12) : stepP l (c.at_ p t) = (if (opAt l p).a = 0 then c.at_ (endP l p + 1) t else c.at_ (p + 1) (t ++ [(p, (opAt l p).a.toNat)]), 0) := by
  unfold stepP
  show stepO l (c.at_ p t) (opAt l p) = _
  unfold stepO
  rw [if_neg (by omega), if_neg (by omega), if_neg (by omega), if_neg (by omega), if_pos h]
  by_cases ha : (opAt l p).a = 0
  · rw [if_pos ha, if_pos ha]; rfl
  · rw [if_neg ha, if_neg ha]; rfl
/-- the op at a place behind a list -/
theorem opAt_behind {a b : List FOp} {n i : Nat} (h : a.length = n) : opAt (a ++ b) (n + i) = opAt b i := by subst h; exact opAt_append_right
/-- a book with one loop of plain ops -/
theorem play_loop {pre body tail : List FOp} {L N E : FOp} (hf : BookFine (pre ++ L :: (body ++ N :: (tail ++ [E])))) (h1 : ∀ o ∈ pre, plainK o.kind) (h2 : ∀ o ∈ body, plainK o.kind) (h3 : ∀ o ∈ tail, plainK o.kind)
    (hL : L.kind = 12) (hN : N.kind = 13) {k : Nat} (ha : L.a = (k : Int)) (hfu : pre.length + 1 + k * (body.length + 1) + tail.length ≤ 400) :
    playP (pre ++ L :: (body ++ N :: (tail ++ [E]))) 400 = endC (coreL (headW (pre ++ L :: (body ++ N :: (tail ++ [E])))) (headH (pre ++ L :: (body ++ N :: (tail ++ [E])))) (pre ++ (times k body ++ tail)) c0) := by
  obtain ⟨l, hl⟩ : ∃ l, pre ++ L :: (body ++ N :: (tail ++ [E])) = l := ⟨_, rfl⟩
  have hp : ∀ i, i < pre.length → opAt l i = opAt pre i := fun i hi => by rw [← hl]; exact opAt_append_left hi
  have eL : opAt l pre.length = L := by rw [← hl]; simp [opAt]
  have eb : l = (pre ++ [L]) ++ (body ++ N :: (tail ++ [E])) := by rw [← hl]; simp
  have hb : ∀ i, i < body.length → opAt l (pre.length + 1 + i) = opAt body i := fun i hi => by
    rw [eb, opAt_behind (n := pre.length + 1) (by simp), opAt_append_left hi]
  have en : l = (pre ++ L :: body) ++ (N :: (tail ++ [E])) := by rw [← hl]; simp
  have hNat : opAt l (pre.length + 1 + body.length) = N := by
    have := opAt_behind (a := pre ++ L :: body) (b := N :: (tail ++ [E])) (n := pre.length + 1 + body.length) (i := 0) (by simp; omega)
    rw [← en] at this
    simpa [opAt] using this
  have et : l = (pre ++ L :: (body ++ [N])) ++ (tail ++ [E]) := by rw [← hl]; simp
  have ht : ∀ i, i < tail.length → opAt l (pre.length + 1 + body.length + 1 + i) = opAt tail i := fun i hi => by
    rw [et, opAt_behind (n := pre.length + 1 + body.length + 1) (by simp; omega), opAt_append_left hi]
  have hE : (opAt l (pre.length + 1 + body.length + 1 + tail.length)).kind = 16 := by
    have := hf.last
    rw [hl] at this
    rw [show pre.length + 1 + body.length + 1 + tail.length = l.length - 1 by rw [← hl]; simp; omega]
    exact this
  have hend : endP l pre.length = pre.length + 1 + body.length := by
    unfold endP
    have : l.drop pre.length = L :: (body ++ N :: (tail ++ [E])) := by rw [← hl, List.drop_left]
    rw [this, endGo, if_pos hL, endGo_plain body _ _ _ h2, endGo, if_neg (by omega), if_pos hN, if_pos (by omega)]
  rw [hl] at hf ⊢
  obtain ⟨m, hm⟩ : ∃ m, 400 = pre.length + ((k * (body.length + 1) + (tail.length + m)) + 1) := ⟨400 - (pre.length + ((k * (body.length + 1) + tail.length) + 1)), by omega⟩
  have r1 := run_plain (l := l) (t := []) ((k * (body.length + 1) + (tail.length + m)) + 1) pre 0 c0 (fun i hi => by rw [Nat.zero_add]; exact hp i hi) h1
  unfold playP
  rw [if_neg (by rw [book_of hf]; simp), fuel_400, hm, ← c0_at]
  have ap := coreL_append (headW l) (headH l) pre (times k body ++ tail) c0
  rw [ap]
  unfold endC
  by_cases f1 : (coreL (headW l) (headH l) pre c0).2 ≠ 0
  · rw [if_pos f1, if_pos f1]
    unfold endM
    rw [r1.2 f1, if_pos f1]
  rw [if_neg f1]
  rw [r1.1 (by omega), Nat.zero_add]
  obtain ⟨c1, hc1⟩ : ∃ c1, (coreL (headW l) (headH l) pre c0).1 = c1 := ⟨_, rfl⟩
  rw [hc1]
  -- the tail, from where the loop is left
  have last : ∀ (c2 : MC) (x : Nat), endM l (runM l (tail.length + x) (c2.at_ (pre.length + 1 + body.length + 1) [])) = endC (coreL (headW l) (headH l) tail c2) := by
    intro c2 x
    have r3 := run_plain (l := l) (t := []) x tail (pre.length + 1 + body.length + 1) c2 ht h3
    unfold endC
    by_cases f3 : (coreL (headW l) (headH l) tail c2).2 ≠ 0
    · rw [if_pos f3]
      unfold endM
      rw [r3.2 f3, if_pos f3]
    · rw [if_neg f3, r3.1 (by omega), endM_at x hE]
  have hne : (opAt l (c1.at_ pre.length []).at_).kind ≠ 16 := by show (opAt l pre.length).kind ≠ 16; rw [eL, hL]; decide
  have hst := step_loop (l := l) (c := c1) (p := pre.length) (t := []) (by rw [eL]; exact hL)
  rw [runM, if_neg hne, hst, if_neg (by simp), eL, ha, hend]
  have ap2 := coreL_append (headW l) (headH l) (times k body) tail c1
  rw [ap2]
  by_cases hk0 : k = 0
  · subst hk0
    rw [if_pos (show ((0 : Nat) : Int) = 0 from rfl)]
    have := last c1 m
    have e0 : times 0 body = [] := rfl
    have e1 : (if ((c1, 0) : MC × Nat).2 ≠ 0 then ((c1, 0) : MC × Nat) else coreL (headW l) (headH l) tail ((c1, 0) : MC × Nat).1) = coreL (headW l) (headH l) tail c1 := if_neg (by simp)
    rw [e0, coreL, e1, Nat.zero_mul, Nat.zero_add]
    exact this
  · rw [if_neg (by omega), Int.toNat_natCast]
    have r2 := run_rounds (l := l) (os := body) (p := pre.length) (t := []) hb h2 (by rw [hNat]; exact hN) (tail.length + m) k c1 (by omega)
    by_cases f2 : (coreL (headW l) (headH l) (times k body) c1).2 ≠ 0
    · rw [if_pos f2, if_pos f2]
      unfold endM
      rw [r2.2 f2, if_pos f2]
    · rw [if_neg f2, r2.1 (by omega)]
      have := last (coreL (headW l) (headH l) (times k body) c1).1 m
      rw [this]
      rfl
end Fb
namespace Fb
theorem coreO_wait {W H : Nat} {c : MC} {o : FOp} (h : o.kind = 11) : coreO W H c o = if c.frames.length = 40 then (c, 7) else ({ c with frames := c.frames ++ [⟨seenP c.objs W H c.back, o.a⟩] }, 0) := by
  unfold coreO
  rw [if_neg (by omega), if_neg (by omega), if_pos h]
theorem coreO_do {W H : Nat} {c : MC} {o : FOp} (h : o.kind ≠ 1 ∧ o.kind ≠ 10 ∧ o.kind ≠ 11 ∧ o.kind ≠ 14 ∧ o.kind ≠ 15) : coreO W H c o = if (doP c.objs o).2 ≠ 0 then (c, (doP c.objs o).2) else ({ c with objs := (doP c.objs o).1 }, 0) := by
  unfold coreO
  rw [if_neg h.1, if_neg h.2.1, if_neg h.2.2.1, if_neg h.2.2.2.1, if_neg h.2.2.2.2]
theorem coreL_cons {W H : Nat} {o : FOp} {r : List FOp} {c : MC} : coreL W H (o :: r) c = if (coreO W H c o).2 ≠ 0 then coreO W H c o else coreL W H r (coreO W H c o).1 := rfl
theorem coreL_step {W H : Nat} {o : FOp} {r : List FOp} {c c1 : MC} (h : coreO W H c o = (c1, 0)) : coreL W H (o :: r) c = coreL W H r c1 := by rw [coreL_cons, h, if_neg (by simp)]
theorem coreL_bad {W H : Nat} {o : FOp} {r : List FOp} {c c1 : MC} {f : Nat} (h : coreO W H c o = (c1, f)) (hf : f ≠ 0) : coreL W H (o :: r) c = (c1, f) := by rw [coreL_cons, h, if_pos hf]
/-- what stays so: the objects are as they may be -/
theorem coreO_fine {W H : Nat} {c : MC} {o : FOp} (ho : opFault o = 0) (h1 : ObjsFine c.objs) (h2 : ObjsFine c.saved) : ObjsFine (coreO W H c o).1.objs ∧ ObjsFine (coreO W H c o).1.saved := by
  unfold coreO
  split
  · exact ⟨h1, h2⟩
  · split
    · exact ⟨h1, h2⟩
    · split
      · split
        · exact ⟨h1, h2⟩
        · exact ⟨h1, h2⟩
      · split
        · exact ⟨h1, h1⟩
        · split
          · exact ⟨h2, h2⟩
          · split
            · exact ⟨h1, h2⟩
            · exact ⟨do_fine h1 ho, h2⟩
theorem coreL_fine {W H : Nat} : ∀ {os : List FOp} {c : MC}, (∀ o ∈ os, opFault o = 0) → ObjsFine c.objs → ObjsFine c.saved → ObjsFine (coreL W H os c).1.objs ∧ ObjsFine (coreL W H os c).1.saved
  | [], _, _, h1, h2 => ⟨h1, h2⟩
  | o :: os, c, h, h1, h2 => by
    have := coreO_fine (W := W) (H := H) (h o (by simp)) h1 h2
    rw [coreL_cons]
    split
    · exact this
    · exact coreL_fine (fun q hq => h q (by simp [hq])) this.1 this.2
/-- a book that is a longer one, with a piece behind -/
theorem play_behind {pre tail : List FOp} {E : FOp} (hf : BookFine (pre ++ tail ++ [E])) (h1 : ∀ o ∈ pre, plainK o.kind) (h2 : ∀ o ∈ tail, plainK o.kind) (hl : pre.length + tail.length ≤ 400) (hp : pre ≠ []) :
    playP (pre ++ tail ++ [E]) 400 = endC (if (coreL (headW pre) (headH pre) pre c0).2 ≠ 0 then coreL (headW pre) (headH pre) pre c0 else coreL (headW pre) (headH pre) tail (coreL (headW pre) (headH pre) pre c0).1) := by
  have hk : ∀ o ∈ pre ++ tail, plainK o.kind := fun o ho => by
    rcases List.mem_append.1 ho with ho | ho
    · exact h1 o ho
    · exact h2 o ho
  have h0 : opAt (pre ++ tail ++ [E]) 0 = opAt pre 0 := by
    rw [List.append_assoc]
    exact opAt_append_left (by cases pre with
      | nil => exact absurd rfl hp
      | cons a b => simp)
  have hW : headW (pre ++ tail ++ [E]) = headW pre := by unfold headW; rw [h0]
  have hH : headH (pre ++ tail ++ [E]) = headH pre := by unfold headH; rw [h0]
  rw [play_straight hf hk (by simp; omega), hW, hH, coreL_append]
/-! ## waits with nothing between -/
def waitOp (a : Int) : FOp := ⟨11, 0, a, 0, 0, 0, ⟨0, 0, []⟩⟩
theorem still_core {W H : Nat} {c : MC} {a b : Int} (h : (coreL W H [waitOp a, waitOp b] c).2 = 0) : ∃ F S, (coreL W H [waitOp a, waitOp b] c).1.frames = F ++ [⟨S, a⟩, ⟨S, b⟩] := by
  have w1 := coreO_wait (W := W) (H := H) (c := c) (o := waitOp a) rfl
  by_cases f1 : c.frames.length = 40
  · rw [if_pos f1] at w1
    rw [coreL_bad w1 (by decide)] at h
    exact absurd h (show ¬ (7 : Nat) = 0 by decide)
  rw [if_neg f1] at w1
  rw [coreL_step w1] at h ⊢
  have w2 := coreO_wait (W := W) (H := H) (c := { c with frames := c.frames ++ [⟨seenP c.objs W H c.back, (waitOp a).a⟩] }) (o := waitOp b) rfl
  by_cases f2 : ({ c with frames := c.frames ++ [⟨seenP c.objs W H c.back, (waitOp a).a⟩] } : MC).frames.length = 40
  · rw [if_pos f2] at w2
    rw [coreL_bad w2 (by decide)] at h
    exact absurd h (show ¬ (7 : Nat) = 0 by decide)
  rw [if_neg f2] at w2
  rw [coreL_step w2, coreL]
  exact ⟨c.frames, seenP c.objs W H c.back, by simp [waitOp]⟩
/-! ## what is taken away, or hidden -/
def dropOp (i : Int) : FOp := ⟨7, i, 0, 0, 0, 0, ⟨0, 0, []⟩⟩
def showOp (i a : Int) : FOp := ⟨5, i, a, 0, 0, 0, ⟨0, 0, []⟩⟩
def moveOp (i a b : Int) : FOp := ⟨3, i, a, b, 0, 0, ⟨0, 0, []⟩⟩
theorem do_drop {l : List FObj} {i : Int} : doP l (dropOp i) = match getP i l with | none => ([], 5) | some _ => (dropP i l, 0) := by
  unfold doP dropOp
  simp only
  rw [if_neg (by decide)]
  cases getP i l <;> simp
theorem do_show {l : List FObj} {i a : Int} : doP l (showOp i a) = match getP i l with | none => ([], 5) | some o => (setP { o with shown := decide (a = 1) } l, 0) := by
  unfold doP showOp
  simp only
  rw [if_neg (by decide)]
  cases getP i l with
  | none => rfl
  | some o => simp [turnP]
theorem do_move {l : List FObj} {i a b : Int} : doP l (moveOp i a b) = match getP i l with | none => ([], 5) | some o => (setP { o with x := a, y := b } l, 0) := by
  unfold doP moveOp
  simp only
  rw [if_neg (by decide)]
  cases getP i l with
  | none => rfl
  | some o => simp [turnP]
theorem away_core {W H : Nat} {c : MC} {i : Int} (hr : Rise c.objs) : endC (coreL W H [dropOp i, waitOp 0] c) = endC (coreL W H [showOp i 0, waitOp 0] c) := by
  have d := coreO_do (W := W) (H := H) (c := c) (o := dropOp i) (show (7 : Int) ≠ 1 ∧ (7 : Int) ≠ 10 ∧ (7 : Int) ≠ 11 ∧ (7 : Int) ≠ 14 ∧ (7 : Int) ≠ 15 by decide)
  have s := coreO_do (W := W) (H := H) (c := c) (o := showOp i 0) (show (5 : Int) ≠ 1 ∧ (5 : Int) ≠ 10 ∧ (5 : Int) ≠ 11 ∧ (5 : Int) ≠ 14 ∧ (5 : Int) ≠ 15 by decide)
  rw [do_drop] at d
  rw [do_show] at s
  cases hg : getP i c.objs with
  | none =>
    rw [hg] at d s
    simp only at d s
    rw [if_pos (by decide)] at d s
    rw [coreL_bad d (by decide), coreL_bad s (by decide)]
  | some o =>
    rw [hg] at d s
    simp only at d s
    rw [if_neg (by simp)] at d s
    rw [coreL_step d, coreL_step s, coreL_cons, coreL_cons, coreO_wait rfl, coreO_wait rfl]
    have hid : o.id = i := (get_mem hg).2
    have hs := seen_hidden (o := { o with shown := decide ((0 : Int) = 1) }) (l := c.objs) rfl hr W H c.back
    simp only at hs ⊢
    rw [hs, hid]
    by_cases f : c.frames.length = 40
    · rw [if_pos f, if_pos f]; rfl
    · rw [if_neg f, if_neg f]; rfl
/-! ## moved and back, hidden and shown -/
theorem set_set {a b : FObj} (h : a.id = b.id) : ∀ {l : List FObj}, setP a (setP b l) = setP a l
  | [] => by
    unfold setP
    simp only [setP]
    rw [if_neg (by omega), if_pos (by omega)]
  | r :: l => by
    by_cases h1 : r.id < b.id
    · rw [show setP b (r :: l) = r :: setP b l by rw [setP, if_pos h1]]
      rw [setP, if_pos (by omega), setP, if_pos (by omega), set_set h]
    · by_cases h2 : r.id = b.id
      · rw [show setP b (r :: l) = b :: l by rw [setP, if_neg h1, if_pos h2]]
        rw [setP, if_neg (by omega), if_pos (by omega), setP, if_neg (by omega), if_pos (by omega)]
      · rw [show setP b (r :: l) = b :: r :: l by rw [setP, if_neg h1, if_neg h2]]
        rw [setP, if_neg (by omega), if_pos (by omega), setP, if_neg (by omega), if_neg (by omega)]
/-- one op on an object that was laid is one op on it -/
theorem core_move {W H : Nat} {c : MC} {o : FObj} {i a b : Int} (h : getP i c.objs = some o) : coreO W H c (moveOp i a b) = ({ c with objs := setP { o with x := a, y := b } c.objs }, 0) := by
  rw [coreO_do (show (3 : Int) ≠ 1 ∧ (3 : Int) ≠ 10 ∧ (3 : Int) ≠ 11 ∧ (3 : Int) ≠ 14 ∧ (3 : Int) ≠ 15 by decide), do_move, h]
  simp
theorem core_move_none {W H : Nat} {c : MC} {i a b : Int} (h : getP i c.objs = none) : coreO W H c (moveOp i a b) = (c, 5) := by
  rw [coreO_do (show (3 : Int) ≠ 1 ∧ (3 : Int) ≠ 10 ∧ (3 : Int) ≠ 11 ∧ (3 : Int) ≠ 14 ∧ (3 : Int) ≠ 15 by decide), do_move, h]
  simp
theorem core_show {W H : Nat} {c : MC} {o : FObj} {i a : Int} (h : getP i c.objs = some o) : coreO W H c (showOp i a) = ({ c with objs := setP { o with shown := decide (a = 1) } c.objs }, 0) := by
  rw [coreO_do (show (5 : Int) ≠ 1 ∧ (5 : Int) ≠ 10 ∧ (5 : Int) ≠ 11 ∧ (5 : Int) ≠ 14 ∧ (5 : Int) ≠ 15 by decide), do_show, h]
  simp
theorem core_wait {W H : Nat} {c : MC} {a : Int} : coreO W H c (waitOp a) = if c.frames.length = 40 then (c, 7) else ({ c with frames := c.frames ++ [⟨seenP c.objs W H c.back, a⟩] }, 0) := coreO_wait rfl
theorem get_set_self {o : FObj} {l : List FObj} {i : Int} (h : o.id = i) : getP i (setP o l) = some o := by rw [get_set, if_pos h]
def moveOps (i x y : Int) : List FOp := [moveOp i 0 0, showOp i 1, waitOp 0, moveOp i x y, waitOp 0, showOp i 0, moveOp i 0 0, showOp i 1, waitOp 0]
theorem move_core {W H : Nat} {c : MC} {i x y : Int} (h : (coreL W H (moveOps i x y) c).2 = 0) : ∃ F S T, (coreL W H (moveOps i x y) c).1.frames = F ++ [⟨S, 0⟩, ⟨T, 0⟩, ⟨S, 0⟩] := by
  unfold moveOps at h ⊢
  cases hg : getP i c.objs with
  | none =>
    rw [coreL_bad (core_move_none hg) (by decide)] at h
    exact absurd h (show ¬ (5 : Nat) = 0 by decide)
  | some o =>
    have hid : o.id = i := (get_mem hg).2
    have h40 : ¬ (7 : Nat) = 0 := by decide
    rw [coreL_step (core_move hg)] at h ⊢
    rw [coreL_step (core_show (get_set_self (by exact hid)))] at h ⊢
    simp only [set_set, decide_true] at h ⊢
    by_cases f1 : c.frames.length = 40
    · rw [coreL_bad (by rw [core_wait, if_pos f1]) (by decide)] at h
      exact absurd h h40
    rw [coreL_step (by rw [core_wait, if_neg f1])] at h ⊢
    rw [coreL_step (core_move (get_set_self (by exact hid)))] at h ⊢
    simp only [set_set] at h ⊢
    by_cases f2 : (c.frames ++ [(⟨seenP (setP { o with x := 0, y := 0, shown := true } c.objs) W H c.back, 0⟩ : FFrame)]).length = 40
    · rw [coreL_bad (by rw [core_wait, if_pos f2]) (by decide)] at h
      exact absurd h h40
    rw [coreL_step (by rw [core_wait, if_neg f2])] at h ⊢
    rw [coreL_step (core_show (get_set_self (by exact hid)))] at h ⊢
    simp only [set_set] at h ⊢
    rw [coreL_step (core_move (get_set_self (by exact hid)))] at h ⊢
    simp only [set_set] at h ⊢
    rw [coreL_step (core_show (get_set_self (by exact hid)))] at h ⊢
    simp only [set_set, decide_true] at h ⊢
    by_cases f3 : (c.frames ++ [(⟨seenP (setP { o with x := 0, y := 0, shown := true } c.objs) W H c.back, 0⟩ : FFrame)] ++ [(⟨seenP (setP { o with x := x, y := y, shown := true } c.objs) W H c.back, 0⟩ : FFrame)]).length = 40
    · rw [coreL_bad (by rw [core_wait, if_pos f3]) (by decide)] at h
      exact absurd h h40
    rw [coreL_step (by rw [core_wait, if_neg f3]), coreL]
    exact ⟨c.frames, _, _, by simp; exact ⟨rfl, rfl, rfl⟩⟩
/-! ## nothing but what is behind all -/
def backOp (p : Px) : FOp := ⟨10, 0, p.1, p.2, 0, 0, ⟨0, 0, []⟩⟩
theorem core_backs {W H : Nat} : ∀ (bs : List Px) (c : MC), coreL W H (bs.map backOp) c = ({ c with back := bs.getLast?.getD c.back }, 0)
  | [], c => rfl
  | p :: bs, c => by
    rw [List.map_cons, coreL_step (c1 := { c with back := p }) (by unfold coreO backOp; simp), core_backs bs]
    cases bs with
    | nil => rfl
    | cons q r =>
      rw [List.getLast?_cons_cons]
      cases h : (q :: r).getLast? with
      | none => simp at h
      | some v => rfl
theorem seen_nil (W H : Nat) (b : Px) : seenP [] W H b = plainP W H b := rfl
end Fb
namespace Fb
def loopOp (a : Int) : FOp := ⟨12, 0, a, 0, 0, 0, ⟨0, 0, []⟩⟩
def nextOp : FOp := ⟨13, 0, 0, 0, 0, 0, ⟨0, 0, []⟩⟩
def endOp : FOp := ⟨16, 0, 0, 0, 0, 0, ⟨0, 0, []⟩⟩
def headOp (w h : Int) : FOp := ⟨1, 0, w, h, 0, 0, ⟨0, 0, []⟩⟩
def nestL (a b d : Int) : List FOp := [headOp 1 1, loopOp a, loopOp b, waitOp d, nextOp, nextOp, endOp]
theorem wait_times {W H : Nat} {d : Int} : ∀ (b : Nat) (c : MC), c.frames.length + b ≤ 40 → ∃ F, coreL W H (times b [waitOp d]) c = ({ c with frames := F }, 0) ∧ F.length = c.frames.length + b
  | 0, c, _ => ⟨c.frames, rfl, by simp⟩
  | b + 1, c, h => by
    rw [times_succ, List.singleton_append]
    obtain ⟨F, h1, h2⟩ := wait_times (W := W) (H := H) (d := d) b { c with frames := c.frames ++ [⟨seenP c.objs W H c.back, d⟩] } (by simp; omega)
    rw [coreL_step (by rw [core_wait, if_neg (by omega)]), h1]
    exact ⟨F, rfl, by rw [h2]; simp; omega⟩
/-- one pass of the inner loop -/
theorem run_inner {a b : Nat} {d : Int} {t : List (Nat × Nat)} (m : Nat) (c : MC) (hc : c.frames.length + b ≤ 40) :
    ∃ F, F.length = c.frames.length + b ∧ runM (nestL a b d) (1 + 2 * b + m) (c.at_ 2 t) = runM (nestL a b d) m (({ c with frames := F } : MC).at_ 5 t) := by
  obtain ⟨F, h1, h2⟩ := wait_times (W := headW (nestL a b d)) (H := headH (nestL a b d)) (d := d) b c hc
  refine ⟨F, h2, ?_⟩
  have hst := step_loop (l := nestL a b d) (c := c) (p := 2) (t := t) rfl
  have hne : ¬ (opAt (nestL a b d) (c.at_ 2 t).at_).kind = 16 := by show ¬ (12 : Int) = 16; decide
  have hend : endP (nestL a b d) 2 = 4 := rfl
  rw [show 1 + 2 * b + m = (2 * b + m) + 1 by omega, runM, if_neg hne, hst, if_neg (by simp), hend]
  by_cases hb : b = 0
  · subst hb
    rw [if_pos (show (opAt (nestL a ((0 : Nat) : Int) d) 2).a = 0 from rfl)]
    have : F = c.frames := by
      have e : coreL (headW (nestL a ((0 : Nat) : Int) d)) (headH (nestL a ((0 : Nat) : Int) d)) (times 0 [waitOp d]) c = (c, 0) := rfl
      rw [e] at h1
      injection h1 with h1
      have := congrArg MC.frames h1
      exact this.symm
    subst this
    simp
  · have hba : (opAt (nestL a b d) 2).a = (b : Int) := rfl
    rw [if_neg (by rw [hba]; omega), hba, Int.toNat_natCast]
    have r := (run_rounds (l := nestL a b d) (os := [waitOp d]) (p := 2) (t := t) (fun i hi => by
      obtain rfl : i = 0 := by simpa using hi
      rfl) (fun o ho => by
      simp at ho; subst ho; exact ⟨show ¬ (11 : Int) = 16 by decide, show ¬ (11 : Int) = 12 by decide, show ¬ (11 : Int) = 13 by decide⟩) rfl m b c (by omega)).1 (by rw [h1])
    rw [h1] at r
    have e : 2 * b + m = b * ([waitOp d].length + 1) + m := by simp; omega
    rw [e]
    exact r
theorem run_outer {a b : Nat} {d : Int} (m : Nat) : ∀ (k : Nat) (c : MC), 1 ≤ k → c.frames.length + k * b ≤ 40 →
    ∃ F, F.length = c.frames.length + k * b ∧ runM (nestL a b d) (k * (2 * b + 2) + m) (c.at_ 2 [(1, k)]) = runM (nestL a b d) m (({ c with frames := F } : MC).at_ 6 [])
  | 0, c, h, _ => absurd h (by omega)
  | k + 1, c, _, hc => by
    have hkb : (k + 1) * b = k * b + b := by rw [Nat.add_mul]; omega
    obtain ⟨F, h1, h2⟩ := run_inner (a := a) (d := d) (t := [(1, k + 1)]) (1 + (k * (2 * b + 2) + m)) c (b := b) (by omega)
    have e : (k + 1) * (2 * b + 2) + m = 1 + 2 * b + (1 + (k * (2 * b + 2) + m)) := by rw [Nat.add_mul]; omega
    rw [e, h2]
    have hst := step_next (l := nestL a b d) (c := { c with frames := F }) (q := 5) (p := 1) (k := k + 1) (t := []) rfl
    have hne : ¬ (opAt (nestL a b d) ((({ c with frames := F } : MC).at_ 5 ([] ++ [(1, k + 1)])).at_)).kind = 16 := by show ¬ (13 : Int) = 16; decide
    rw [show 1 + (k * (2 * b + 2) + m) = (k * (2 * b + 2) + m) + 1 by omega]
    rw [List.nil_append] at hst hne
    rw [runM, if_neg hne, hst, if_neg (by simp)]
    by_cases hk : k = 0
    · subst hk
      refine ⟨F, by omega, ?_⟩
      rw [if_pos (by omega)]
      simp
    · rw [if_neg (by omega), Nat.add_sub_cancel]
      obtain ⟨F2, h3, h4⟩ := run_outer (a := a) (b := b) (d := d) m k { c with frames := F } (by omega) (by show F.length + k * b ≤ 40; omega)
      refine ⟨F2, ?_, h4⟩
      rw [h3]
      show F.length + k * b = _
      omega
/-- a loop in a loop is done as often as both together say -/
theorem play_nest {a b : Nat} {d : Int} (hf : BookFine (nestL a b d)) (hab : a * b ≤ 40) : ∃ F, playP (nestL a b d) 400 = (F, 0) ∧ F.length = a * b := by
  have ha9 : a ≤ 9 := by
    have := loop_bd (hf.ops 1 (by show 1 < 7; decide)) rfl
    have e : (opAt (nestL a b d) 1).a = (a : Int) := rfl
    rw [e] at this
    omega
  have hfu : a * (2 * b + 2) ≤ 98 := by
    have : a * (2 * b + 2) = 2 * (a * b) + 2 * a := by rw [Nat.mul_add, Nat.mul_left_comm]; omega
    omega
  obtain ⟨m, hm⟩ : ∃ m, 400 = (a * (2 * b + 2) + m) + 1 + 1 := ⟨398 - a * (2 * b + 2), by omega⟩
  have hst0 := step_plain (l := nestL a b d) (c := c0) (p := 0) (t := []) ⟨show ¬ (1 : Int) = 16 by decide, show ¬ (1 : Int) = 12 by decide, show ¬ (1 : Int) = 13 by decide⟩
  have hc1 : coreO (headW (nestL a b d)) (headH (nestL a b d)) c0 (opAt (nestL a b d) 0) = (c0, 0) := rfl
  rw [hc1, if_neg (by simp)] at hst0
  have hst1 := step_loop (l := nestL a b d) (c := c0) (p := 1) (t := []) rfl
  have hend : endP (nestL a b d) 1 = 5 := rfl
  have haa : (opAt (nestL a b d) 1).a = (a : Int) := rfl
  rw [hend, haa] at hst1
  have n0 : ¬ (opAt (nestL a b d) (c0.at_ 0 []).at_).kind = 16 := by show ¬ (1 : Int) = 16; decide
  have n1 : ¬ (opAt (nestL a b d) (c0.at_ 1 []).at_).kind = 16 := by show ¬ (12 : Int) = 16; decide
  unfold playP
  rw [if_neg (by rw [book_of hf]; simp), fuel_400, hm, ← c0_at, runM, if_neg n0, hst0, if_neg (by simp), Nat.zero_add, runM, if_neg n1, hst1, if_neg (by simp)]
  by_cases h0 : a = 0
  · subst h0
    rw [if_pos (show ((0 : Nat) : Int) = 0 from rfl)]
    exact ⟨c0.frames, endM_at (l := nestL ((0 : Nat) : Int) b d) (c := c0) (p := 6) (t := []) _ rfl, by simp [c0]⟩
  · rw [if_neg (by omega), Int.toNat_natCast, List.nil_append]
    obtain ⟨F, h1, h2⟩ := run_outer (a := a) (b := b) (d := d) m a c0 (by omega) (by show 0 + a * b ≤ 40; omega)
    refine ⟨F, ?_, by rw [h1]; show 0 + a * b = _; omega⟩
    show endM _ (runM _ _ (c0.at_ (1 + 1) [(1, a)])) = _
    rw [h2]
    exact endM_at (l := nestL a b d) (c := { c0 with frames := F }) (p := 6) (t := []) m rfl
end Fb
