/- Frames as lists, in plain Lean: how long, which at a moment, trimmed. Conditions: those of each lemma. reel.Length, At, Same, slices.Equal at pixels, and the reference's: they return what the plain laws of frames say. Conditions: bounds on lengths. reel.Same and the reference's SamePicture: are two pictures the same. Conditions: bounds on lengths. reel.Length, At, the reference's, LightPicture, LightFrames: they return what the plain laws of frames say. Conditions: delays from 0 to 99, at most 50 frames. LightPicture, LightFrames, the reference's SameFrames. Conditions: bounds on lengths. -/
import Derived.Test.YtgkemeclpidmcaaPlainA
namespace Fb
open Go Go.RowKit
theorem FPic.ext' {a b : FPic} (h1 : a.w = b.w) (h2 : a.h = b.h) (h3 : a.p = b.p) : a = b := by cases a; cases b; simp_all
theorem FFrame.ext' {a b : FFrame} (h1 : a.pic = b.pic) (h2 : a.delay = b.delay) : a = b := by cases a; cases b; simp_all
noncomputable instance : DecidableEq FPic := fun _ _ => Classical.propDecidable _
def samePic (a b : FPic) : Bool := decide (a.w = b.w) && (decide (a.h = b.h) && decide (a.p = b.p))
theorem samePic_iff {a b : FPic} : samePic a b = true ↔ a = b := by
  unfold samePic
  constructor
  · intro h; simp at h; exact FPic.ext' h.1 h.2.1 h.2.2
  · rintro rfl; simp
theorem samePic_self (a : FPic) : samePic a a = true := samePic_iff.2 rfl
theorem samePic_comm (a b : FPic) : samePic a b = samePic b a := by
  rw [Bool.eq_iff_iff, samePic_iff, samePic_iff]; exact eq_comm
/-! ## how long -/
def delays (l : List FFrame) : Int := (l.map (·.delay)).sum
theorem delays_snoc (l : List FFrame) (f : FFrame) : delays (l ++ [f]) = delays l + f.delay := by simp [delays]
theorem delays_take (l : List FFrame) (k : Nat) (h : k < l.length) : delays (l.take (k + 1)) = delays (l.take k) + l[k].delay := by rw [List.take_succ_eq_append_getElem h, delays_snoc]
def FineFr (l : List FFrame) : Prop := ∀ f ∈ l, 0 ≤ f.delay ∧ f.delay ≤ 10000
theorem FineFr.take {l : List FFrame} (h : FineFr l) (k : Nat) : FineFr (l.take k) := fun f hf => h f (List.mem_of_mem_take hf)
theorem delays_bd {l : List FFrame} (h : FineFr l) : 0 ≤ delays l ∧ delays l ≤ 10000 * l.length := by
  induction l with
  | nil => simp [delays]
  | cons f l ih =>
    have h1 := h f (by simp)
    have h2 := ih (fun g hg => h g (by simp [hg]))
    simp [delays] at h2 ⊢
    omega
/-! ## which at a moment -/
def atGo : List FFrame → Int → Nat → Int
  | [], _, _ => -1
  | f :: l, m, i => if m < f.delay then i else atGo l (m - f.delay) (i + 1)
def atL (l : List FFrame) (m : Int) : Int := if m < 0 then -1 else atGo l m 0
/-- after k rounds none was met -/
def AtInv (l : List FFrame) (m : Int) (k : Nat) : Prop := 0 ≤ m ∧ delays (l.take k) ≤ m ∧ atL l m = atGo (l.drop k) (m - delays (l.take k)) k
theorem AtInv.start (l : List FFrame) (m : Int) (h : 0 ≤ m) : AtInv l m 0 := ⟨h, by simp [delays]; omega, by unfold atL; rw [if_neg (by omega)]; simp [delays]⟩
theorem atL_neg {l : List FFrame} {m : Int} (h : m < 0) : atL l m = -1 := by unfold atL; rw [if_pos h]
theorem AtInv.hit {l : List FFrame} {m : Int} {k : Nat} (h : AtInv l m k) (hk : k < l.length) (hm : m - delays (l.take k) < l[k].delay) : atL l m = k := by
  rw [h.2.2, List.drop_eq_getElem_cons hk]; unfold atGo; rw [if_pos hm]
theorem AtInv.step {l : List FFrame} {m : Int} {k : Nat} (h : AtInv l m k) (hk : k < l.length) (hm : ¬ m - delays (l.take k) < l[k].delay) : AtInv l m (k + 1) := by
  have hd := delays_take l k hk
  refine ⟨h.1, by omega, ?_⟩
  rw [h.2.2, List.drop_eq_getElem_cons hk]
  conv => lhs; unfold atGo
  rw [if_neg hm, hd]
  congr 1
  omega
theorem AtInv.done {l : List FFrame} {m : Int} {k : Nat} (h : AtInv l m k) (hk : l.length ≤ k) : atL l m = -1 := by
  rw [h.2.2, List.drop_eq_nil_of_le hk]; rfl
/-! ## trimmed -/
/-- what a frame does to what was trimmed before it -/
def trimOne (out : List FFrame) (f : FFrame) : List FFrame :=
  if f.delay = 0 then out else
  match out.getLast? with
  | none => out ++ [f]
  | some g => if samePic g.pic f.pic = true then out.dropLast ++ [{ g with delay := g.delay + f.delay }] else out ++ [f]
def trimL (l : List FFrame) : List FFrame := l.foldl trimOne []
theorem trimL_snoc (l : List FFrame) (f : FFrame) : trimL (l ++ [f]) = trimOne (trimL l) f := by simp [trimL, List.foldl_append]
theorem trimL_take (l : List FFrame) (k : Nat) (h : k < l.length) : trimL (l.take (k + 1)) = trimOne (trimL (l.take k)) l[k] := by rw [List.take_succ_eq_append_getElem h, trimL_snoc]
theorem trimOne_none {out : List FFrame} {f : FFrame} (h : f.delay = 0) : trimOne out f = out := by unfold trimOne; rw [if_pos h]
theorem trimOne_first {f : FFrame} (h : f.delay ≠ 0) : trimOne [] f = [f] := by unfold trimOne; rw [if_neg h]; rfl
theorem trimOne_same {out : List FFrame} {g f : FFrame} (h : f.delay ≠ 0) (hs : samePic g.pic f.pic = true) : trimOne (out ++ [g]) f = out ++ [{ g with delay := g.delay + f.delay }] := by
  unfold trimOne; rw [if_neg h]; simp [hs]
theorem trimOne_other {out : List FFrame} {g f : FFrame} (h : f.delay ≠ 0) (hs : samePic g.pic f.pic = false) : trimOne (out ++ [g]) f = out ++ [g] ++ [f] := by
  unfold trimOne; rw [if_neg h]; simp [hs]
/-- delays above zero, and no two neighbours alike -/
def Trim : List FFrame → Prop
  | [] => True
  | [f] => 0 < f.delay
  | f :: g :: l => 0 < f.delay ∧ samePic f.pic g.pic = false ∧ Trim (g :: l)
theorem snoc_cases {α : Type} (l : List α) : l = [] ∨ ∃ i x, l = i ++ [x] := by
  rcases List.eq_nil_or_concat l with h | ⟨i, x, h⟩
  · exact .inl h
  · exact .inr ⟨i, x, by rw [h, List.concat_eq_append]⟩
theorem Trim.snoc {l : List FFrame} {g f : FFrame} (h : Trim (l ++ [g])) (hf : 0 < f.delay) (hs : samePic g.pic f.pic = false) : Trim (l ++ [g] ++ [f]) := by
  induction l with
  | nil => exact ⟨h, hs, hf⟩
  | cons a l ih =>
    cases l with
    | nil => exact ⟨h.1, h.2.1, ih h.2.2⟩
    | cons b l => exact ⟨h.1, h.2.1, ih h.2.2⟩
theorem Trim.last {l : List FFrame} {g g' : FFrame} (h : Trim (l ++ [g])) (hp : g'.pic = g.pic) (hd : 0 < g'.delay) : Trim (l ++ [g']) := by
  induction l with
  | nil => exact hd
  | cons a l ih =>
    cases l with
    | nil => exact ⟨h.1, by rw [hp]; exact h.2.1, hd⟩
    | cons b l => exact ⟨h.1, h.2.1, ih h.2.2⟩
theorem Trim.lastpos {l : List FFrame} {g : FFrame} (h : Trim (l ++ [g])) : 0 < g.delay := by
  induction l with
  | nil => exact h
  | cons a l ih =>
    cases l with
    | nil => exact h.2.2
    | cons b l => exact ih h.2.2
theorem trimOne_trim {out : List FFrame} {f : FFrame} (h : Trim out) (hf : 0 ≤ f.delay) : Trim (trimOne out f) := by
  by_cases h0 : f.delay = 0
  · rw [trimOne_none h0]; exact h
  · rcases snoc_cases out with rfl | ⟨i, g, rfl⟩
    · rw [trimOne_first h0]; show 0 < f.delay; omega
    · cases hs : samePic g.pic f.pic
      · rw [trimOne_other h0 hs]; exact h.snoc (by omega) hs
      · rw [trimOne_same h0 hs]; have := h.lastpos; exact h.last rfl (by simp; omega)
theorem trimL_trim {l : List FFrame} (h : FineFr l) : Trim (trimL l) := by
  have go : ∀ (l out : List FFrame), FineFr l → Trim out → Trim (l.foldl trimOne out) := by
    intro l
    induction l with
    | nil => intro out _ h; exact h
    | cons f l ih => intro out hf h; exact ih _ (fun g hg => hf g (by simp [hg])) (trimOne_trim h (hf f (by simp)).1)
  exact go l [] h trivial
theorem trimOne_self {out : List FFrame} {f : FFrame} (h : Trim (out ++ [f])) : trimOne out f = out ++ [f] := by
  have h0 := h.lastpos
  rcases snoc_cases out with rfl | ⟨i, g, rfl⟩
  · exact trimOne_first (by omega)
  · have hs : samePic g.pic f.pic = false := by
      clear h0
      induction i with
      | nil => exact h.2.1
      | cons a i ih =>
        cases i with
        | nil => exact ih h.2.2
        | cons b i => exact ih h.2.2
    exact trimOne_other (by omega) hs
theorem Trim.pre {a b : List FFrame} (h : Trim (a ++ b)) : Trim a := by
  induction a with
  | nil => trivial
  | cons x a ih =>
    cases a with
    | nil =>
      cases b with
      | nil => exact h
      | cons y b => exact h.1
    | cons y a => exact ⟨h.1, h.2.1, ih h.2.2⟩
/-- trimmed twice is trimmed once -/
theorem trimL_self {l : List FFrame} (h : Trim l) : trimL l = l := by
  have go : ∀ k, k ≤ l.length → trimL (l.take k) = l.take k := by
    intro k
    induction k with
    | zero => intro _; rfl
    | succ k ih =>
      intro hk
      rw [trimL_take l k (by omega), ih (by omega), List.take_succ_eq_append_getElem (by omega)]
      apply trimOne_self
      rw [← List.take_succ_eq_append_getElem (by omega)]
      exact Trim.pre (b := l.drop (k + 1)) (by rw [List.take_append_drop]; exact h)
  have := go l.length (Nat.le_refl _)
  rwa [List.take_length] at this
theorem trimOne_delays (out : List FFrame) (f : FFrame) : delays (trimOne out f) = delays out + f.delay := by
  by_cases h0 : f.delay = 0
  · rw [trimOne_none h0]; omega
  · rcases snoc_cases out with rfl | ⟨i, g, rfl⟩
    · rw [trimOne_first h0]; simp [delays]
    · cases hs : samePic g.pic f.pic
      · rw [trimOne_other h0 hs, delays_snoc]
      · rw [trimOne_same h0 hs, delays_snoc, delays_snoc]; simp; omega
theorem trimL_delays (l : List FFrame) : delays (trimL l) = delays l := by
  have go : ∀ k, k ≤ l.length → delays (trimL (l.take k)) = delays (l.take k) := by
    intro k
    induction k with
    | zero => intro _; rfl
    | succ k ih => intro hk; rw [trimL_take l k (by omega), trimOne_delays, ih (by omega), delays_take l k (by omega)]
  have := go l.length (Nat.le_refl _)
  rwa [List.take_length] at this
theorem trimOne_len (out : List FFrame) (f : FFrame) : (trimOne out f).length ≤ out.length + 1 := by
  by_cases h0 : f.delay = 0
  · rw [trimOne_none h0]; omega
  · rcases snoc_cases out with rfl | ⟨i, g, rfl⟩
    · rw [trimOne_first h0]; simp
    · cases hs : samePic g.pic f.pic
      · rw [trimOne_other h0 hs]; simp
      · rw [trimOne_same h0 hs]; simp
theorem trimL_len (l : List FFrame) : (trimL l).length ≤ l.length := by
  have go : ∀ k, k ≤ l.length → (trimL (l.take k)).length ≤ k := by
    intro k
    induction k with
    | zero => intro _; simp [trimL]
    | succ k ih => intro hk; rw [trimL_take l k (by omega)]; have := trimOne_len (trimL (l.take k)) l[k]; have := ih (by omega); omega
  have := go l.length (Nat.le_refl _)
  rwa [List.take_length] at this
/-! ## what is seen at a moment -/
/-- the picture that is seen at a moment -/
def seenGo : List FFrame → Int → Option FPic
  | [], _ => none
  | f :: l, m => if m < f.delay then some f.pic else seenGo l (m - f.delay)
theorem seenGo_cons (f : FFrame) (l : List FFrame) (m : Int) : seenGo (f :: l) m = if m < f.delay then some f.pic else seenGo l (m - f.delay) := rfl
theorem seen_app (a b : List FFrame) (m : Int) (ha : ∀ f ∈ a, 0 ≤ f.delay) : seenGo (a ++ b) m = if m < delays a then (if m < 0 then seenGo (a ++ b) m else seenGo a m) else seenGo b (m - delays a) := by
  induction a generalizing m with
  | nil =>
    simp only [List.nil_append]
    by_cases h : m < delays []
    · rw [if_pos h, if_pos (by simpa [delays] using h)]
    · rw [if_neg h]; simp [delays]
  | cons f a ih =>
    have hf := ha f (by simp)
    have hr := ih (m - f.delay) (fun g hg => ha g (by simp [hg]))
    have hd : delays (f :: a) = f.delay + delays a := by simp [delays]
    by_cases hm : m < 0
    · rw [if_pos hm]
      have : 0 ≤ delays (f :: a) := by
        have : ∀ l : List FFrame, (∀ g ∈ l, 0 ≤ g.delay) → 0 ≤ delays l := by
          intro l
          induction l with
          | nil => intro _; simp [delays]
          | cons x l ih => intro h; have := h x (by simp); have := ih (fun g hg => h g (by simp [hg])); simp [delays] at this ⊢; omega
        exact this _ ha
      rw [if_pos (by omega)]
    · rw [if_neg hm]
      simp only [List.cons_append]
      rw [seenGo_cons, seenGo_cons]
      by_cases h1 : m < f.delay
      · rw [if_pos h1, if_pos h1]
        have : 0 ≤ delays a := by
          have : ∀ l : List FFrame, (∀ g ∈ l, 0 ≤ g.delay) → 0 ≤ delays l := by
            intro l
            induction l with
            | nil => intro _; simp [delays]
            | cons x l ih => intro h; have := h x (by simp); have := ih (fun g hg => h g (by simp [hg])); simp [delays] at this ⊢; omega
          exact this _ (fun g hg => ha g (by simp [hg]))
        rw [if_pos (by omega)]
      · rw [if_neg h1, if_neg h1, hr]
        by_cases h2 : m < delays (f :: a)
        · rw [if_pos h2, if_pos (by omega), if_neg (by omega)]
        · rw [if_neg h2, if_neg (by omega)]
          congr 1
          rw [hd]; omega
/-- trimming turns nothing of what is seen -/
theorem seen_trimOne (out : List FFrame) (f : FFrame) (m : Int) (hm : 0 ≤ m) (ho : ∀ g ∈ out, 0 ≤ g.delay) (hf : 0 ≤ f.delay) : seenGo (trimOne out f) m = seenGo (out ++ [f]) m := by
  by_cases h0 : f.delay = 0
  · rw [trimOne_none h0, seen_app out [f] m ho]
    by_cases h : m < delays out
    · rw [if_pos h, if_neg (by omega)]
    · rw [if_neg h]
      have : seenGo [f] (m - delays out) = none := by unfold seenGo; rw [if_neg (by omega)]; rfl
      rw [this]
      have := seen_app out [] m ho
      rw [List.append_nil, if_neg h] at this
      rw [this]; rfl
  · rcases snoc_cases out with rfl | ⟨i, g, rfl⟩
    · rw [trimOne_first h0]; rfl
    · cases hs : samePic g.pic f.pic
      · rw [trimOne_other h0 hs]
      · rw [trimOne_same h0 hs]
        have hi : ∀ x ∈ i, 0 ≤ x.delay := fun x hx => ho x (by simp [hx])
        have hg := ho g (by simp)
        rw [List.append_assoc, seen_app i [{ g with delay := g.delay + f.delay }] m hi, seen_app i ([g] ++ [f]) m hi]
        by_cases h : m < delays i
        · rw [if_pos h, if_pos h, if_neg (by omega), if_neg (by omega)]
        · rw [if_neg h, if_neg h]
          have hp : g.pic = f.pic := samePic_iff.1 hs
          simp only [seenGo, List.cons_append, List.nil_append]
          by_cases h1 : m - delays i < g.delay
          · rw [if_pos (by omega), if_pos h1]
          · rw [if_neg h1]
            by_cases h2 : m - delays i < g.delay + f.delay
            · rw [if_pos h2, if_pos (by omega), hp]
            · rw [if_neg h2, if_neg (by omega)]
theorem seen_congr (a b c : List FFrame) (m : Int) (hm : 0 ≤ m) (ha : ∀ f ∈ a, 0 ≤ f.delay) (hb : ∀ f ∈ b, 0 ≤ f.delay) (hd : delays a = delays b) (h : seenGo a m = seenGo b m) : seenGo (a ++ c) m = seenGo (b ++ c) m := by
  rw [seen_app a c m ha, seen_app b c m hb, hd]
  by_cases h1 : m < delays b
  · rw [if_pos h1, if_pos h1, if_neg (by omega), if_neg (by omega), h]
  · rw [if_neg h1, if_neg h1]
theorem trimL_nonneg {l : List FFrame} (h : FineFr l) : ∀ f ∈ trimL l, 0 ≤ f.delay := by
  have ht := trimL_trim h
  generalize trimL l = t at ht
  have : ∀ t, Trim t → ∀ f ∈ t, 0 ≤ f.delay := by
    intro t
    induction t with
    | nil => intro _ f hf; simp at hf
    | cons a t ih =>
      intro h f hf
      cases t with
      | nil =>
        simp at hf
        subst hf
        have : 0 < f.delay := h
        omega
      | cons b t =>
        simp only [List.mem_cons] at hf
        rcases hf with rfl | hf
        · have := h.1; omega
        · exact ih h.2.2 f (by simpa using hf)
  exact this t ht
theorem seen_trimL {l : List FFrame} (h : FineFr l) (m : Int) (hm : 0 ≤ m) : seenGo (trimL l) m = seenGo l m := by
  have go : ∀ k, k ≤ l.length → seenGo (trimL (l.take k)) m = seenGo (l.take k) m := by
    intro k
    induction k with
    | zero => intro _; rfl
    | succ k ih =>
      intro hk
      have h1 := trimL_nonneg (h.take k)
      have h2 : ∀ f ∈ l.take k, 0 ≤ f.delay := fun f hf => (h.take k f hf).1
      rw [trimL_take l k (by omega), seen_trimOne _ _ m hm h1 (h _ (List.getElem_mem (by omega))).1, List.take_succ_eq_append_getElem (by omega)]
      exact seen_congr _ _ _ m hm h1 h2 (trimL_delays _) (ih (by omega))
  have := go l.length (Nat.le_refl _)
  rwa [List.take_length] at this
/-- the number of the frame that is seen, and its picture -/
theorem at_seen (l : List FFrame) (m : Int) (i : Nat) : (atGo l m i = -1 ∧ seenGo l m = none) ∨ ∃ (k : Nat) (h : k < l.length), atGo l m i = ((i + k : Nat) : Int) ∧ seenGo l m = some l[k].pic := by
  induction l generalizing m i with
  | nil => exact .inl ⟨rfl, rfl⟩
  | cons f l ih =>
    unfold atGo seenGo
    by_cases h : m < f.delay
    · rw [if_pos h, if_pos h]
      exact .inr ⟨0, by simp, by simp, by simp⟩
    · rw [if_neg h, if_neg h]
      rcases ih (m - f.delay) (i + 1) with ⟨e1, e2⟩ | ⟨k, hk, e1, e2⟩
      · exact .inl ⟨e1, e2⟩
      · exact .inr ⟨k + 1, by simpa using hk, by rw [e1]; congr 1; omega, by simpa using e2⟩
theorem seen_some (l : List FFrame) (m : Int) (hm : 0 ≤ m) (h : FineFr l) : (seenGo l m).isSome = decide (m < delays l) := by
  induction l generalizing m with
  | nil => simp [seenGo, delays]; omega
  | cons f l ih =>
    have hf := h f (by simp)
    have hl : FineFr l := fun g hg => h g (by simp [hg])
    have hb := (delays_bd hl).1
    unfold seenGo
    have hd : delays (f :: l) = f.delay + delays l := by simp [delays]
    by_cases h1 : m < f.delay
    · rw [if_pos h1]; simp; omega
    · rw [if_neg h1, ih (m - f.delay) (by omega) hl]
      simp; omega
/-- what TopTrim says of moments -/
theorem at_trim {l : List FFrame} (h : FineFr l) (m : Int) :
    (atL l m = -1 ∧ atL (trimL l) m = -1 ∧ ¬ (0 ≤ m ∧ m < delays l)) ∨
    ∃ (i j : Nat) (hi : i < l.length) (hj : j < (trimL l).length), atL l m = (i : Int) ∧ atL (trimL l) m = (j : Int) ∧ l[i].pic = (trimL l)[j].pic ∧ (0 ≤ m ∧ m < delays l) := by
  by_cases hm : m < 0
  · exact .inl ⟨atL_neg hm, atL_neg hm, by omega⟩
  · have hs := seen_trimL h m (by omega)
    have hsome := seen_some l m (by omega) h
    have e1 : atL l m = atGo l m 0 := by unfold atL; rw [if_neg hm]
    have e2 : atL (trimL l) m = atGo (trimL l) m 0 := by unfold atL; rw [if_neg hm]
    rw [e1, e2]
    rcases at_seen l m 0 with ⟨a1, a2⟩ | ⟨i, hi, a1, a2⟩
    · rcases at_seen (trimL l) m 0 with ⟨b1, b2⟩ | ⟨j, hj, b1, b2⟩
      · rw [a2] at hsome
        simp at hsome
        exact .inl ⟨a1, b1, by omega⟩
      · rw [hs, a2] at b2; simp at b2
    · rcases at_seen (trimL l) m 0 with ⟨b1, b2⟩ | ⟨j, hj, b1, b2⟩
      · rw [hs, a2] at b2; simp at b2
      · rw [hs, a2] at b2
        rw [a2] at hsome
        simp at hsome b2
        exact .inr ⟨i, j, hi, hj, by simpa using a1, by simpa using b1, b2, by omega, hsome⟩
theorem Trim.neigh {l : List FFrame} (h : Trim l) (k : Nat) (hk : k < l.length) : 0 < l[k].delay ∧ ∀ (hk2 : k + 1 < l.length), samePic l[k].pic l[k + 1].pic = false := by
  induction l generalizing k with
  | nil => simp at hk
  | cons a l ih =>
    cases l with
    | nil =>
      simp at hk
      subst hk
      exact ⟨h, fun h2 => by simp at h2⟩
    | cons b l =>
      cases k with
      | zero => exact ⟨h.1, fun _ => h.2.1⟩
      | succ k => exact ⟨(ih h.2.2 k (by simpa using hk)).1, fun h2 => (ih h.2.2 k (by simpa using hk)).2 (by simpa using h2)⟩
end Fb
namespace Fb
open Go Go.Proofs Go.RowKit Go.Sort
theorem neq_px_same (p : Px) (w : World) : (binOp .neq 42 (.agg #[.int .i64 p.1, .int .i64 p.2]) (.agg #[.int .i64 p.1, .int .i64 p.2])).run Try.prog w = .ok (.bool false) w := by
  rw [neq_px]; simp [eqPx]
theorem neq_px_other {p q : Px} (h : p ≠ q) (w : World) : (binOp .neq 42 (.agg #[.int .i64 p.1, .int .i64 p.2]) (.agg #[.int .i64 q.1, .int .i64 q.2])).run Try.prog w = .ok (.bool true) w := by
  rw [neq_px]
  have : eqPx p.1 p.2 q.1 q.2 = false := by
    unfold eqPx
    rw [decide_eq_false_iff_not]
    rintro ⟨h1, h2⟩
    exact h (Prod.ext h1 h2)
  rw [this]; rfl
theorem take_eq_step {α : Type} {l m : List α} {k : Nat} (h1 : k < l.length) (h2 : k < m.length) (ht : l.take k = m.take k) (he : l[k] = m[k]) : l.take (k + 1) = m.take (k + 1) := by
  rw [List.take_succ_eq_append_getElem h1, List.take_succ_eq_append_getElem h2, ht, he]
theorem ne_at {α : Type} {l m : List α} {k : Nat} (h1 : k < l.length) (h2 : k < m.length) (he : l[k] ≠ m[k]) : l ≠ m := by
  rintro rfl; exact he rfl
end Fb
namespace Fb
open Go Go.Proofs Go.RowKit Go.Sort
theorem samePic_w {a b : FPic} (h : a.w ≠ b.w) : samePic a b = false := by unfold samePic; simp [h]
theorem samePic_h {a b : FPic} (h : a.h ≠ b.h) : samePic a b = false := by unfold samePic; simp [h]
theorem samePic_p {a b : FPic} (h1 : a.w = b.w) (h2 : a.h = b.h) : samePic a b = decide (a.p = b.p) := by unfold samePic; simp [h1, h2]
theorem samePic_ne {a b : FPic} (h : a.p ≠ b.p) : samePic a b = false := by unfold samePic; simp [h]
abbrev picV (r : FAt FPic) : Value := .agg #[.int .i64 r.x.w, .int .i64 r.x.h, .slice r.A r.n r.c]
set_option maxRecDepth 100000 in
set_option maxHeartbeats 800000 in
theorem rsame_pic_any (r s : FAt FPic) (w : World) (hr : Pixs w r.A r.n r.x.p) (hs : Pixs w s.A s.n s.x.p) (hn : r.n ≤ 1000000) (hm : s.n ≤ 1000000) :
    Calls Try.prog 33 #[.agg #[.int .i64 r.x.w, .int .i64 r.x.h, .slice r.A r.n r.c], .agg #[.int .i64 s.x.w, .int .i64 s.x.h, .slice s.A s.n s.c]] w (Ret (.bool (samePic r.x s.x)) w) := by
  obtain ⟨⟨rw_, rh, l⟩, A, n, c⟩ := r
  obtain ⟨⟨sw, sh, q⟩, B, m, d⟩ := s
  simp only at hr hs hn hm ⊢
  have hB := ((Below.refl w.heap.size w).alloc (Nat.le_refl _) (.cells #[.int .i64 rw_, .int .i64 rh, .slice A n c] 49)).alloc (by simp) (.cells #[.int .i64 sw, .int .i64 sh, .slice B m d] 49)
  have Hl := hid hr.1
  have Hq := hid hs.1
  by_cases h1 : rw_ = sw
  · by_cases h2 : rh = sh
    · have HP := hid (samePic_p (a := ⟨rw_, rh, l⟩) (b := ⟨sw, sh, q⟩) h1 h2)
      subst h1 h2
      by_cases hnm : n = m
      · subst hnm
        have hr' := hr.below hB
        have hs' := hs.below hB
        clear hr hs
        go_enter Try.func33, Try.ntmps33
        have b0 : ((w.alloc (.cells #[.int .i64 rw_, .int .i64 rh, .slice A n c] 49)).alloc (.cells #[.int .i64 rw_, .int .i64 rh, .slice B n d] 49)).cell? ⟨w.heap.size, 2, none⟩ = some (.slice A n c) := by simp
        have b1 : ((w.alloc (.cells #[.int .i64 rw_, .int .i64 rh, .slice A n c] 49)).alloc (.cells #[.int .i64 rw_, .int .i64 rh, .slice B n d] 49)).cell? ⟨w.heap.size + 1, 2, none⟩ = some (.slice B n d) := by simp
        go_wp2
        generalize (w.alloc (.cells #[.int .i64 rw_, .int .i64 rh, .slice A n c] 49)).alloc (.cells #[.int .i64 rw_, .int .i64 rh, .slice B n d] 49) = W0 at *
        by_cases h0 : n = 0
        · subst h0
          have e1 : l = [] := List.eq_nil_of_length_eq_zero Hl.out
          have e2 : q = [] := List.eq_nil_of_length_eq_zero Hq.out
          have HR := hid (show samePic ⟨rw_, rh, l⟩ ⟨rw_, rh, q⟩ = true by rw [HP.out, e1, e2]; simp)
          clear hr' hs' e1 e2
          go_loop [5] (fun i => i = .int .i64 0) (fun _ => 0)
          case atStart => rfl
          case round =>
            subst hrel
            go_wp2_with fail
            go_ret
            exact ⟨ret_bool HR.out.symm, hB⟩
        · obtain ⟨c1, o1, rfl, hb1, hc1⟩ := hr'.open_ (by omega)
          obtain ⟨c2, o2, rfl, hb2, hc2⟩ := hs'.open_ (by omega)
          have Hc1 := hid hc1
          have Hc2 := hid hc2
          clear hr' hs' hc1 hc2
          go_loopw [5] (fun i wr => ∃ k nq : Nat, k ≤ n ∧ i = .int .i64 k ∧ l.take k = q.take k ∧ wr = W0.drewN nq) (fun i _ => n - (intOf i).toNat)
          case atStart => exact ⟨0, 0, by omega, rfl, rfl, rfl⟩
          case round =>
            obtain ⟨k, nq0, hk, rfl, ht, rfl⟩ := hrel
            have Ht := hid ht
            clear ht
            by_cases hlt : k < n
            · have k1 : k < l.length := by rw [Hl.out]; exact hlt
              have k2 : k < q.length := by rw [Hq.out]; exact hlt
              obtain ⟨c10, c11⟩ := Hc1.out k k1
              obtain ⟨c20, c21⟩ := Hc2.out k k2
              have i1 : (0 : Int) ≤ (k : Int) := by omega
              have i2 : (k : Int) < (n : Int) := by omega
              by_cases he : l[k] = q[k]
              · have hneq := neq_px_same q[k]
                have hst := hid (take_eq_step k1 k2 Ht.out he)
                rw [he] at c10 c11
                clear he
                go_wp2_with fail
                go_quiet (fail)
                go_wp2_with fail
                go_roundw
                case rel => exact ⟨k + 1, nq0 + nq, by omega, by go_num, hst.out, by simp⟩
                case measure => simp [intOf]; omega
              · have hneq := neq_px_other he
                have hr := hid (show samePic ⟨rw_, rh, l⟩ ⟨rw_, rh, q⟩ = false from samePic_ne (ne_at k1 k2 he))
                clear he
                go_wp2_with fail
                go_quiet (fail)
                go_wp2_with fail
                go_ret
                exact ⟨ret_bool hr.out.symm, by simp; exact below_drewN hB _⟩
            · obtain rfl : k = n := by omega
              have hr := hid (show samePic ⟨rw_, rh, l⟩ ⟨rw_, rh, q⟩ = true by
                have := Ht.out
                rw [List.take_of_length_le (by rw [Hl.out]; omega), List.take_of_length_le (by rw [Hq.out]; omega)] at this
                rw [HP.out, this]; simp)
              go_wp2_with fail
              go_ret
              exact ⟨ret_bool hr.out.symm, below_drewN hB _⟩
      · have HR := hid (show samePic ⟨rw_, rh, l⟩ ⟨rw_, rh, q⟩ = false by
          apply samePic_ne
          rintro rfl
          exact hnm (Hl.out.symm.trans Hq.out))
        have hne : ((n : Int) != (m : Int)) = true := by rw [bne_iff_ne]; omega
        clear hr hs hnm
        go_enter Try.func33, Try.ntmps33
        go_wp2_with fail
        go_ret
        exact ⟨ret_bool HR.out.symm, hB⟩
    · have Hr := hid (samePic_h (a := ⟨rw_, rh, l⟩) (b := ⟨sw, sh, q⟩) h2)
      have h1' : (rw_ != sw) = false := by simpa using h1
      have h2' : (rh != sh) = true := by simpa using h2
      clear h1 h2 hr hs
      go_enter Try.func33, Try.ntmps33
      go_wp2_with fail
      go_ret
      exact ⟨ret_bool Hr.out.symm, hB⟩
  · have Hr := hid (samePic_w (a := ⟨rw_, rh, l⟩) (b := ⟨sw, sh, q⟩) h1)
    have h1' : (rw_ != sw) = true := by simpa using h1
    clear h1 hr hs
    go_enter Try.func33, Try.ntmps33
    go_wp2_with fail
    go_ret
    exact ⟨ret_bool Hr.out.symm, hB⟩
end Fb
namespace Fb
open Go Go.Proofs Go.RowKit Go.Sort
def frs (rs : List (FAt FFrame)) : List FFrame := rs.map (·.x)
theorem frs_len (rs : List (FAt FFrame)) : (frs rs).length = rs.length := by simp [frs]
theorem frs_at (rs : List (FAt FFrame)) (k : Nat) (h : k < rs.length) (h' : k < (frs rs).length) : (frs rs)[k] = rs[k].x := by simp [frs]
theorem frs_take (rs : List (FAt FFrame)) (k : Nat) (h : k < rs.length) : delays ((frs rs).take (k + 1)) = delays ((frs rs).take k) + rs[k].x.delay := by
  rw [delays_take _ _ (by rw [frs_len]; exact h), frs_at _ _ h]
theorem FineFr.at_ {rs : List (FAt FFrame)} (h : FineFr (frs rs)) {k : Nat} (k1 : k < rs.length) : 0 ≤ rs[k].x.delay ∧ rs[k].x.delay ≤ 10000 := h _ (List.mem_map.2 ⟨rs[k], List.getElem_mem k1, rfl⟩)
theorem AtInv.hit' {rs : List (FAt FFrame)} {m D : Int} {k : Nat} (h : AtInv (frs rs) m k) (hD : delays ((frs rs).take k) = D) (hk : k < rs.length) (hm : m - D < rs[k].x.delay) : atL (frs rs) m = k :=
  h.hit (by rw [frs_len]; exact hk) (by rw [hD, frs_at rs k hk]; exact hm)
theorem AtInv.step' {rs : List (FAt FFrame)} {m D : Int} {k : Nat} (h : AtInv (frs rs) m k) (hD : delays ((frs rs).take k) = D) (hk : k < rs.length) (hm : ¬ m - D < rs[k].x.delay) : AtInv (frs rs) m (k + 1) :=
  h.step (by rw [frs_len]; exact hk) (by rw [hD, frs_at rs k hk]; exact hm)
end Fb
namespace Fb
open Go Go.Proofs Go.RowKit Go.Sort
def lightF (r : FAt FFrame) : Bool := decide (0 ≤ r.x.delay ∧ r.x.delay ≤ 99) && decide (r.n ≤ 80)
def lightB (rs : List (FAt FFrame)) : Bool := decide (rs.length ≤ 50) && rs.all lightF
theorem lightF_low {r : FAt FFrame} (h : r.x.delay < 0) : lightF r = false := by unfold lightF; simp; omega
theorem lightF_high {r : FAt FFrame} (h : 99 < r.x.delay) : lightF r = false := by unfold lightF; simp; omega
theorem lightF_much {r : FAt FFrame} (h : 80 < r.n) : lightF r = false := by unfold lightF; simp; omega
theorem lightF_ok {r : FAt FFrame} (h : 0 ≤ r.x.delay) (h1 : r.x.delay ≤ 99) (h2 : r.n ≤ 80) : lightF r = true := by unfold lightF; simp; omega
noncomputable def eqFrs (l m : List FFrame) : Bool := @decide (l = m) (Classical.propDecidable _)
theorem eqFrs_self (l : List FFrame) : eqFrs l l = true := by unfold eqFrs; simp
theorem eqFrs_ne {l m : List FFrame} (h : l ≠ m) : eqFrs l m = false := by unfold eqFrs; simp [h]
theorem frs_pic_ne {rs ss : List (FAt FFrame)} {k : Nat} (h1 : k < rs.length) (h2 : k < ss.length) (h : samePic rs[k].x.pic ss[k].x.pic = false) : frs rs ≠ frs ss := by
  intro e
  have e' : (frs rs)[k]? = (frs ss)[k]? := by rw [e]
  rw [List.getElem?_eq_getElem (by rw [frs_len]; exact h1), List.getElem?_eq_getElem (by rw [frs_len]; exact h2), frs_at rs k h1, frs_at ss k h2] at e'
  rw [show rs[k].x = ss[k].x by injection e', samePic_self] at h
  cases h
theorem frs_delay_ne {rs ss : List (FAt FFrame)} {k : Nat} (h1 : k < rs.length) (h2 : k < ss.length) (h : rs[k].x.delay ≠ ss[k].x.delay) : frs rs ≠ frs ss := by
  intro e
  have e' : (frs rs)[k]? = (frs ss)[k]? := by rw [e]
  rw [List.getElem?_eq_getElem (by rw [frs_len]; exact h1), List.getElem?_eq_getElem (by rw [frs_len]; exact h2), frs_at rs k h1, frs_at ss k h2] at e'
  exact h (by rw [show rs[k].x = ss[k].x by injection e'])
theorem frs_take_eq {rs ss : List (FAt FFrame)} {k : Nat} (h1 : k < rs.length) (h2 : k < ss.length) (ht : (frs rs).take k = (frs ss).take k) (hp : samePic rs[k].x.pic ss[k].x.pic = true) (hd : rs[k].x.delay = ss[k].x.delay) :
    (frs rs).take (k + 1) = (frs ss).take (k + 1) := by
  apply take_eq_step (by rw [frs_len]; exact h1) (by rw [frs_len]; exact h2) ht
  rw [frs_at rs k h1, frs_at ss k h2]
  exact FFrame.ext' (samePic_iff.1 hp) hd
/-- the pictures are not too great -/
def Small (rs : List (FAt FFrame)) : Prop := ∀ r ∈ rs, r.n ≤ 1000000
set_option maxRecDepth 100000 in
set_option maxHeartbeats 1000000 in
theorem rsameframes_any (A B : Option Addr) (n m c d : Nat) (rs ss : List (FAt FFrame)) (w : World) (hl : Frames w A n rs) (hq : Frames w B m ss) (hn : n ≤ 1000000) (hm : m ≤ 1000000) (sr : Small rs) (sq : Small ss) :
    Calls Try.prog 19 #[.slice A n c, .slice B m d] w (Ret (.bool (eqFrs (frs rs) (frs ss))) w) := by
  have Hl := hid hl.1
  have Hq := hid hq.1
  by_cases hnm : n = m
  · subst hnm
    by_cases h0 : n = 0
    · subst h0
      have e1 : rs = [] := List.eq_nil_of_length_eq_zero Hl.out
      have e2 : ss = [] := List.eq_nil_of_length_eq_zero Hq.out
      have hr := hid (show eqFrs (frs rs) (frs ss) = true by rw [e1, e2]; exact eqFrs_self _)
      clear hl hq e1 e2 sr sq
      go_enter Try.func19, Try.ntmps19
      go_wp2
      go_loop [5] (fun i => i = .int .i64 0) (fun _ => 0)
      case atStart => rfl
      case round =>
        subst hrel
        go_wp2
        go_ret
        exact ⟨ret_bool hr.out.symm, Below.refl _ _⟩
    · obtain ⟨b1, o1, rfl, hb1, hc1⟩ := hl.open_ (by omega)
      obtain ⟨b2, o2, rfl, hb2, hc2⟩ := hq.open_ (by omega)
      have Hc1 := hid hc1
      have Hc2 := hid hc2
      have HP1 := hid hl.2.2
      have HP2 := hid hq.2.2
      have Sr := hid sr
      have Sq := hid sq
      clear hl hq hc1 hc2 sr sq
      go_enter Try.func19, Try.ntmps19
      go_wp2
      go_loopw [5] (fun i wr => ∃ k : Nat, k ≤ n ∧ i = .int .i64 k ∧ (frs rs).take k = (frs ss).take k ∧ Below w.heap.size w wr) (fun i _ => n - (intOf i).toNat)
      case atStart => exact ⟨0, by omega, rfl, rfl, Below.refl _ _⟩
      case round =>
        obtain ⟨k, hk, rfl, ht, hbel⟩ := hrel
        have Ht := hid ht
        clear ht
        by_cases hlt : k < n
        · have k1 : k < rs.length := by rw [Hl.out]; exact hlt
          have k2 : k < ss.length := by rw [Hq.out]; exact hlt
          obtain ⟨c10, c11, c12, c13⟩ := Hc1.out k k1
          obtain ⟨c20, c21, c22, c23⟩ := Hc2.out k k2
          have z1 := hbel.size
          have a0 := cell_all (p := ⟨b1, o1 + k * 4, none⟩) (by simp; omega) ((hbel.cell hb1).trans c10)
          have a1 := cell_all (p := ⟨b1, o1 + k * 4 + 1, none⟩) (by simp; omega) ((hbel.cell hb1).trans c11)
          have a2 := cell_all (p := ⟨b1, o1 + k * 4 + 2, none⟩) (by simp; omega) ((hbel.cell hb1).trans c12)
          have a3 := cell_all (p := ⟨b1, o1 + k * 4 + 3, none⟩) (by simp; omega) ((hbel.cell hb1).trans c13)
          have e0 := cell_all (p := ⟨b2, o2 + k * 4, none⟩) (by simp; omega) ((hbel.cell hb2).trans c20)
          have e1 := cell_all (p := ⟨b2, o2 + k * 4 + 1, none⟩) (by simp; omega) ((hbel.cell hb2).trans c21)
          have e2 := cell_all (p := ⟨b2, o2 + k * 4 + 2, none⟩) (by simp; omega) ((hbel.cell hb2).trans c22)
          have e3 := cell_all (p := ⟨b2, o2 + k * 4 + 3, none⟩) (by simp; omega) ((hbel.cell hb2).trans c23)
          have pk1 := (HP1.out rs[k] (List.getElem_mem k1)).below hbel
          have pk2 := (HP2.out ss[k] (List.getElem_mem k2)).below hbel
          have hcall := fun dd os => Ret.regrown (rsame_pic_any ⟨rs[k].x.pic, rs[k].A, rs[k].n, rs[k].c⟩ ⟨ss[k].x.pic, ss[k].A, ss[k].n, ss[k].c⟩ (grow (redrawn wr dd) os) (pk1.all dd os) (pk2.all dd os) (Sr.out _ (List.getElem_mem k1)) (Sq.out _ (List.getElem_mem k2)))
          have i1 : (0 : Int) ≤ (k : Int) := by omega
          have i2 : (k : Int) < (n : Int) := by omega
          have Nep := hid (frs_pic_ne k1 k2)
          have Ned := hid (frs_delay_ne k1 k2)
          have Hst := hid (frs_take_eq k1 k2 Ht.out)
          clear c10 c11 c12 c13 c20 c21 c22 c23 pk1 pk2
          simp only at hcall
          generalize hpb : samePic rs[k].x.pic ss[k].x.pic = pb at hcall
          rw [hpb] at Nep Hst
          clear hpb
          go_wp2_with fail
          refine wp_region_quiet_below (by kernel_rfl) (by kernel_rfl) ?_
          repeat (quiet_step (first | exact hcall _ _))
          (refine wpQuiet_nil ?_; intro _ hw'; obtain ⟨⟨dq, osq⟩, hw''⟩ := hw'; subst hw'')
          have hb3 := below_regrown wr dq osq
          have f3 := a3 dq osq
          have g3 := e3 dq osq
          have hbel' := bnext hbel hb3
          clear a0 a1 a2 a3 e0 e1 e2 e3 hcall hb3 hbel z1
          generalize grow (redrawn wr dq) osq = w3 at *
          cases pb
          · have hr := hid (eqFrs_ne (Nep.out rfl))
            go_wp2_with fail
            go_quiet (fail)
            go_wp2_with fail
            go_ret
            exact ⟨ret_bool hr.out.symm, below_drewN hbel' _⟩
          · by_cases hd : rs[k].x.delay = ss[k].x.delay
            · have hd' : (rs[k].x.delay != ss[k].x.delay) = false := by simpa using hd
              have hst := hid (Hst.out rfl hd)
              clear hd
              go_wp2_with fail
              go_quiet (fail)
              go_wp2_with fail
              go_roundw
              case rel => exact ⟨k + 1, by omega, by go_num, hst.out, below_drewN hbel' _⟩
              case measure => simp [intOf]; omega
            · have hd' : (rs[k].x.delay != ss[k].x.delay) = true := by simpa using hd
              have hr := hid (eqFrs_ne (Ned.out hd))
              clear hd
              go_wp2_with fail
              go_quiet (fail)
              go_wp2_with fail
              go_ret
              exact ⟨ret_bool hr.out.symm, below_drewN hbel' _⟩
        · obtain rfl : k = n := by omega
          have hr := hid (show eqFrs (frs rs) (frs ss) = true by
            have := Ht.out
            rw [List.take_of_length_le (by rw [frs_len, Hl.out]; omega), List.take_of_length_le (by rw [frs_len, Hq.out]; omega)] at this
            rw [this]; exact eqFrs_self _)
          go_wp2_with fail
          go_ret
          exact ⟨ret_bool hr.out.symm, hbel⟩
  · have hr := hid (show eqFrs (frs rs) (frs ss) = false by
      apply eqFrs_ne
      intro h
      have := congrArg List.length h
      rw [frs_len, frs_len] at this
      exact hnm (Hl.out.symm.trans (this.trans Hq.out)))
    have hne : ((n : Int) != (m : Int)) = true := by rw [bne_iff_ne]; omega
    clear hl hq hnm sr sq
    go_enter Try.func19, Try.ntmps19
    go_wp2_with fail
    go_ret
    exact ⟨ret_bool hr.out.symm, Below.refl _ _⟩
end Fb
