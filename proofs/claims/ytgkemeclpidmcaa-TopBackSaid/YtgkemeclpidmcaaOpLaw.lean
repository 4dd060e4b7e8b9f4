/- Ops, in plain Lean: which parts an op has, and what is wrong with it. Conditions: those of each lemma. -/
import Derived.Test.YtgkemeclpidmcaaPicFault
namespace Fb
def hasId (k : Int) : Bool := decide (2 ≤ k ∧ k ≤ 9)
def hasPic (k : Int) : Bool := decide (k = 2 ∨ k = 8 ∨ k = 9)
/-- how many numbers an op of this kind has -/
def manyN (k : Int) : Nat := [0, 2, 0, 2, 4, 1, 1, 0, 2, 2, 2, 1, 1, 0, 0, 0, 0].getD k.toNat 0
theorem manyN_le (k : Int) : manyN k ≤ 4 := by
  unfold manyN
  by_cases h : k.toNat < 17
  · have : ∀ i, i < 17 → ([0, 2, 0, 2, 4, 1, 1, 0, 2, 2, 2, 1, 1, 0, 0, 0, 0] : List Nat).getD i 0 ≤ 4 := by decide
    exact this _ h
  · rw [List.getD_eq_getElem?_getD, List.getElem?_eq_none (by simp; omega)]; simp
def inB (n low high : Int) : Bool := decide (low ≤ n ∧ n ≤ high)
def opNums (o : FOp) : List Int := [o.a, o.b, o.c, o.d]
def boundB (o : FOp) : Bool :=
  if o.kind = 1 then inB o.a 1 8 && inB o.b 1 8
  else if o.kind = 3 ∨ o.kind = 8 ∨ o.kind = 9 then inB o.a (-20) 20 && inB o.b (-20) 20
  else if o.kind = 4 then decide (rectFault ⟨o.a, o.b, o.c, o.d⟩ = 0)
  else if o.kind = 5 then inB o.a 0 1
  else if o.kind = 6 then inB o.a 1 6
  else if o.kind = 10 then inB o.a 0 255 && inB o.b 0 255
  else if o.kind = 11 then inB o.a 0 99
  else if o.kind = 12 then inB o.a 0 9
  else true
def picEmpty (p : FPic) : Bool := decide (p.w = 0 ∧ p.h = 0 ∧ p.p.length = 0)
/-- its parts: none that it hasn't -/
def shapeB (o : FOp) : Bool := (hasId o.kind || decide (o.id = 0)) && (((opNums o).drop (manyN o.kind)).all (fun n => decide (n = 0)) && (hasPic o.kind || picEmpty o.pic))
def opFault (o : FOp) : Nat :=
  if 1 ≤ o.kind ∧ o.kind ≤ 16 then
    if shapeB o then
      if (!hasId o.kind || inB o.id 1 6) && boundB o then (if hasPic o.kind then picFault o.pic else 0)
      else 1
    else 3
  else 3
theorem opFault_kind {o : FOp} (h : ¬ (1 ≤ o.kind ∧ o.kind ≤ 16)) : opFault o = 3 := by unfold opFault; rw [if_neg h]
theorem opFault_shape {o : FOp} (h : 1 ≤ o.kind ∧ o.kind ≤ 16) (hs : shapeB o = false) : opFault o = 3 := by unfold opFault; rw [if_pos h, hs]; rfl
theorem opFault_bound {o : FOp} (h : 1 ≤ o.kind ∧ o.kind ≤ 16) (hs : shapeB o = true) (hb : ((!hasId o.kind || inB o.id 1 6) && boundB o) = false) : opFault o = 1 := by unfold opFault; rw [if_pos h, hs, hb]; rfl
theorem opFault_pic {o : FOp} (h : 1 ≤ o.kind ∧ o.kind ≤ 16) (hs : shapeB o = true) (hb : ((!hasId o.kind || inB o.id 1 6) && boundB o) = true) (hp : hasPic o.kind = true) : opFault o = picFault o.pic := by unfold opFault; rw [if_pos h, hs, hb, hp]; rfl
theorem opFault_none {o : FOp} (h : 1 ≤ o.kind ∧ o.kind ≤ 16) (hs : shapeB o = true) (hb : ((!hasId o.kind || inB o.id 1 6) && boundB o) = true) (hp : hasPic o.kind = false) : opFault o = 0 := by unfold opFault; rw [if_pos h, hs, hb, hp]; rfl
theorem opFault_le (o : FOp) : opFault o ≤ 3 := by
  unfold opFault
  split
  · split
    · split
      · split
        · exact picFault_le _
        · omega
      · omega
    · omega
  · omega
/-- an op that may be -/
theorem opFault_fine {o : FOp} (h : opFault o = 0) : (1 ≤ o.kind ∧ o.kind ≤ 16) ∧ shapeB o = true ∧ (hasId o.kind = true → 1 ≤ o.id ∧ o.id ≤ 6) ∧ boundB o = true ∧ (hasPic o.kind = true → picFault o.pic = 0) := by
  by_cases h1 : 1 ≤ o.kind ∧ o.kind ≤ 16
  · cases h2 : shapeB o
    · rw [opFault_shape h1 h2] at h; cases h
    · cases h3 : ((!hasId o.kind || inB o.id 1 6) && boundB o)
      · rw [opFault_bound h1 h2 h3] at h; cases h
      · simp only [Bool.and_eq_true] at h3
        refine ⟨h1, rfl, fun hi => ?_, h3.2, fun hp => ?_⟩
        · have := h3.1
          rw [hi] at this
          simp [inB] at this
          exact this
        · rw [opFault_pic h1 h2 (by simp only [Bool.and_eq_true]; exact h3) hp] at h; exact h
  · rw [opFault_kind h1] at h; cases h
end Fb
