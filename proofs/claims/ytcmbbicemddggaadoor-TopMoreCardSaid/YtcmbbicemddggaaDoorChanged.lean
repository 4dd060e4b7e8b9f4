/- The reference's Changed returns what the plain law says. Conditions: pictures that may be, places not too far. -/
import Derived.Test.YtcmbbicemddggaaDoorBlendAdd
import Derived.Test.YtcmbbicemddggaaDoorWalksA
import Derived.Deep.AppendLies
set_option linter.unusedSimpArgs false
set_option linter.unusedVariables false
namespace Fb
open Go Go.Proofs Go.RowKit Go.Sort
theorem below_gb {w w' : World} (h : w.grownBy w' none) : Below w.heap.size w w' := ⟨h.os, h.tape, h.output, h.size, fun k hk => h.block k hk (by intro e; cases e)⟩
theorem own_off {w : World} {base g n cap b o : Nat} {e : TypeId} {size : Nat} {xs : List Value} {u : Value} (h : w.ownsRow base e size (.slice (some ⟨g, 0, none⟩) n cap) n xs) (hne : b ≠ g) : (w.setCell ⟨b, o, none⟩ u).ownsRow base e size (.slice (some ⟨g, 0, none⟩) n cap) n xs := by
  obtain ⟨h1, h2⟩ := h
  refine ⟨h1, ?_⟩
  rcases h2 with h2 | ⟨g', cap', cur, hv, hg, hh, r⟩
  · exact Or.inl h2
  · injection hv with hv hn hcap
    injection hv with hv
    injection hv with hv
    subst hv
    subst hcap
    refine Or.inr ⟨g, cap, cur, rfl, hg, ?_, r⟩
    rw [(gb_set (gb_refl w (some b)) o u).block g (Array.getElem?_eq_some_iff.1 hh).1 (by intro e; injection e with e; exact hne e.symm)]
    exact hh
/-- a new block that slot t points to holds a picture of the size pw, ph, whose pixels lie in a row of the call's own -/
def NewPic (W : World) (pw ph : Int) (n : Nat) (l : List Px) (t : Value) (wi : World) : Prop := ∃ gr g cap, t = .pointer (some ⟨gr, 0, none⟩) ∧ W.heap.size ≤ gr ∧ gr < wi.heap.size ∧ W.heap.size ≤ g ∧ g < wi.heap.size ∧ g ≠ gr ∧
  wi.cell? ⟨gr, 0, none⟩ = some (.int .i64 pw) ∧ wi.cell? ⟨gr, 1, none⟩ = some (.int .i64 ph) ∧ wi.cell? ⟨gr, 2, none⟩ = some (.slice (some ⟨g, 0, none⟩) n cap) ∧ wi.ownsRow W.heap.size 52 2 (.slice (some ⟨g, 0, none⟩) n cap) n (pxCells l) ∧ Below W.heap.size W wi
end Fb
