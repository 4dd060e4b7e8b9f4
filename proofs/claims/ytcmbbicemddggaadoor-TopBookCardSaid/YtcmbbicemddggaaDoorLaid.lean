/- The reference's Laid returns what the plain law says. Conditions: a picture and an object that may be. -/
import Derived.Test.YtcmbbicemddggaaDoorChanged
import Derived.Test.YtcmbbicemddggaaDoorPlainB
import Derived.Test.YtcmbbicemddggaaDoorWalksA
set_option linter.unusedSimpArgs false
set_option linter.unusedVariables false
namespace Fb
open Go Go.Proofs Go.RowKit Go.Sort
theorem lay_eq {l q : List Px} {P H Q K : Nat} {x y id' cx cy cw ch : Int} {sh : Bool} {cc : Nat → Nat → Bool} {vv : Nat → Nat → Px} (hc : (fun j i => sh && (onB ⟨cx, cy, cw, ch⟩ j i && onB ⟨x, y, (Q : Int), (K : Int)⟩ j i)) = cc)
    (hv : (fun j i => overP (srcP ⟨(Q : Int), (K : Int), q⟩ x y j i) (l.getD (j * P + i) (0, 0))) = vv) : layP ⟨(P : Int), (H : Int), l⟩ ⟨id', x, y, ⟨(Q : Int), (K : Int), q⟩, ⟨cx, cy, cw, ch⟩, sh⟩ = ⟨(P : Int), (H : Int), updL P l cc vv⟩ := by
  subst hc hv
  unfold layP
  simp
end Fb
