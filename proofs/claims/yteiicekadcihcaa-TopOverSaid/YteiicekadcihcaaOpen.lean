/- Arguments opened: what a struct or a slice that came in reads as. No conditions. -/
import Derived.Test.YteiicekadcihcaaErr
import Derived.ProofKit
import Derived.OpenShut
import Derived.Lib.SmallJoins
namespace Fb
open Go Go.Proofs Go.RowKit Go.ChangeShapes Go.WideShapes Go.Joins
def Wf (n : Int) : Prop := (Lit.int .i64 n).wf = true
section
variable {H : Type} {enc : TypeId × Value → H} {W : World} {base : Nat} {spare : Nat → Bool} {held : Bool} {v : Value} {d : DataW H} {p : List MemPlace} {b0 : Nat}
theorem cells_rect : Try.prog.cellsOf 23 = 4 := by kernel_rfl
theorem cells_px : Try.prog.cellsOf 39 = 2 := by kernel_rfl
theorem one_int {n : Nat} {v : Value} {y : DataW H × List MemPlace} (h : DataW.trod enc Try.prog W base spare held n 3 [v] = some y) : ∃ a : Int, v = .int .i64 a ∧ Wf a := by
  obtain ⟨a, e0, -, wa⟩ := DataW.trod_int Try.underlying3 h
  simp at e0
  exact ⟨a, e0, wa⟩
set_option maxRecDepth 100000 in
theorem open_rect (hv : Value.okWide Try.prog W .any b0 23 v) (h : DataW.Trod enc Try.prog W base spare held 23 v d p) :
    ∃ r : FRect, v = .agg #[.int .i64 r.x, .int .i64 r.y, .int .i64 r.w, .int .i64 r.h] ∧ Wf r.x ∧ Wf r.y ∧ Wf r.w ∧ Wf r.h := by
  obtain ⟨v0, v1, v2, v3, y0, y1, y2, y3, n, rfl, -, -, h0, h1, h2, h3⟩ := open_agg4 Try.underlying23 (by kernel_rfl) cells_rect hv h
  obtain ⟨a0, rfl, w0⟩ := one_int h0
  obtain ⟨a1, rfl, w1⟩ := one_int h1
  obtain ⟨a2, rfl, w2⟩ := one_int h2
  obtain ⟨a3, rfl, w3⟩ := one_int h3
  exact ⟨⟨a0, a1, a2, a3⟩, rfl, w0, w1, w2, w3⟩
set_option maxRecDepth 100000 in
theorem open_px (hv : Value.okWide Try.prog W .any b0 39 v) (h : DataW.Trod enc Try.prog W base spare held 39 v d p) :
    ∃ r : Px, v = .agg #[.int .i64 r.1, .int .i64 r.2] ∧ Wf r.1 ∧ Wf r.2 := by
  obtain ⟨v0, v1, y0, y1, n, rfl, -, -, h0, h1⟩ := open_agg2 Try.underlying39 (by kernel_rfl) cells_px hv h
  obtain ⟨a0, rfl, w0⟩ := one_int h0
  obtain ⟨a1, rfl, w1⟩ := one_int h1
  exact ⟨(a0, a1), rfl, w0, w1⟩
end
end Fb
