/-
  NARROWER THAN 'FOR EVERY INPUT', by the rows' own cells (each row's printed sentence says how): TopBook: laid · TopMore: laid.
  DERIVED. THE GIVEN ROWS OF THIS SEAT. 2 by the template 'for every input the law returns true; each argument reads behind the call as it read before'; 0 by the template 'total and deterministic' (their statements: YtcmbbicemddggaaDoorTotals.lean).
  GIVEN WITH THE SEED: the statements are not yours to turn. If you find one false, say at which input.
  Laid BY PROGRAM, IN A SANDBOX (cutbox-rows.mjs): the forced cells as the released guide's own fill.sh prints them over the translation b8dd7586e0d44c7f… (all of the seat's roots in one cut). By AI agents, Wed Nov 11 2026. No macro, syntax, notation, axiom, sorry.
-/
import Derived.Test.YtcmbbicemddggaaDoorChecked
import GoSem.Claim
import GoSem.ClaimJoined
import GoSem.ClaimMapViews
import Derived.JoinedTies
import Derived.KernelRfl
namespace Go.Proofs.YtcmbbicemddggaaDoor
/- THE CELL 'sum', in the pinned program and in every row, IS THE sha256 OF THE DUMP (.gsa) THAT YtcmbbicemddggaaDoorProg.lean LOADS. Nothing in Lean hashes anything: it is a label: what it is worth is what the hold of that sum in a sandbox is worth. -/
noncomputable def Tryd.pinned : Pinned := { name := "ytcmbbicemddggaadoor", sum := "b8dd7586e0d44c7f3df74b78a8a50c2ba4525616744bd8553a5940915b01a698", checked := Tryd.checked }
namespace Rows
def none {H : Type} : Left H := { results := [], args := [] }

/- WHAT THE LISTED PACKAGE-LEVEL VARIABLES READ AS WHEN THE CALL BEGINS. Each datum BY PROGRAM (the guide's laid-datum.mjs) off the statement by which the dump's own 'gosem.cut.vars' lays the variable. In a bare row this is a premise. The card (YtcmbbicemddggaaDoorCards.lean) ties it to the program's text. -/
def laid_flickerbook_op_names {H : Type} : DataW H := .slice [.lit (.string []), .lit (.string [72, 69, 65, 68]), .lit (.string [80, 73, 67, 84]), .lit (.string [77, 79, 86, 69]), .lit (.string [67, 76, 73, 80]), .lit (.string [83, 72, 79, 87]), .lit (.string [67, 79, 80, 89]), .lit (.string [68, 82, 79, 80]), .lit (.string [80, 65, 68, 68]), .lit (.string [80, 80, 85, 84]), .lit (.string [66, 65, 67, 75]), .lit (.string [87, 65, 73, 84]), .lit (.string [76, 79, 79, 80]), .lit (.string [78, 69, 88, 84]), .lit (.string [83, 65, 86, 69]), .lit (.string [83, 69, 69, 75]), .lit (.string [69, 78, 68, 83])] []

/-- 'flickerbooktop.TopBook': WHATEVER THE INPUT: true; the input reads as it did. -/
def topBookSpec : ChangeSpec := { name := "topBook", fn := fun _ => fun
  | [d] => { results := [.lit (.bool true)], args := [d] }
  | _ => none }
def topBookRow : OpenClaim := { program := "ytcmbbicemddggaadoor", sum := "b8dd7586e0d44c7f3df74b78a8a50c2ba4525616744bd8553a5940915b01a698", func := "flickerbook/flickerbooktop.TopBook", spec := "topBook", inPlace := ["slices.overlaps[flickerbook/api.Object]", "internal/abi.NoEscape"], unfollowed := true, recurses := true, named := ["flickerbook/op.names"], apart := false, laid := [("flickerbook/op.names", laid_flickerbook_op_names)] }
def TopBookSaid : Prop := topBookRow.holds Tryd.pinned (OpenSpec.ofChange topBookSpec)

/-- ITS FALSE NEIGHBOUR: 'it returns false'. Refute it at one input. -/
def topBookWrong : ChangeSpec := { name := "topBook", fn := fun _ => fun
  | [d] => { results := [.lit (.bool false)], args := [d] }
  | _ => none }
def TopBookWrongFalsely : Prop := topBookRow.holds Tryd.pinned (OpenSpec.ofChange topBookWrong)

/-- 'flickerbooktop.TopMore': WHATEVER THE INPUT: true; the input reads as it did. -/
def topMoreSpec : ChangeSpec := { name := "topMore", fn := fun _ => fun
  | [d1, d2, d3, d4] => { results := [.lit (.bool true)], args := [d1, d2, d3, d4] }
  | _ => none }
def topMoreRow : OpenClaim := { program := "ytcmbbicemddggaadoor", sum := "b8dd7586e0d44c7f3df74b78a8a50c2ba4525616744bd8553a5940915b01a698", func := "flickerbook/flickerbooktop.TopMore", spec := "topMore", inPlace := ["slices.overlaps[flickerbook/api.Object]", "internal/abi.NoEscape"], unfollowed := true, recurses := true, named := ["flickerbook/op.names"], apart := false, laid := [("flickerbook/op.names", laid_flickerbook_op_names)] }
def TopMoreSaid : Prop := topMoreRow.holds Tryd.pinned (OpenSpec.ofChange topMoreSpec)

/-- ITS FALSE NEIGHBOUR: 'it returns false'. Refute it at one input. -/
def topMoreWrong : ChangeSpec := { name := "topMore", fn := fun _ => fun
  | [d1, d2, d3, d4] => { results := [.lit (.bool false)], args := [d1, d2, d3, d4] }
  | _ => none }
def TopMoreWrongFalsely : Prop := topMoreRow.holds Tryd.pinned (OpenSpec.ofChange topMoreWrong)

/- THE SECOND FORM. 'bulk': how many values and letters a reading holds, each counted each time it is reached (what is shared counts as often as it is met; a slice's spare places count too). A statement '..UptoSaid' is the law's where the arguments, and the package variables that the reading takes, are together of bulk at most 1048576: NARROWER than '..Said'. Prove '..Said' where nothing that the law and all that it calls make is longer than what came in: it says more and counts as full. Else prove '..UptoSaid'. A law counts once. -/
mutual
def uptoBulk {H : Type} : DataW H → Nat
  | .lit (.string bytes) => bytes.length + 1
  | .lit _ => 1
  | .nil => 1
  | .ptr d => uptoBulk d + 1
  | .slice elems spare => uptoBulkAll elems + uptoBulkAll spare + 1
  | .agg parts => uptoBulkAll parts + 1
  | .iface _ d => uptoBulk d + 1
  | .map entries => uptoBulkEntries entries + 1
  | .held _ => 1
def uptoBulkAll {H : Type} : List (DataW H) → Nat
  | [] => 0
  | d :: r => uptoBulk d + uptoBulkAll r
def uptoBulkEntries {H : Type} : List (Lit × DataW H) → Nat
  | [] => 0
  | x :: r => uptoBulkEntry x + uptoBulkEntries r
def uptoBulkEntry {H : Type} : Lit × DataW H → Nat
  | (.string bytes, d) => bytes.length + uptoBulk d + 1
  | (_, d) => uptoBulk d + 1
 end
def uptoSmall : (H : Type) → List (DataW H) → Bool := fun _ ds => decide (uptoBulkAll ds ≤ 1048576)
def OpenSpec.upto (s : _root_.Go.ChangeSpec) : _root_.Go.OpenSpec := { _root_.Go.OpenSpec.ofChange s with cond := some uptoSmall }

/-- 'flickerbooktop.TopBook', WHERE WHAT IT READS IS OF BULK AT MOST 1048576: true; the input reads as it did. -/
def topBookUptoRow : OpenClaim := { program := "ytcmbbicemddggaadoor", sum := "b8dd7586e0d44c7f3df74b78a8a50c2ba4525616744bd8553a5940915b01a698", func := "flickerbook/flickerbooktop.TopBook", spec := "topBook", inPlace := ["slices.overlaps[flickerbook/api.Object]", "internal/abi.NoEscape"], unfollowed := true, recurses := true, named := ["flickerbook/op.names"], apart := false, laid := [("flickerbook/op.names", laid_flickerbook_op_names)], narrowed := true }
def TopBookUptoSaid : Prop := topBookUptoRow.holds Tryd.pinned (OpenSpec.upto topBookSpec)

/-- 'flickerbooktop.TopMore', WHERE WHAT IT READS IS OF BULK AT MOST 1048576: true; the input reads as it did. -/
def topMoreUptoRow : OpenClaim := { program := "ytcmbbicemddggaadoor", sum := "b8dd7586e0d44c7f3df74b78a8a50c2ba4525616744bd8553a5940915b01a698", func := "flickerbook/flickerbooktop.TopMore", spec := "topMore", inPlace := ["slices.overlaps[flickerbook/api.Object]", "internal/abi.NoEscape"], unfollowed := true, recurses := true, named := ["flickerbook/op.names"], apart := false, laid := [("flickerbook/op.names", laid_flickerbook_op_names)], narrowed := true }
def TopMoreUptoSaid : Prop := topMoreUptoRow.holds Tryd.pinned (OpenSpec.upto topMoreSpec)

end Rows
end Go.Proofs.YtcmbbicemddggaaDoor
