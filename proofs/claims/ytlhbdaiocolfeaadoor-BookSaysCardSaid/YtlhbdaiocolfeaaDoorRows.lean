/-
  NARROWER THAN 'FOR EVERY INPUT', by the rows' own cells (each row's printed sentence says how): OpSays: laid · BookSays: laid · TopOp: laid.
  DERIVED. THE GIVEN ROWS OF THIS SEAT. 3 by the template 'for every input the law returns true; each argument reads behind the call as it read before'; 0 by the template 'total and deterministic' (their statements: YtlhbdaiocolfeaaDoorTotals.lean).
  GIVEN WITH THE SEED: the statements are not yours to turn. If you find one false, say at which input.
  Laid BY PROGRAM, IN A SANDBOX (cutbox-rows.mjs): the forced cells as the released guide's own fill.sh prints them over the translation 1da419f054db8dc4… (all of the seat's roots in one cut). By AI agents, Wed Nov 11 2026. No macro, syntax, notation, axiom, sorry.
-/
import Derived.Test.YtlhbdaiocolfeaaDoorChecked
import GoSem.Claim
import GoSem.ClaimJoined
import GoSem.ClaimMapViews
import Derived.JoinedTies
import Derived.KernelRfl
namespace Go.Proofs.YtlhbdaiocolfeaaDoor
/- THE CELL 'sum', in the pinned program and in every row, IS THE sha256 OF THE DUMP (.gsa) THAT YtlhbdaiocolfeaaDoorProg.lean LOADS. Nothing in Lean hashes anything: it is a label: what it is worth is what the hold of that sum in a sandbox is worth. -/
noncomputable def Tryd.pinned : Pinned := { name := "ytlhbdaiocolfeaadoor", sum := "1da419f054db8dc41e05bbcfb2beaeadeaf8a9be76e205ffe635c31e0cb0883e", checked := Tryd.checked }
namespace Rows
def none {H : Type} : Left H := { results := [], args := [] }

/- WHAT THE LISTED PACKAGE-LEVEL VARIABLES READ AS WHEN THE CALL BEGINS. Each datum BY PROGRAM (the guide's laid-datum.mjs) off the statement by which the dump's own 'gosem.cut.vars' lays the variable. In a bare row this is a premise. The card (YtlhbdaiocolfeaaDoorCards.lean) ties it to the program's text. -/
def laid_flickerbook_flickerbookref_names {H : Type} : DataW H := .slice [.lit (.string []), .lit (.string [72, 69, 65, 68]), .lit (.string [80, 73, 67, 84]), .lit (.string [77, 79, 86, 69]), .lit (.string [67, 76, 73, 80]), .lit (.string [83, 72, 79, 87]), .lit (.string [67, 79, 80, 89]), .lit (.string [68, 82, 79, 80]), .lit (.string [80, 65, 68, 68]), .lit (.string [80, 80, 85, 84]), .lit (.string [66, 65, 67, 75]), .lit (.string [87, 65, 73, 84]), .lit (.string [76, 79, 79, 80]), .lit (.string [78, 69, 88, 84]), .lit (.string [83, 65, 86, 69]), .lit (.string [83, 69, 69, 75]), .lit (.string [69, 78, 68, 83])] []
def laid_flickerbook_op_names {H : Type} : DataW H := .slice [.lit (.string []), .lit (.string [72, 69, 65, 68]), .lit (.string [80, 73, 67, 84]), .lit (.string [77, 79, 86, 69]), .lit (.string [67, 76, 73, 80]), .lit (.string [83, 72, 79, 87]), .lit (.string [67, 79, 80, 89]), .lit (.string [68, 82, 79, 80]), .lit (.string [80, 65, 68, 68]), .lit (.string [80, 80, 85, 84]), .lit (.string [66, 65, 67, 75]), .lit (.string [87, 65, 73, 84]), .lit (.string [76, 79, 79, 80]), .lit (.string [78, 69, 88, 84]), .lit (.string [83, 65, 86, 69]), .lit (.string [83, 69, 69, 75]), .lit (.string [69, 78, 68, 83])] []

/-- 'flickerbooklaw.OpSays': WHATEVER THE INPUT: true; the input reads as it did. -/
def opSaysSpec : ChangeSpec := { name := "opSays", fn := fun _ => fun
  | [d1, d2, d3] => { results := [.lit (.bool true)], args := [d1, d2, d3] }
  | _ => none }
def opSaysRow : OpenClaim := { program := "ytlhbdaiocolfeaadoor", sum := "1da419f054db8dc41e05bbcfb2beaeadeaf8a9be76e205ffe635c31e0cb0883e", func := "flickerbook/flickerbooklaw.OpSays", spec := "opSays", inPlace := ["internal/abi.NoEscape"], unfollowed := true, recurses := true, named := ["flickerbook/op.names", "flickerbook/flickerbookref.names"], apart := false, laid := [("flickerbook/flickerbookref.names", laid_flickerbook_flickerbookref_names), ("flickerbook/op.names", laid_flickerbook_op_names)] }
def OpSaysSaid : Prop := opSaysRow.holds Tryd.pinned (OpenSpec.ofChange opSaysSpec)

/-- ITS FALSE NEIGHBOUR: 'it returns false'. Refute it at one input. -/
def opSaysWrong : ChangeSpec := { name := "opSays", fn := fun _ => fun
  | [d1, d2, d3] => { results := [.lit (.bool false)], args := [d1, d2, d3] }
  | _ => none }
def OpSaysWrongFalsely : Prop := opSaysRow.holds Tryd.pinned (OpenSpec.ofChange opSaysWrong)

/-- 'flickerbooklaw.BookSays': WHATEVER THE INPUT: true; the input reads as it did. -/
def bookSaysSpec : ChangeSpec := { name := "bookSays", fn := fun _ => fun
  | [d1, d2] => { results := [.lit (.bool true)], args := [d1, d2] }
  | _ => none }
def bookSaysRow : OpenClaim := { program := "ytlhbdaiocolfeaadoor", sum := "1da419f054db8dc41e05bbcfb2beaeadeaf8a9be76e205ffe635c31e0cb0883e", func := "flickerbook/flickerbooklaw.BookSays", spec := "bookSays", inPlace := ["internal/abi.NoEscape"], unfollowed := true, recurses := true, named := ["flickerbook/op.names", "flickerbook/flickerbookref.names"], apart := false, laid := [("flickerbook/flickerbookref.names", laid_flickerbook_flickerbookref_names), ("flickerbook/op.names", laid_flickerbook_op_names)] }
def BookSaysSaid : Prop := bookSaysRow.holds Tryd.pinned (OpenSpec.ofChange bookSaysSpec)

/-- ITS FALSE NEIGHBOUR: 'it returns false'. Refute it at one input. -/
def bookSaysWrong : ChangeSpec := { name := "bookSays", fn := fun _ => fun
  | [d1, d2] => { results := [.lit (.bool false)], args := [d1, d2] }
  | _ => none }
def BookSaysWrongFalsely : Prop := bookSaysRow.holds Tryd.pinned (OpenSpec.ofChange bookSaysWrong)

/-- 'flickerbooktop.TopOp': WHATEVER THE INPUT: true; the input reads as it did. -/
def topOpSpec : ChangeSpec := { name := "topOp", fn := fun _ => fun
  | [d] => { results := [.lit (.bool true)], args := [d] }
  | _ => none }
def topOpRow : OpenClaim := { program := "ytlhbdaiocolfeaadoor", sum := "1da419f054db8dc41e05bbcfb2beaeadeaf8a9be76e205ffe635c31e0cb0883e", func := "flickerbook/flickerbooktop.TopOp", spec := "topOp", inPlace := ["internal/abi.NoEscape"], unfollowed := true, recurses := true, named := ["flickerbook/op.names"], apart := false, laid := [("flickerbook/op.names", laid_flickerbook_op_names)] }
def TopOpSaid : Prop := topOpRow.holds Tryd.pinned (OpenSpec.ofChange topOpSpec)

/-- ITS FALSE NEIGHBOUR: 'it returns false'. Refute it at one input. -/
def topOpWrong : ChangeSpec := { name := "topOp", fn := fun _ => fun
  | [d] => { results := [.lit (.bool false)], args := [d] }
  | _ => none }
def TopOpWrongFalsely : Prop := topOpRow.holds Tryd.pinned (OpenSpec.ofChange topOpWrong)

/- THE SECOND FORM. 'bulk': how many values and letters a reading holds, each counted each time it is reached (what is shared counts as often as it is met; a slice's spare places count too). A statement '..UptoSaid' is the law's where the arguments, and the package variables that the reading takes, are together of bulk at most 1048576: NARROWER than '..Said'. Prove '..Said' where nothing that the law and all that it calls make is longer than what came in: it says more and counts as full. Else prove '..UptoSaid'. A law counts once. -/
mutual
def uptoBulk {H : Type} : DataW H → Nat
  | .lit (.string bytes) => bytes.length + 1
  | .lit _ => 1
  | .nil => 1
  | .ptr d => uptoBulk d + 1
  | .slice elems spare => uptoBulkAll elems + uptoBulkAll spare + 1
  | .agg parts => uptoBulkAll parts + 1
  | .iface _ d => uptoBulk d + 1
  | .map entries => uptoBulkEntries entries + 1
  | .held _ => 1
def uptoBulkAll {H : Type} : List (DataW H) → Nat
  | [] => 0
  | d :: r => uptoBulk d + uptoBulkAll r
def uptoBulkEntries {H : Type} : List (Lit × DataW H) → Nat
  | [] => 0
  | x :: r => uptoBulkEntry x + uptoBulkEntries r
def uptoBulkEntry {H : Type} : Lit × DataW H → Nat
  | (.string bytes, d) => bytes.length + uptoBulk d + 1
  | (_, d) => uptoBulk d + 1
 end
def uptoSmall : (H : Type) → List (DataW H) → Bool := fun _ ds => decide (uptoBulkAll ds ≤ 1048576)
def OpenSpec.upto (s : _root_.Go.ChangeSpec) : _root_.Go.OpenSpec := { _root_.Go.OpenSpec.ofChange s with cond := some uptoSmall }

/-- 'flickerbooklaw.OpSays', WHERE WHAT IT READS IS OF BULK AT MOST 1048576: true; the input reads as it did. -/
def opSaysUptoRow : OpenClaim := { program := "ytlhbdaiocolfeaadoor", sum := "1da419f054db8dc41e05bbcfb2beaeadeaf8a9be76e205ffe635c31e0cb0883e", func := "flickerbook/flickerbooklaw.OpSays", spec := "opSays", inPlace := ["internal/abi.NoEscape"], unfollowed := true, recurses := true, named := ["flickerbook/op.names", "flickerbook/flickerbookref.names"], apart := false, laid := [("flickerbook/flickerbookref.names", laid_flickerbook_flickerbookref_names), ("flickerbook/op.names", laid_flickerbook_op_names)], narrowed := true }
def OpSaysUptoSaid : Prop := opSaysUptoRow.holds Tryd.pinned (OpenSpec.upto opSaysSpec)

/-- 'flickerbooklaw.BookSays', WHERE WHAT IT READS IS OF BULK AT MOST 1048576: true; the input reads as it did. -/
def bookSaysUptoRow : OpenClaim := { program := "ytlhbdaiocolfeaadoor", sum := "1da419f054db8dc41e05bbcfb2beaeadeaf8a9be76e205ffe635c31e0cb0883e", func := "flickerbook/flickerbooklaw.BookSays", spec := "bookSays", inPlace := ["internal/abi.NoEscape"], unfollowed := true, recurses := true, named := ["flickerbook/op.names", "flickerbook/flickerbookref.names"], apart := false, laid := [("flickerbook/flickerbookref.names", laid_flickerbook_flickerbookref_names), ("flickerbook/op.names", laid_flickerbook_op_names)], narrowed := true }
def BookSaysUptoSaid : Prop := bookSaysUptoRow.holds Tryd.pinned (OpenSpec.upto bookSaysSpec)

/-- 'flickerbooktop.TopOp', WHERE WHAT IT READS IS OF BULK AT MOST 1048576: true; the input reads as it did. -/
def topOpUptoRow : OpenClaim := { program := "ytlhbdaiocolfeaadoor", sum := "1da419f054db8dc41e05bbcfb2beaeadeaf8a9be76e205ffe635c31e0cb0883e", func := "flickerbook/flickerbooktop.TopOp", spec := "topOp", inPlace := ["internal/abi.NoEscape"], unfollowed := true, recurses := true, named := ["flickerbook/op.names"], apart := false, laid := [("flickerbook/op.names", laid_flickerbook_op_names)], narrowed := true }
def TopOpUptoSaid : Prop := topOpUptoRow.holds Tryd.pinned (OpenSpec.upto topOpSpec)

end Rows
end Go.Proofs.YtlhbdaiocolfeaaDoor
