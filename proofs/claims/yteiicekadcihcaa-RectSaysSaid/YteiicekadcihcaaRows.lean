/-
  No cell of these rows narrows 'for every input' (looked for: loops, veiled, ifaces, maps, wideKeys, modest, calm, conditions, laid).
  DERIVED. THE GIVEN ROWS OF THIS SEAT. 4 by the template 'for every input the law returns true; each argument reads behind the call as it read before'; 0 by the template 'total and deterministic' (their statements: YteiicekadcihcaaTotals.lean).
  GIVEN WITH THE SEED: the statements are not yours to turn. If you find one false, say at which input.
  Laid BY PROGRAM, IN A SANDBOX (cutbox-rows.mjs): the forced cells as the released guide's own fill.sh prints them over the translation cfa2cdaadac9e98d… (all of the seat's roots in one cut). By AI agents, Wed Nov 11 2026. No macro, syntax, notation, axiom, sorry.
-/
import Derived.Test.YteiicekadcihcaaChecked
import GoSem.Claim
import GoSem.ClaimJoined
import GoSem.ClaimMapViews
import Derived.JoinedTies
import Derived.KernelRfl
namespace Go.Proofs.Yteiicekadcihcaa
/- THE CELL 'sum', in the pinned program and in every row, IS THE sha256 OF THE DUMP (.gsa) THAT YteiicekadcihcaaProg.lean LOADS. Nothing in Lean hashes anything: it is a label: what it is worth is what the hold of that sum in a sandbox is worth. -/
noncomputable def Try.pinned : Pinned := { name := "yteiicekadcihcaa", sum := "cfa2cdaadac9e98dbdd4f8c7d419d725f3275324326d4b072d4a8383e07fb711", checked := Try.checked }
namespace Rows
def none {H : Type} : Left H := { results := [], args := [] }

/-- 'flickerbooklaw.RectSays': WHATEVER THE INPUT: true; the input reads as it did. -/
def rectSaysSpec : ChangeSpec := { name := "rectSays", fn := fun _ => fun
  | [d1, d2, d3, d4] => { results := [.lit (.bool true)], args := [d1, d2, d3, d4] }
  | _ => none }
def rectSaysRow : OpenClaim := { program := "yteiicekadcihcaa", sum := "cfa2cdaadac9e98dbdd4f8c7d419d725f3275324326d4b072d4a8383e07fb711", func := "flickerbook/flickerbooklaw.RectSays", spec := "rectSays", apart := false }
def RectSaysSaid : Prop := rectSaysRow.holds Try.pinned (OpenSpec.ofChange rectSaysSpec)

/-- ITS FALSE NEIGHBOUR: 'it returns false'. Refute it at one input. -/
def rectSaysWrong : ChangeSpec := { name := "rectSays", fn := fun _ => fun
  | [d1, d2, d3, d4] => { results := [.lit (.bool false)], args := [d1, d2, d3, d4] }
  | _ => none }
def RectSaysWrongFalsely : Prop := rectSaysRow.holds Try.pinned (OpenSpec.ofChange rectSaysWrong)

/-- 'flickerbooklaw.PackSays': WHATEVER THE INPUT: true; the input reads as it did. -/
def packSaysSpec : ChangeSpec := { name := "packSays", fn := fun _ => fun
  | [d1, d2, d3] => { results := [.lit (.bool true)], args := [d1, d2, d3] }
  | _ => none }
def packSaysRow : OpenClaim := { program := "yteiicekadcihcaa", sum := "cfa2cdaadac9e98dbdd4f8c7d419d725f3275324326d4b072d4a8383e07fb711", func := "flickerbook/flickerbooklaw.PackSays", spec := "packSays", apart := false }
def PackSaysSaid : Prop := packSaysRow.holds Try.pinned (OpenSpec.ofChange packSaysSpec)

/-- ITS FALSE NEIGHBOUR: 'it returns false'. Refute it at one input. -/
def packSaysWrong : ChangeSpec := { name := "packSays", fn := fun _ => fun
  | [d1, d2, d3] => { results := [.lit (.bool false)], args := [d1, d2, d3] }
  | _ => none }
def PackSaysWrongFalsely : Prop := packSaysRow.holds Try.pinned (OpenSpec.ofChange packSaysWrong)

/-- 'flickerbooktop.TopOver': WHATEVER THE INPUT: true; the input reads as it did. -/
def topOverSpec : ChangeSpec := { name := "topOver", fn := fun _ => fun
  | [d1, d2] => { results := [.lit (.bool true)], args := [d1, d2] }
  | _ => none }
def topOverRow : OpenClaim := { program := "yteiicekadcihcaa", sum := "cfa2cdaadac9e98dbdd4f8c7d419d725f3275324326d4b072d4a8383e07fb711", func := "flickerbook/flickerbooktop.TopOver", spec := "topOver", apart := false }
def TopOverSaid : Prop := topOverRow.holds Try.pinned (OpenSpec.ofChange topOverSpec)

/-- ITS FALSE NEIGHBOUR: 'it returns false'. Refute it at one input. -/
def topOverWrong : ChangeSpec := { name := "topOver", fn := fun _ => fun
  | [d1, d2] => { results := [.lit (.bool false)], args := [d1, d2] }
  | _ => none }
def TopOverWrongFalsely : Prop := topOverRow.holds Try.pinned (OpenSpec.ofChange topOverWrong)

/-- 'flickerbooktop.TopPack': WHATEVER THE INPUT: true; the input reads as it did. -/
def topPackSpec : ChangeSpec := { name := "topPack", fn := fun _ => fun
  | [d] => { results := [.lit (.bool true)], args := [d] }
  | _ => none }
def topPackRow : OpenClaim := { program := "yteiicekadcihcaa", sum := "cfa2cdaadac9e98dbdd4f8c7d419d725f3275324326d4b072d4a8383e07fb711", func := "flickerbook/flickerbooktop.TopPack", spec := "topPack", apart := false }
def TopPackSaid : Prop := topPackRow.holds Try.pinned (OpenSpec.ofChange topPackSpec)

/-- ITS FALSE NEIGHBOUR: 'it returns false'. Refute it at one input. -/
def topPackWrong : ChangeSpec := { name := "topPack", fn := fun _ => fun
  | [d] => { results := [.lit (.bool false)], args := [d] }
  | _ => none }
def TopPackWrongFalsely : Prop := topPackRow.holds Try.pinned (OpenSpec.ofChange topPackWrong)

/- THE SECOND FORM. 'bulk': how many values and letters a reading holds, each counted each time it is reached (what is shared counts as often as it is met; a slice's spare places count too). A statement '..UptoSaid' is the law's where the arguments, and the package variables that the reading takes, are together of bulk at most 1048576: NARROWER than '..Said'. Prove '..Said' where nothing that the law and all that it calls make is longer than what came in: it says more and counts as full. Else prove '..UptoSaid'. A law counts once. -/
mutual
def uptoBulk {H : Type} : DataW H → Nat
  | .lit (.string bytes) => bytes.length + 1
  | .lit _ => 1
  | .nil => 1
  | .ptr d => uptoBulk d + 1
  | .slice elems spare => uptoBulkAll elems + uptoBulkAll spare + 1
  | .agg parts => uptoBulkAll parts + 1
  | .iface _ d => uptoBulk d + 1
  | .map entries => uptoBulkEntries entries + 1
  | .held _ => 1
def uptoBulkAll {H : Type} : List (DataW H) → Nat
  | [] => 0
  | d :: r => uptoBulk d + uptoBulkAll r
def uptoBulkEntries {H : Type} : List (Lit × DataW H) → Nat
  | [] => 0
  | x :: r => uptoBulkEntry x + uptoBulkEntries r
def uptoBulkEntry {H : Type} : Lit × DataW H → Nat
  | (.string bytes, d) => bytes.length + uptoBulk d + 1
  | (_, d) => uptoBulk d + 1
 end
def uptoSmall : (H : Type) → List (DataW H) → Bool := fun _ ds => decide (uptoBulkAll ds ≤ 1048576)
def OpenSpec.upto (s : _root_.Go.ChangeSpec) : _root_.Go.OpenSpec := { _root_.Go.OpenSpec.ofChange s with cond := some uptoSmall }

/-- 'flickerbooklaw.RectSays', WHERE WHAT IT READS IS OF BULK AT MOST 1048576: true; the input reads as it did. -/
def rectSaysUptoRow : OpenClaim := { program := "yteiicekadcihcaa", sum := "cfa2cdaadac9e98dbdd4f8c7d419d725f3275324326d4b072d4a8383e07fb711", func := "flickerbook/flickerbooklaw.RectSays", spec := "rectSays", apart := false, narrowed := true }
def RectSaysUptoSaid : Prop := rectSaysUptoRow.holds Try.pinned (OpenSpec.upto rectSaysSpec)

/-- 'flickerbooklaw.PackSays', WHERE WHAT IT READS IS OF BULK AT MOST 1048576: true; the input reads as it did. -/
def packSaysUptoRow : OpenClaim := { program := "yteiicekadcihcaa", sum := "cfa2cdaadac9e98dbdd4f8c7d419d725f3275324326d4b072d4a8383e07fb711", func := "flickerbook/flickerbooklaw.PackSays", spec := "packSays", apart := false, narrowed := true }
def PackSaysUptoSaid : Prop := packSaysUptoRow.holds Try.pinned (OpenSpec.upto packSaysSpec)

/-- 'flickerbooktop.TopOver', WHERE WHAT IT READS IS OF BULK AT MOST 1048576: true; the input reads as it did. -/
def topOverUptoRow : OpenClaim := { program := "yteiicekadcihcaa", sum := "cfa2cdaadac9e98dbdd4f8c7d419d725f3275324326d4b072d4a8383e07fb711", func := "flickerbook/flickerbooktop.TopOver", spec := "topOver", apart := false, narrowed := true }
def TopOverUptoSaid : Prop := topOverUptoRow.holds Try.pinned (OpenSpec.upto topOverSpec)

/-- 'flickerbooktop.TopPack', WHERE WHAT IT READS IS OF BULK AT MOST 1048576: true; the input reads as it did. -/
def topPackUptoRow : OpenClaim := { program := "yteiicekadcihcaa", sum := "cfa2cdaadac9e98dbdd4f8c7d419d725f3275324326d4b072d4a8383e07fb711", func := "flickerbook/flickerbooktop.TopPack", spec := "topPack", apart := false, narrowed := true }
def TopPackUptoSaid : Prop := topPackUptoRow.holds Try.pinned (OpenSpec.upto topPackSpec)

end Rows
end Go.Proofs.Yteiicekadcihcaa
