/-
  No cell of these rows narrows 'for every input' (looked for: loops, veiled, ifaces, maps, wideKeys, modest, calm, conditions, laid).
  DERIVED. THE GIVEN ROWS OF THIS SEAT. 4 by the template 'for every input the law returns true; each argument reads behind the call as it read before'; 0 by the template 'total and deterministic' (their statements: YtbddmpbifkgloaaTotals.lean).
  GIVEN WITH THE SEED: the statements are not yours to turn. If you find one false, say at which input.
  Laid BY PROGRAM, IN A SANDBOX (cutbox-rows.mjs): the forced cells as the released guide's own fill.sh prints them over the translation 2537dfb97c0f3590… (all of the seat's roots in one cut). By AI agents, Wed Nov 11 2026. No macro, syntax, notation, axiom, sorry.
-/
import Derived.Test.YtbddmpbifkgloaaChecked
import GoSem.Claim
import GoSem.ClaimJoined
import GoSem.ClaimMapViews
import Derived.JoinedTies
import Derived.KernelRfl
namespace Go.Proofs.Ytbddmpbifkgloaa
/- THE CELL 'sum', in the pinned program and in every row, IS THE sha256 OF THE DUMP (.gsa) THAT YtbddmpbifkgloaaProg.lean LOADS. Nothing in Lean hashes anything: it is a label: what it is worth is what the hold of that sum in a sandbox is worth. -/
noncomputable def Try.pinned : Pinned := { name := "ytbddmpbifkgloaa", sum := "2537dfb97c0f3590499a70eb726d81a751e84f2b5e794c3b5f7668ca786d6108", checked := Try.checked }
namespace Rows
def none {H : Type} : Left H := { results := [], args := [] }

/-- 'flickerbooklaw.ObjectsSays': WHATEVER THE INPUT: true; the input reads as it did. -/
def objectsSaysSpec : ChangeSpec := { name := "objectsSays", fn := fun _ => fun
  | [d1, d2, d3, d4, d5, d6] => { results := [.lit (.bool true)], args := [d1, d2, d3, d4, d5, d6] }
  | _ => none }
def objectsSaysRow : OpenClaim := { program := "ytbddmpbifkgloaa", sum := "2537dfb97c0f3590499a70eb726d81a751e84f2b5e794c3b5f7668ca786d6108", func := "flickerbook/flickerbooklaw.ObjectsSays", spec := "objectsSays", inPlace := ["slices.overlaps[flickerbook/api.Object]"], unfollowed := true, recurses := true, apart := false }
def ObjectsSaysSaid : Prop := objectsSaysRow.holds Try.pinned (OpenSpec.ofChange objectsSaysSpec)

/-- ITS FALSE NEIGHBOUR: 'it returns false'. Refute it at one input. -/
def objectsSaysWrong : ChangeSpec := { name := "objectsSays", fn := fun _ => fun
  | [d1, d2, d3, d4, d5, d6] => { results := [.lit (.bool false)], args := [d1, d2, d3, d4, d5, d6] }
  | _ => none }
def ObjectsSaysWrongFalsely : Prop := objectsSaysRow.holds Try.pinned (OpenSpec.ofChange objectsSaysWrong)

/-- 'flickerbooktop.TopSeen': WHATEVER THE INPUT: true; the input reads as it did. -/
def topSeenSpec : ChangeSpec := { name := "topSeen", fn := fun _ => fun
  | [d1, d2, d3, d4, d5, d6] => { results := [.lit (.bool true)], args := [d1, d2, d3, d4, d5, d6] }
  | _ => none }
def topSeenRow : OpenClaim := { program := "ytbddmpbifkgloaa", sum := "2537dfb97c0f3590499a70eb726d81a751e84f2b5e794c3b5f7668ca786d6108", func := "flickerbook/flickerbooktop.TopSeen", spec := "topSeen", inPlace := ["slices.overlaps[flickerbook/api.Object]"], unfollowed := true, recurses := true, apart := false }
def TopSeenSaid : Prop := topSeenRow.holds Try.pinned (OpenSpec.ofChange topSeenSpec)

/-- ITS FALSE NEIGHBOUR: 'it returns false'. Refute it at one input. -/
def topSeenWrong : ChangeSpec := { name := "topSeen", fn := fun _ => fun
  | [d1, d2, d3, d4, d5, d6] => { results := [.lit (.bool false)], args := [d1, d2, d3, d4, d5, d6] }
  | _ => none }
def TopSeenWrongFalsely : Prop := topSeenRow.holds Try.pinned (OpenSpec.ofChange topSeenWrong)

/-- 'flickerbooktop.TopCopy': WHATEVER THE INPUT: true; the input reads as it did. -/
def topCopySpec : ChangeSpec := { name := "topCopy", fn := fun _ => fun
  | [d1, d2, d3, d4] => { results := [.lit (.bool true)], args := [d1, d2, d3, d4] }
  | _ => none }
def topCopyRow : OpenClaim := { program := "ytbddmpbifkgloaa", sum := "2537dfb97c0f3590499a70eb726d81a751e84f2b5e794c3b5f7668ca786d6108", func := "flickerbook/flickerbooktop.TopCopy", spec := "topCopy", inPlace := ["slices.overlaps[flickerbook/api.Object]"], unfollowed := true, recurses := true, apart := false }
def TopCopySaid : Prop := topCopyRow.holds Try.pinned (OpenSpec.ofChange topCopySpec)

/-- ITS FALSE NEIGHBOUR: 'it returns false'. Refute it at one input. -/
def topCopyWrong : ChangeSpec := { name := "topCopy", fn := fun _ => fun
  | [d1, d2, d3, d4] => { results := [.lit (.bool false)], args := [d1, d2, d3, d4] }
  | _ => none }
def TopCopyWrongFalsely : Prop := topCopyRow.holds Try.pinned (OpenSpec.ofChange topCopyWrong)

/-- 'flickerbooktop.TopOthers': WHATEVER THE INPUT: true; the input reads as it did. -/
def topOthersSpec : ChangeSpec := { name := "topOthers", fn := fun _ => fun
  | [d1, d2, d3] => { results := [.lit (.bool true)], args := [d1, d2, d3] }
  | _ => none }
def topOthersRow : OpenClaim := { program := "ytbddmpbifkgloaa", sum := "2537dfb97c0f3590499a70eb726d81a751e84f2b5e794c3b5f7668ca786d6108", func := "flickerbook/flickerbooktop.TopOthers", spec := "topOthers", inPlace := ["slices.overlaps[flickerbook/api.Object]"], unfollowed := true, recurses := true, apart := false }
def TopOthersSaid : Prop := topOthersRow.holds Try.pinned (OpenSpec.ofChange topOthersSpec)

/-- ITS FALSE NEIGHBOUR: 'it returns false'. Refute it at one input. -/
def topOthersWrong : ChangeSpec := { name := "topOthers", fn := fun _ => fun
  | [d1, d2, d3] => { results := [.lit (.bool false)], args := [d1, d2, d3] }
  | _ => none }
def TopOthersWrongFalsely : Prop := topOthersRow.holds Try.pinned (OpenSpec.ofChange topOthersWrong)

/- THE SECOND FORM. 'bulk': how many values and letters a reading holds, each counted each time it is reached (what is shared counts as often as it is met; a slice's spare places count too). A statement '..UptoSaid' is the law's where the arguments, and the package variables that the reading takes, are together of bulk at most 1048576: NARROWER than '..Said'. Prove '..Said' where nothing that the law and all that it calls make is longer than what came in: it says more and counts as full. Else prove '..UptoSaid'. A law counts once. -/
mutual
def uptoBulk {H : Type} : DataW H → Nat
  | .lit (.string bytes) => bytes.length + 1
  | .lit _ => 1
  | .nil => 1
  | .ptr d => uptoBulk d + 1
  | .slice elems spare => uptoBulkAll elems + uptoBulkAll spare + 1
  | .agg parts => uptoBulkAll parts + 1
  | .iface _ d => uptoBulk d + 1
  | .map entries => uptoBulkEntries entries + 1
  | .held _ => 1
def uptoBulkAll {H : Type} : List (DataW H) → Nat
  | [] => 0
  | d :: r => uptoBulk d + uptoBulkAll r
def uptoBulkEntries {H : Type} : List (Lit × DataW H) → Nat
  | [] => 0
  | x :: r => uptoBulkEntry x + uptoBulkEntries r
def uptoBulkEntry {H : Type} : Lit × DataW H → Nat
  | (.string bytes, d) => bytes.length + uptoBulk d + 1
  | (_, d) => uptoBulk d + 1
 end
def uptoSmall : (H : Type) → List (DataW H) → Bool := fun _ ds => decide (uptoBulkAll ds ≤ 1048576)
def OpenSpec.upto (s : _root_.Go.ChangeSpec) : _root_.Go.OpenSpec := { _root_.Go.OpenSpec.ofChange s with cond := some uptoSmall }

/-- 'flickerbooklaw.ObjectsSays', WHERE WHAT IT READS IS OF BULK AT MOST 1048576: true; the input reads as it did. -/
def objectsSaysUptoRow : OpenClaim := { program := "ytbddmpbifkgloaa", sum := "2537dfb97c0f3590499a70eb726d81a751e84f2b5e794c3b5f7668ca786d6108", func := "flickerbook/flickerbooklaw.ObjectsSays", spec := "objectsSays", inPlace := ["slices.overlaps[flickerbook/api.Object]"], unfollowed := true, recurses := true, apart := false, narrowed := true }
def ObjectsSaysUptoSaid : Prop := objectsSaysUptoRow.holds Try.pinned (OpenSpec.upto objectsSaysSpec)

/-- 'flickerbooktop.TopSeen', WHERE WHAT IT READS IS OF BULK AT MOST 1048576: true; the input reads as it did. -/
def topSeenUptoRow : OpenClaim := { program := "ytbddmpbifkgloaa", sum := "2537dfb97c0f3590499a70eb726d81a751e84f2b5e794c3b5f7668ca786d6108", func := "flickerbook/flickerbooktop.TopSeen", spec := "topSeen", inPlace := ["slices.overlaps[flickerbook/api.Object]"], unfollowed := true, recurses := true, apart := false, narrowed := true }
def TopSeenUptoSaid : Prop := topSeenUptoRow.holds Try.pinned (OpenSpec.upto topSeenSpec)

/-- 'flickerbooktop.TopCopy', WHERE WHAT IT READS IS OF BULK AT MOST 1048576: true; the input reads as it did. -/
def topCopyUptoRow : OpenClaim := { program := "ytbddmpbifkgloaa", sum := "2537dfb97c0f3590499a70eb726d81a751e84f2b5e794c3b5f7668ca786d6108", func := "flickerbook/flickerbooktop.TopCopy", spec := "topCopy", inPlace := ["slices.overlaps[flickerbook/api.Object]"], unfollowed := true, recurses := true, apart := false, narrowed := true }
def TopCopyUptoSaid : Prop := topCopyUptoRow.holds Try.pinned (OpenSpec.upto topCopySpec)

/-- 'flickerbooktop.TopOthers', WHERE WHAT IT READS IS OF BULK AT MOST 1048576: true; the input reads as it did. -/
def topOthersUptoRow : OpenClaim := { program := "ytbddmpbifkgloaa", sum := "2537dfb97c0f3590499a70eb726d81a751e84f2b5e794c3b5f7668ca786d6108", func := "flickerbook/flickerbooktop.TopOthers", spec := "topOthers", inPlace := ["slices.overlaps[flickerbook/api.Object]"], unfollowed := true, recurses := true, apart := false, narrowed := true }
def TopOthersUptoSaid : Prop := topOthersUptoRow.holds Try.pinned (OpenSpec.upto topOthersSpec)

end Rows
end Go.Proofs.Ytbddmpbifkgloaa
