/-
  No cell of these rows narrows 'for every input' (looked for: loops, veiled, ifaces, maps, wideKeys, modest, calm, conditions, laid).
  DERIVED. THE GIVEN ROWS OF THIS SEAT. 11 by the template 'for every input the law returns true; each argument reads behind the call as it read before'; 0 by the template 'total and deterministic' (their statements: YtgkemeclpidmcaaTotals.lean).
  GIVEN WITH THE SEED: the statements are not yours to turn. If you find one false, say at which input.
  Laid BY PROGRAM, IN A SANDBOX (cutbox-rows.mjs): the forced cells as the released guide's own fill.sh prints them over the translation c3016357357d5035… (all of the seat's roots in one cut). By AI agents, Wed Nov 11 2026. No macro, syntax, notation, axiom, sorry.
-/
import Derived.Test.YtgkemeclpidmcaaChecked
import GoSem.Claim
import GoSem.ClaimJoined
import GoSem.ClaimMapViews
import Derived.JoinedTies
import Derived.KernelRfl
namespace Go.Proofs.Ytgkemeclpidmcaa
/- THE CELL 'sum', in the pinned program and in every row, IS THE sha256 OF THE DUMP (.gsa) THAT YtgkemeclpidmcaaProg.lean LOADS. Nothing in Lean hashes anything: it is a label: what it is worth is what the hold of that sum in a sandbox is worth. -/
noncomputable def Try.pinned : Pinned := { name := "ytgkemeclpidmcaa", sum := "c3016357357d5035cb556da57b652ad253b84983c874095f2a8bcc67f3f013d2", checked := Try.checked }
namespace Rows
def none {H : Type} : Left H := { results := [], args := [] }

/-- 'flickerbooklaw.MachineSays': WHATEVER THE INPUT: true; the input reads as it did. -/
def machineSaysSpec : ChangeSpec := { name := "machineSays", fn := fun _ => fun
  | [d1, d2] => { results := [.lit (.bool true)], args := [d1, d2] }
  | _ => none }
def machineSaysRow : OpenClaim := { program := "ytgkemeclpidmcaa", sum := "c3016357357d5035cb556da57b652ad253b84983c874095f2a8bcc67f3f013d2", func := "flickerbook/flickerbooklaw.MachineSays", spec := "machineSays", inPlace := ["slices.overlaps[flickerbook/api.Object]"], unfollowed := true, recurses := true, apart := false }
def MachineSaysSaid : Prop := machineSaysRow.holds Try.pinned (OpenSpec.ofChange machineSaysSpec)

/-- ITS FALSE NEIGHBOUR: 'it returns false'. Refute it at one input. -/
def machineSaysWrong : ChangeSpec := { name := "machineSays", fn := fun _ => fun
  | [d1, d2] => { results := [.lit (.bool false)], args := [d1, d2] }
  | _ => none }
def MachineSaysWrongFalsely : Prop := machineSaysRow.holds Try.pinned (OpenSpec.ofChange machineSaysWrong)

/-- 'flickerbooktop.TopFuel': WHATEVER THE INPUT: true; the input reads as it did. -/
def topFuelSpec : ChangeSpec := { name := "topFuel", fn := fun _ => fun
  | [d1, d2, d3] => { results := [.lit (.bool true)], args := [d1, d2, d3] }
  | _ => none }
def topFuelRow : OpenClaim := { program := "ytgkemeclpidmcaa", sum := "c3016357357d5035cb556da57b652ad253b84983c874095f2a8bcc67f3f013d2", func := "flickerbook/flickerbooktop.TopFuel", spec := "topFuel", inPlace := ["slices.overlaps[flickerbook/api.Object]"], unfollowed := true, recurses := true, apart := false }
def TopFuelSaid : Prop := topFuelRow.holds Try.pinned (OpenSpec.ofChange topFuelSpec)

/-- ITS FALSE NEIGHBOUR: 'it returns false'. Refute it at one input. -/
def topFuelWrong : ChangeSpec := { name := "topFuel", fn := fun _ => fun
  | [d1, d2, d3] => { results := [.lit (.bool false)], args := [d1, d2, d3] }
  | _ => none }
def TopFuelWrongFalsely : Prop := topFuelRow.holds Try.pinned (OpenSpec.ofChange topFuelWrong)

/-- 'flickerbooktop.TopLoop': WHATEVER THE INPUT: true; the input reads as it did. -/
def topLoopSpec : ChangeSpec := { name := "topLoop", fn := fun _ => fun
  | [d1, d2, d3, d4] => { results := [.lit (.bool true)], args := [d1, d2, d3, d4] }
  | _ => none }
def topLoopRow : OpenClaim := { program := "ytgkemeclpidmcaa", sum := "c3016357357d5035cb556da57b652ad253b84983c874095f2a8bcc67f3f013d2", func := "flickerbook/flickerbooktop.TopLoop", spec := "topLoop", inPlace := ["slices.overlaps[flickerbook/api.Object]"], unfollowed := true, recurses := true, apart := false }
def TopLoopSaid : Prop := topLoopRow.holds Try.pinned (OpenSpec.ofChange topLoopSpec)

/-- ITS FALSE NEIGHBOUR: 'it returns false'. Refute it at one input. -/
def topLoopWrong : ChangeSpec := { name := "topLoop", fn := fun _ => fun
  | [d1, d2, d3, d4] => { results := [.lit (.bool false)], args := [d1, d2, d3, d4] }
  | _ => none }
def TopLoopWrongFalsely : Prop := topLoopRow.holds Try.pinned (OpenSpec.ofChange topLoopWrong)

/-- 'flickerbooktop.TopStill': WHATEVER THE INPUT: true; the input reads as it did. -/
def topStillSpec : ChangeSpec := { name := "topStill", fn := fun _ => fun
  | [d1, d2, d3] => { results := [.lit (.bool true)], args := [d1, d2, d3] }
  | _ => none }
def topStillRow : OpenClaim := { program := "ytgkemeclpidmcaa", sum := "c3016357357d5035cb556da57b652ad253b84983c874095f2a8bcc67f3f013d2", func := "flickerbook/flickerbooktop.TopStill", spec := "topStill", inPlace := ["slices.overlaps[flickerbook/api.Object]"], unfollowed := true, recurses := true, apart := false }
def TopStillSaid : Prop := topStillRow.holds Try.pinned (OpenSpec.ofChange topStillSpec)

/-- ITS FALSE NEIGHBOUR: 'it returns false'. Refute it at one input. -/
def topStillWrong : ChangeSpec := { name := "topStill", fn := fun _ => fun
  | [d1, d2, d3] => { results := [.lit (.bool false)], args := [d1, d2, d3] }
  | _ => none }
def TopStillWrongFalsely : Prop := topStillRow.holds Try.pinned (OpenSpec.ofChange topStillWrong)

/-- 'flickerbooktop.TopAway': WHATEVER THE INPUT: true; the input reads as it did. -/
def topAwaySpec : ChangeSpec := { name := "topAway", fn := fun _ => fun
  | [d1, d2] => { results := [.lit (.bool true)], args := [d1, d2] }
  | _ => none }
def topAwayRow : OpenClaim := { program := "ytgkemeclpidmcaa", sum := "c3016357357d5035cb556da57b652ad253b84983c874095f2a8bcc67f3f013d2", func := "flickerbook/flickerbooktop.TopAway", spec := "topAway", inPlace := ["slices.overlaps[flickerbook/api.Object]"], unfollowed := true, recurses := true, apart := false }
def TopAwaySaid : Prop := topAwayRow.holds Try.pinned (OpenSpec.ofChange topAwaySpec)

/-- ITS FALSE NEIGHBOUR: 'it returns false'. Refute it at one input. -/
def topAwayWrong : ChangeSpec := { name := "topAway", fn := fun _ => fun
  | [d1, d2] => { results := [.lit (.bool false)], args := [d1, d2] }
  | _ => none }
def TopAwayWrongFalsely : Prop := topAwayRow.holds Try.pinned (OpenSpec.ofChange topAwayWrong)

/-- 'flickerbooktop.TopMove': WHATEVER THE INPUT: true; the input reads as it did. -/
def topMoveSpec : ChangeSpec := { name := "topMove", fn := fun _ => fun
  | [d1, d2, d3, d4] => { results := [.lit (.bool true)], args := [d1, d2, d3, d4] }
  | _ => none }
def topMoveRow : OpenClaim := { program := "ytgkemeclpidmcaa", sum := "c3016357357d5035cb556da57b652ad253b84983c874095f2a8bcc67f3f013d2", func := "flickerbook/flickerbooktop.TopMove", spec := "topMove", inPlace := ["slices.overlaps[flickerbook/api.Object]"], unfollowed := true, recurses := true, apart := false }
def TopMoveSaid : Prop := topMoveRow.holds Try.pinned (OpenSpec.ofChange topMoveSpec)

/-- ITS FALSE NEIGHBOUR: 'it returns false'. Refute it at one input. -/
def topMoveWrong : ChangeSpec := { name := "topMove", fn := fun _ => fun
  | [d1, d2, d3, d4] => { results := [.lit (.bool false)], args := [d1, d2, d3, d4] }
  | _ => none }
def TopMoveWrongFalsely : Prop := topMoveRow.holds Try.pinned (OpenSpec.ofChange topMoveWrong)

/-- 'flickerbooktop.TopClose': WHATEVER THE INPUT: true; the input reads as it did. -/
def topCloseSpec : ChangeSpec := { name := "topClose", fn := fun _ => fun
  | [d] => { results := [.lit (.bool true)], args := [d] }
  | _ => none }
def topCloseRow : OpenClaim := { program := "ytgkemeclpidmcaa", sum := "c3016357357d5035cb556da57b652ad253b84983c874095f2a8bcc67f3f013d2", func := "flickerbook/flickerbooktop.TopClose", spec := "topClose", inPlace := ["slices.overlaps[flickerbook/api.Object]"], unfollowed := true, recurses := true, apart := false }
def TopCloseSaid : Prop := topCloseRow.holds Try.pinned (OpenSpec.ofChange topCloseSpec)

/-- ITS FALSE NEIGHBOUR: 'it returns false'. Refute it at one input. -/
def topCloseWrong : ChangeSpec := { name := "topClose", fn := fun _ => fun
  | [d] => { results := [.lit (.bool false)], args := [d] }
  | _ => none }
def TopCloseWrongFalsely : Prop := topCloseRow.holds Try.pinned (OpenSpec.ofChange topCloseWrong)

/-- 'flickerbooktop.TopBack': WHATEVER THE INPUT: true; the input reads as it did. -/
def topBackSpec : ChangeSpec := { name := "topBack", fn := fun _ => fun
  | [d1, d2, d3] => { results := [.lit (.bool true)], args := [d1, d2, d3] }
  | _ => none }
def topBackRow : OpenClaim := { program := "ytgkemeclpidmcaa", sum := "c3016357357d5035cb556da57b652ad253b84983c874095f2a8bcc67f3f013d2", func := "flickerbook/flickerbooktop.TopBack", spec := "topBack", inPlace := ["slices.overlaps[flickerbook/api.Object]"], unfollowed := true, recurses := true, apart := false }
def TopBackSaid : Prop := topBackRow.holds Try.pinned (OpenSpec.ofChange topBackSpec)

/-- ITS FALSE NEIGHBOUR: 'it returns false'. Refute it at one input. -/
def topBackWrong : ChangeSpec := { name := "topBack", fn := fun _ => fun
  | [d1, d2, d3] => { results := [.lit (.bool false)], args := [d1, d2, d3] }
  | _ => none }
def TopBackWrongFalsely : Prop := topBackRow.holds Try.pinned (OpenSpec.ofChange topBackWrong)

/-- 'flickerbooktop.TopNest': WHATEVER THE INPUT: true; the input reads as it did. -/
def topNestSpec : ChangeSpec := { name := "topNest", fn := fun _ => fun
  | [d1, d2, d3] => { results := [.lit (.bool true)], args := [d1, d2, d3] }
  | _ => none }
def topNestRow : OpenClaim := { program := "ytgkemeclpidmcaa", sum := "c3016357357d5035cb556da57b652ad253b84983c874095f2a8bcc67f3f013d2", func := "flickerbook/flickerbooktop.TopNest", spec := "topNest", inPlace := ["slices.overlaps[flickerbook/api.Object]"], unfollowed := true, recurses := true, apart := false }
def TopNestSaid : Prop := topNestRow.holds Try.pinned (OpenSpec.ofChange topNestSpec)

/-- ITS FALSE NEIGHBOUR: 'it returns false'. Refute it at one input. -/
def topNestWrong : ChangeSpec := { name := "topNest", fn := fun _ => fun
  | [d1, d2, d3] => { results := [.lit (.bool false)], args := [d1, d2, d3] }
  | _ => none }
def TopNestWrongFalsely : Prop := topNestRow.holds Try.pinned (OpenSpec.ofChange topNestWrong)

/-- 'flickerbooktop.TopKept': WHATEVER THE INPUT: true; the input reads as it did. -/
def topKeptSpec : ChangeSpec := { name := "topKept", fn := fun _ => fun
  | [d1, d2] => { results := [.lit (.bool true)], args := [d1, d2] }
  | _ => none }
def topKeptRow : OpenClaim := { program := "ytgkemeclpidmcaa", sum := "c3016357357d5035cb556da57b652ad253b84983c874095f2a8bcc67f3f013d2", func := "flickerbook/flickerbooktop.TopKept", spec := "topKept", inPlace := ["slices.overlaps[flickerbook/api.Object]"], unfollowed := true, recurses := true, apart := false }
def TopKeptSaid : Prop := topKeptRow.holds Try.pinned (OpenSpec.ofChange topKeptSpec)

/-- ITS FALSE NEIGHBOUR: 'it returns false'. Refute it at one input. -/
def topKeptWrong : ChangeSpec := { name := "topKept", fn := fun _ => fun
  | [d1, d2] => { results := [.lit (.bool false)], args := [d1, d2] }
  | _ => none }
def TopKeptWrongFalsely : Prop := topKeptRow.holds Try.pinned (OpenSpec.ofChange topKeptWrong)

/-- 'flickerbooktop.TopFrames': WHATEVER THE INPUT: true; the input reads as it did. -/
def topFramesSpec : ChangeSpec := { name := "topFrames", fn := fun _ => fun
  | [d] => { results := [.lit (.bool true)], args := [d] }
  | _ => none }
def topFramesRow : OpenClaim := { program := "ytgkemeclpidmcaa", sum := "c3016357357d5035cb556da57b652ad253b84983c874095f2a8bcc67f3f013d2", func := "flickerbook/flickerbooktop.TopFrames", spec := "topFrames", inPlace := ["slices.overlaps[flickerbook/api.Object]"], unfollowed := true, recurses := true, apart := false }
def TopFramesSaid : Prop := topFramesRow.holds Try.pinned (OpenSpec.ofChange topFramesSpec)

/-- ITS FALSE NEIGHBOUR: 'it returns false'. Refute it at one input. -/
def topFramesWrong : ChangeSpec := { name := "topFrames", fn := fun _ => fun
  | [d] => { results := [.lit (.bool false)], args := [d] }
  | _ => none }
def TopFramesWrongFalsely : Prop := topFramesRow.holds Try.pinned (OpenSpec.ofChange topFramesWrong)

/- THE SECOND FORM. 'bulk': how many values and letters a reading holds, each counted each time it is reached (what is shared counts as often as it is met; a slice's spare places count too). A statement '..UptoSaid' is the law's where the arguments, and the package variables that the reading takes, are together of bulk at most 1048576: NARROWER than '..Said'. Prove '..Said' where nothing that the law and all that it calls make is longer than what came in: it says more and counts as full. Else prove '..UptoSaid'. A law counts once. -/
mutual
def uptoBulk {H : Type} : DataW H → Nat
  | .lit (.string bytes) => bytes.length + 1
  | .lit _ => 1
  | .nil => 1
  | .ptr d => uptoBulk d + 1
  | .slice elems spare => uptoBulkAll elems + uptoBulkAll spare + 1
  | .agg parts => uptoBulkAll parts + 1
  | .iface _ d => uptoBulk d + 1
  | .map entries => uptoBulkEntries entries + 1
  | .held _ => 1
def uptoBulkAll {H : Type} : List (DataW H) → Nat
  | [] => 0
  | d :: r => uptoBulk d + uptoBulkAll r
def uptoBulkEntries {H : Type} : List (Lit × DataW H) → Nat
  | [] => 0
  | x :: r => uptoBulkEntry x + uptoBulkEntries r
def uptoBulkEntry {H : Type} : Lit × DataW H → Nat
  | (.string bytes, d) => bytes.length + uptoBulk d + 1
  | (_, d) => uptoBulk d + 1
 end
def uptoSmall : (H : Type) → List (DataW H) → Bool := fun _ ds => decide (uptoBulkAll ds ≤ 1048576)
def OpenSpec.upto (s : _root_.Go.ChangeSpec) : _root_.Go.OpenSpec := { _root_.Go.OpenSpec.ofChange s with cond := some uptoSmall }

/-- 'flickerbooklaw.MachineSays', WHERE WHAT IT READS IS OF BULK AT MOST 1048576: true; the input reads as it did. -/
def machineSaysUptoRow : OpenClaim := { program := "ytgkemeclpidmcaa", sum := "c3016357357d5035cb556da57b652ad253b84983c874095f2a8bcc67f3f013d2", func := "flickerbook/flickerbooklaw.MachineSays", spec := "machineSays", inPlace := ["slices.overlaps[flickerbook/api.Object]"], unfollowed := true, recurses := true, apart := false, narrowed := true }
def MachineSaysUptoSaid : Prop := machineSaysUptoRow.holds Try.pinned (OpenSpec.upto machineSaysSpec)

/-- 'flickerbooktop.TopFuel', WHERE WHAT IT READS IS OF BULK AT MOST 1048576: true; the input reads as it did. -/
def topFuelUptoRow : OpenClaim := { program := "ytgkemeclpidmcaa", sum := "c3016357357d5035cb556da57b652ad253b84983c874095f2a8bcc67f3f013d2", func := "flickerbook/flickerbooktop.TopFuel", spec := "topFuel", inPlace := ["slices.overlaps[flickerbook/api.Object]"], unfollowed := true, recurses := true, apart := false, narrowed := true }
def TopFuelUptoSaid : Prop := topFuelUptoRow.holds Try.pinned (OpenSpec.upto topFuelSpec)

/-- 'flickerbooktop.TopLoop', WHERE WHAT IT READS IS OF BULK AT MOST 1048576: true; the input reads as it did. -/
def topLoopUptoRow : OpenClaim := { program := "ytgkemeclpidmcaa", sum := "c3016357357d5035cb556da57b652ad253b84983c874095f2a8bcc67f3f013d2", func := "flickerbook/flickerbooktop.TopLoop", spec := "topLoop", inPlace := ["slices.overlaps[flickerbook/api.Object]"], unfollowed := true, recurses := true, apart := false, narrowed := true }
def TopLoopUptoSaid : Prop := topLoopUptoRow.holds Try.pinned (OpenSpec.upto topLoopSpec)

/-- 'flickerbooktop.TopStill', WHERE WHAT IT READS IS OF BULK AT MOST 1048576: true; the input reads as it did. -/
def topStillUptoRow : OpenClaim := { program := "ytgkemeclpidmcaa", sum := "c3016357357d5035cb556da57b652ad253b84983c874095f2a8bcc67f3f013d2", func := "flickerbook/flickerbooktop.TopStill", spec := "topStill", inPlace := ["slices.overlaps[flickerbook/api.Object]"], unfollowed := true, recurses := true, apart := false, narrowed := true }
def TopStillUptoSaid : Prop := topStillUptoRow.holds Try.pinned (OpenSpec.upto topStillSpec)

/-- 'flickerbooktop.TopAway', WHERE WHAT IT READS IS OF BULK AT MOST 1048576: true; the input reads as it did. -/
def topAwayUptoRow : OpenClaim := { program := "ytgkemeclpidmcaa", sum := "c3016357357d5035cb556da57b652ad253b84983c874095f2a8bcc67f3f013d2", func := "flickerbook/flickerbooktop.TopAway", spec := "topAway", inPlace := ["slices.overlaps[flickerbook/api.Object]"], unfollowed := true, recurses := true, apart := false, narrowed := true }
def TopAwayUptoSaid : Prop := topAwayUptoRow.holds Try.pinned (OpenSpec.upto topAwaySpec)

/-- 'flickerbooktop.TopMove', WHERE WHAT IT READS IS OF BULK AT MOST 1048576: true; the input reads as it did. -/
def topMoveUptoRow : OpenClaim := { program := "ytgkemeclpidmcaa", sum := "c3016357357d5035cb556da57b652ad253b84983c874095f2a8bcc67f3f013d2", func := "flickerbook/flickerbooktop.TopMove", spec := "topMove", inPlace := ["slices.overlaps[flickerbook/api.Object]"], unfollowed := true, recurses := true, apart := false, narrowed := true }
def TopMoveUptoSaid : Prop := topMoveUptoRow.holds Try.pinned (OpenSpec.upto topMoveSpec)

/-- 'flickerbooktop.TopClose', WHERE WHAT IT READS IS OF BULK AT MOST 1048576: true; the input reads as it did. -/
def topCloseUptoRow : OpenClaim := { program := "ytgkemeclpidmcaa", sum := "c3016357357d5035cb556da57b652ad253b84983c874095f2a8bcc67f3f013d2", func := "flickerbook/flickerbooktop.TopClose", spec := "topClose", inPlace := ["slices.overlaps[flickerbook/api.Object]"], unfollowed := true, recurses := true, apart := false, narrowed := true }
def TopCloseUptoSaid : Prop := topCloseUptoRow.holds Try.pinned (OpenSpec.upto topCloseSpec)

/-- 'flickerbooktop.TopBack', WHERE WHAT IT READS IS OF BULK AT MOST 1048576: true; the input reads as it did. -/
def topBackUptoRow : OpenClaim := { program := "ytgkemeclpidmcaa", sum := "c3016357357d5035cb556da57b652ad253b84983c874095f2a8bcc67f3f013d2", func := "flickerbook/flickerbooktop.TopBack", spec := "topBack", inPlace := ["slices.overlaps[flickerbook/api.Object]"], unfollowed := true, recurses := true, apart := false, narrowed := true }
def TopBackUptoSaid : Prop := topBackUptoRow.holds Try.pinned (OpenSpec.upto topBackSpec)

/-- 'flickerbooktop.TopNest', WHERE WHAT IT READS IS OF BULK AT MOST 1048576: true; the input reads as it did. -/
def topNestUptoRow : OpenClaim := { program := "ytgkemeclpidmcaa", sum := "c3016357357d5035cb556da57b652ad253b84983c874095f2a8bcc67f3f013d2", func := "flickerbook/flickerbooktop.TopNest", spec := "topNest", inPlace := ["slices.overlaps[flickerbook/api.Object]"], unfollowed := true, recurses := true, apart := false, narrowed := true }
def TopNestUptoSaid : Prop := topNestUptoRow.holds Try.pinned (OpenSpec.upto topNestSpec)

/-- 'flickerbooktop.TopKept', WHERE WHAT IT READS IS OF BULK AT MOST 1048576: true; the input reads as it did. -/
def topKeptUptoRow : OpenClaim := { program := "ytgkemeclpidmcaa", sum := "c3016357357d5035cb556da57b652ad253b84983c874095f2a8bcc67f3f013d2", func := "flickerbook/flickerbooktop.TopKept", spec := "topKept", inPlace := ["slices.overlaps[flickerbook/api.Object]"], unfollowed := true, recurses := true, apart := false, narrowed := true }
def TopKeptUptoSaid : Prop := topKeptUptoRow.holds Try.pinned (OpenSpec.upto topKeptSpec)

/-- 'flickerbooktop.TopFrames', WHERE WHAT IT READS IS OF BULK AT MOST 1048576: true; the input reads as it did. -/
def topFramesUptoRow : OpenClaim := { program := "ytgkemeclpidmcaa", sum := "c3016357357d5035cb556da57b652ad253b84983c874095f2a8bcc67f3f013d2", func := "flickerbook/flickerbooktop.TopFrames", spec := "topFrames", inPlace := ["slices.overlaps[flickerbook/api.Object]"], unfollowed := true, recurses := true, apart := false, narrowed := true }
def TopFramesUptoSaid : Prop := topFramesUptoRow.holds Try.pinned (OpenSpec.upto topFramesSpec)

end Rows
end Go.Proofs.Ytgkemeclpidmcaa
