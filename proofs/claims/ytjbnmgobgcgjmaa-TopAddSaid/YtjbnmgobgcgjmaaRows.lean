/-
  No cell of these rows narrows 'for every input' (looked for: loops, veiled, ifaces, maps, wideKeys, modest, calm, conditions, laid).
  DERIVED. THE GIVEN ROWS OF THIS SEAT. 6 by the template 'for every input the law returns true; each argument reads behind the call as it read before'; 0 by the template 'total and deterministic' (their statements: YtjbnmgobgcgjmaaTotals.lean).
  GIVEN WITH THE SEED: the statements are not yours to turn. If you find one false, say at which input.
  Laid BY PROGRAM, IN A SANDBOX (cutbox-rows.mjs): the forced cells as the released guide's own fill.sh prints them over the translation 30e02e26d2fbb3eb… (all of the seat's roots in one cut). By AI agents, Wed Nov 11 2026. No macro, syntax, notation, axiom, sorry.
-/
import Derived.Test.YtjbnmgobgcgjmaaChecked
import GoSem.Claim
import GoSem.ClaimJoined
import GoSem.ClaimMapViews
import Derived.JoinedTies
import Derived.KernelRfl
namespace Go.Proofs.Ytjbnmgobgcgjmaa
/- THE CELL 'sum', in the pinned program and in every row, IS THE sha256 OF THE DUMP (.gsa) THAT YtjbnmgobgcgjmaaProg.lean LOADS. Nothing in Lean hashes anything: it is a label: what it is worth is what the hold of that sum in a sandbox is worth. -/
noncomputable def Try.pinned : Pinned := { name := "ytjbnmgobgcgjmaa", sum := "30e02e26d2fbb3eb12be4eb22c1faa6d4d81f17ba3aad49e88e8d1a69a6b9dac", checked := Try.checked }
namespace Rows
def none {H : Type} : Left H := { results := [], args := [] }

/-- 'flickerbooklaw.BlendSays': WHATEVER THE INPUT: true; the input reads as it did. -/
def blendSaysSpec : ChangeSpec := { name := "blendSays", fn := fun _ => fun
  | [d1, d2, d3, d4, d5, d6, d7] => { results := [.lit (.bool true)], args := [d1, d2, d3, d4, d5, d6, d7] }
  | _ => none }
def blendSaysRow : OpenClaim := { program := "ytjbnmgobgcgjmaa", sum := "30e02e26d2fbb3eb12be4eb22c1faa6d4d81f17ba3aad49e88e8d1a69a6b9dac", func := "flickerbook/flickerbooklaw.BlendSays", spec := "blendSays", unfollowed := true, recurses := true, apart := false }
def BlendSaysSaid : Prop := blendSaysRow.holds Try.pinned (OpenSpec.ofChange blendSaysSpec)

/-- ITS FALSE NEIGHBOUR: 'it returns false'. Refute it at one input. -/
def blendSaysWrong : ChangeSpec := { name := "blendSays", fn := fun _ => fun
  | [d1, d2, d3, d4, d5, d6, d7] => { results := [.lit (.bool false)], args := [d1, d2, d3, d4, d5, d6, d7] }
  | _ => none }
def BlendSaysWrongFalsely : Prop := blendSaysRow.holds Try.pinned (OpenSpec.ofChange blendSaysWrong)

/-- 'flickerbooktop.TopAdd': WHATEVER THE INPUT: true; the input reads as it did. -/
def topAddSpec : ChangeSpec := { name := "topAdd", fn := fun _ => fun
  | [d1, d2, d3, d4, d5, d6, d7] => { results := [.lit (.bool true)], args := [d1, d2, d3, d4, d5, d6, d7] }
  | _ => none }
def topAddRow : OpenClaim := { program := "ytjbnmgobgcgjmaa", sum := "30e02e26d2fbb3eb12be4eb22c1faa6d4d81f17ba3aad49e88e8d1a69a6b9dac", func := "flickerbook/flickerbooktop.TopAdd", spec := "topAdd", unfollowed := true, recurses := true, apart := false }
def TopAddSaid : Prop := topAddRow.holds Try.pinned (OpenSpec.ofChange topAddSpec)

/-- ITS FALSE NEIGHBOUR: 'it returns false'. Refute it at one input. -/
def topAddWrong : ChangeSpec := { name := "topAdd", fn := fun _ => fun
  | [d1, d2, d3, d4, d5, d6, d7] => { results := [.lit (.bool false)], args := [d1, d2, d3, d4, d5, d6, d7] }
  | _ => none }
def TopAddWrongFalsely : Prop := topAddRow.holds Try.pinned (OpenSpec.ofChange topAddWrong)

/-- 'flickerbooktop.TopLay': WHATEVER THE INPUT: true; the input reads as it did. -/
def topLaySpec : ChangeSpec := { name := "topLay", fn := fun _ => fun
  | [d1, d2] => { results := [.lit (.bool true)], args := [d1, d2] }
  | _ => none }
def topLayRow : OpenClaim := { program := "ytjbnmgobgcgjmaa", sum := "30e02e26d2fbb3eb12be4eb22c1faa6d4d81f17ba3aad49e88e8d1a69a6b9dac", func := "flickerbook/flickerbooktop.TopLay", spec := "topLay", apart := false }
def TopLaySaid : Prop := topLayRow.holds Try.pinned (OpenSpec.ofChange topLaySpec)

/-- ITS FALSE NEIGHBOUR: 'it returns false'. Refute it at one input. -/
def topLayWrong : ChangeSpec := { name := "topLay", fn := fun _ => fun
  | [d1, d2] => { results := [.lit (.bool false)], args := [d1, d2] }
  | _ => none }
def TopLayWrongFalsely : Prop := topLayRow.holds Try.pinned (OpenSpec.ofChange topLayWrong)

/-- 'flickerbooklaw.PictureSays': WHATEVER THE INPUT: true; the input reads as it did. -/
def pictureSaysSpec : ChangeSpec := { name := "pictureSays", fn := fun _ => fun
  | [d1, d2] => { results := [.lit (.bool true)], args := [d1, d2] }
  | _ => none }
def pictureSaysRow : OpenClaim := { program := "ytjbnmgobgcgjmaa", sum := "30e02e26d2fbb3eb12be4eb22c1faa6d4d81f17ba3aad49e88e8d1a69a6b9dac", func := "flickerbook/flickerbooklaw.PictureSays", spec := "pictureSays", inPlace := ["internal/abi.NoEscape"], unfollowed := true, recurses := true, apart := false }
def PictureSaysSaid : Prop := pictureSaysRow.holds Try.pinned (OpenSpec.ofChange pictureSaysSpec)

/-- ITS FALSE NEIGHBOUR: 'it returns false'. Refute it at one input. -/
def pictureSaysWrong : ChangeSpec := { name := "pictureSays", fn := fun _ => fun
  | [d1, d2] => { results := [.lit (.bool false)], args := [d1, d2] }
  | _ => none }
def PictureSaysWrongFalsely : Prop := pictureSaysRow.holds Try.pinned (OpenSpec.ofChange pictureSaysWrong)

/-- 'flickerbooktop.TopPicture': WHATEVER THE INPUT: true; the input reads as it did. -/
def topPictureSpec : ChangeSpec := { name := "topPicture", fn := fun _ => fun
  | [d] => { results := [.lit (.bool true)], args := [d] }
  | _ => none }
def topPictureRow : OpenClaim := { program := "ytjbnmgobgcgjmaa", sum := "30e02e26d2fbb3eb12be4eb22c1faa6d4d81f17ba3aad49e88e8d1a69a6b9dac", func := "flickerbook/flickerbooktop.TopPicture", spec := "topPicture", inPlace := ["internal/abi.NoEscape"], unfollowed := true, recurses := true, apart := false }
def TopPictureSaid : Prop := topPictureRow.holds Try.pinned (OpenSpec.ofChange topPictureSpec)

/-- ITS FALSE NEIGHBOUR: 'it returns false'. Refute it at one input. -/
def topPictureWrong : ChangeSpec := { name := "topPicture", fn := fun _ => fun
  | [d] => { results := [.lit (.bool false)], args := [d] }
  | _ => none }
def TopPictureWrongFalsely : Prop := topPictureRow.holds Try.pinned (OpenSpec.ofChange topPictureWrong)

/-- 'flickerbooktop.TopSame': WHATEVER THE INPUT: true; the input reads as it did. -/
def topSameSpec : ChangeSpec := { name := "topSame", fn := fun _ => fun
  | [d1, d2] => { results := [.lit (.bool true)], args := [d1, d2] }
  | _ => none }
def topSameRow : OpenClaim := { program := "ytjbnmgobgcgjmaa", sum := "30e02e26d2fbb3eb12be4eb22c1faa6d4d81f17ba3aad49e88e8d1a69a6b9dac", func := "flickerbook/flickerbooktop.TopSame", spec := "topSame", inPlace := ["internal/abi.NoEscape"], unfollowed := true, recurses := true, apart := false }
def TopSameSaid : Prop := topSameRow.holds Try.pinned (OpenSpec.ofChange topSameSpec)

/-- ITS FALSE NEIGHBOUR: 'it returns false'. Refute it at one input. -/
def topSameWrong : ChangeSpec := { name := "topSame", fn := fun _ => fun
  | [d1, d2] => { results := [.lit (.bool false)], args := [d1, d2] }
  | _ => none }
def TopSameWrongFalsely : Prop := topSameRow.holds Try.pinned (OpenSpec.ofChange topSameWrong)

/- THE SECOND FORM. 'bulk': how many values and letters a reading holds, each counted each time it is reached (what is shared counts as often as it is met; a slice's spare places count too). A statement '..UptoSaid' is the law's where the arguments, and the package variables that the reading takes, are together of bulk at most 1048576: NARROWER than '..Said'. Prove '..Said' where nothing that the law and all that it calls make is longer than what came in: it says more and counts as full. Else prove '..UptoSaid'. A law counts once. -/
mutual
def uptoBulk {H : Type} : DataW H → Nat
  | .lit (.string bytes) => bytes.length + 1
  | .lit _ => 1
  | .nil => 1
  | .ptr d => uptoBulk d + 1
  | .slice elems spare => uptoBulkAll elems + uptoBulkAll spare + 1
  | .agg parts => uptoBulkAll parts + 1
  | .iface _ d => uptoBulk d + 1
  | .map entries => uptoBulkEntries entries + 1
  | .held _ => 1
def uptoBulkAll {H : Type} : List (DataW H) → Nat
  | [] => 0
  | d :: r => uptoBulk d + uptoBulkAll r
def uptoBulkEntries {H : Type} : List (Lit × DataW H) → Nat
  | [] => 0
  | x :: r => uptoBulkEntry x + uptoBulkEntries r
def uptoBulkEntry {H : Type} : Lit × DataW H → Nat
  | (.string bytes, d) => bytes.length + uptoBulk d + 1
  | (_, d) => uptoBulk d + 1
 end
def uptoSmall : (H : Type) → List (DataW H) → Bool := fun _ ds => decide (uptoBulkAll ds ≤ 1048576)
def OpenSpec.upto (s : _root_.Go.ChangeSpec) : _root_.Go.OpenSpec := { _root_.Go.OpenSpec.ofChange s with cond := some uptoSmall }

/-- 'flickerbooklaw.BlendSays', WHERE WHAT IT READS IS OF BULK AT MOST 1048576: true; the input reads as it did. -/
def blendSaysUptoRow : OpenClaim := { program := "ytjbnmgobgcgjmaa", sum := "30e02e26d2fbb3eb12be4eb22c1faa6d4d81f17ba3aad49e88e8d1a69a6b9dac", func := "flickerbook/flickerbooklaw.BlendSays", spec := "blendSays", unfollowed := true, recurses := true, apart := false, narrowed := true }
def BlendSaysUptoSaid : Prop := blendSaysUptoRow.holds Try.pinned (OpenSpec.upto blendSaysSpec)

/-- 'flickerbooktop.TopAdd', WHERE WHAT IT READS IS OF BULK AT MOST 1048576: true; the input reads as it did. -/
def topAddUptoRow : OpenClaim := { program := "ytjbnmgobgcgjmaa", sum := "30e02e26d2fbb3eb12be4eb22c1faa6d4d81f17ba3aad49e88e8d1a69a6b9dac", func := "flickerbook/flickerbooktop.TopAdd", spec := "topAdd", unfollowed := true, recurses := true, apart := false, narrowed := true }
def TopAddUptoSaid : Prop := topAddUptoRow.holds Try.pinned (OpenSpec.upto topAddSpec)

/-- 'flickerbooktop.TopLay', WHERE WHAT IT READS IS OF BULK AT MOST 1048576: true; the input reads as it did. -/
def topLayUptoRow : OpenClaim := { program := "ytjbnmgobgcgjmaa", sum := "30e02e26d2fbb3eb12be4eb22c1faa6d4d81f17ba3aad49e88e8d1a69a6b9dac", func := "flickerbook/flickerbooktop.TopLay", spec := "topLay", apart := false, narrowed := true }
def TopLayUptoSaid : Prop := topLayUptoRow.holds Try.pinned (OpenSpec.upto topLaySpec)

/-- 'flickerbooklaw.PictureSays', WHERE WHAT IT READS IS OF BULK AT MOST 1048576: true; the input reads as it did. -/
def pictureSaysUptoRow : OpenClaim := { program := "ytjbnmgobgcgjmaa", sum := "30e02e26d2fbb3eb12be4eb22c1faa6d4d81f17ba3aad49e88e8d1a69a6b9dac", func := "flickerbook/flickerbooklaw.PictureSays", spec := "pictureSays", inPlace := ["internal/abi.NoEscape"], unfollowed := true, recurses := true, apart := false, narrowed := true }
def PictureSaysUptoSaid : Prop := pictureSaysUptoRow.holds Try.pinned (OpenSpec.upto pictureSaysSpec)

/-- 'flickerbooktop.TopPicture', WHERE WHAT IT READS IS OF BULK AT MOST 1048576: true; the input reads as it did. -/
def topPictureUptoRow : OpenClaim := { program := "ytjbnmgobgcgjmaa", sum := "30e02e26d2fbb3eb12be4eb22c1faa6d4d81f17ba3aad49e88e8d1a69a6b9dac", func := "flickerbook/flickerbooktop.TopPicture", spec := "topPicture", inPlace := ["internal/abi.NoEscape"], unfollowed := true, recurses := true, apart := false, narrowed := true }
def TopPictureUptoSaid : Prop := topPictureUptoRow.holds Try.pinned (OpenSpec.upto topPictureSpec)

/-- 'flickerbooktop.TopSame', WHERE WHAT IT READS IS OF BULK AT MOST 1048576: true; the input reads as it did. -/
def topSameUptoRow : OpenClaim := { program := "ytjbnmgobgcgjmaa", sum := "30e02e26d2fbb3eb12be4eb22c1faa6d4d81f17ba3aad49e88e8d1a69a6b9dac", func := "flickerbook/flickerbooktop.TopSame", spec := "topSame", inPlace := ["internal/abi.NoEscape"], unfollowed := true, recurses := true, apart := false, narrowed := true }
def TopSameUptoSaid : Prop := topSameUptoRow.holds Try.pinned (OpenSpec.upto topSameSpec)

end Rows
end Go.Proofs.Ytjbnmgobgcgjmaa
