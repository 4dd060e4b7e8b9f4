/-
  No cell of these rows narrows 'for every input' (looked for: loops, veiled, ifaces, maps, wideKeys, modest, calm, conditions, laid).
  DERIVED. THE GIVEN ROWS OF THIS SEAT. 32 by the template 'for every input the law returns true; each argument reads behind the call as it read before'; 0 by the template 'total and deterministic' (their statements: YtnelidgfbapcaaaTotals.lean).
  GIVEN WITH THE SEED: the statements are not yours to turn. If you find one false, say at which input.
  Laid BY PROGRAM, IN A SANDBOX (cutbox-rows.mjs): the forced cells as the released guide's own fill.sh prints them over the translation 7429a8742ca138af… (all of the seat's roots in one cut). By AI agents, Wed Nov 11 2026. No macro, syntax, notation, axiom, sorry.
-/
import Derived.Test.YtnelidgfbapcaaaChecked
import GoSem.Claim
import GoSem.ClaimJoined
import GoSem.ClaimMapViews
import Derived.JoinedTies
import Derived.KernelRfl
namespace Go.Proofs.Ytnelidgfbapcaaa
/- THE CELL 'sum', in the pinned program and in every row, IS THE sha256 OF THE DUMP (.gsa) THAT YtnelidgfbapcaaaProg.lean LOADS. Nothing in Lean hashes anything: it is a label: what it is worth is what the hold of that sum in a sandbox is worth. -/
noncomputable def Try.pinned : Pinned := { name := "ytnelidgfbapcaaa", sum := "7429a8742ca138af108d614e650f6f874c77679347a098701a717f6368a162be", checked := Try.checked }
namespace Rows
def none {H : Type} : Left H := { results := [], args := [] }

/-- 'flickerbooklaw.RectSays': WHATEVER THE INPUT: true; the input reads as it did. -/
def rectSaysSpec : ChangeSpec := { name := "rectSays", fn := fun _ => fun
  | [d1, d2, d3, d4] => { results := [.lit (.bool true)], args := [d1, d2, d3, d4] }
  | _ => none }
def rectSaysRow : OpenClaim := { program := "ytnelidgfbapcaaa", sum := "7429a8742ca138af108d614e650f6f874c77679347a098701a717f6368a162be", func := "flickerbook/flickerbooklaw.RectSays", spec := "rectSays", apart := false }
def RectSaysSaid : Prop := rectSaysRow.holds Try.pinned (OpenSpec.ofChange rectSaysSpec)

/-- ITS FALSE NEIGHBOUR: 'it returns false'. Refute it at one input. -/
def rectSaysWrong : ChangeSpec := { name := "rectSays", fn := fun _ => fun
  | [d1, d2, d3, d4] => { results := [.lit (.bool false)], args := [d1, d2, d3, d4] }
  | _ => none }
def RectSaysWrongFalsely : Prop := rectSaysRow.holds Try.pinned (OpenSpec.ofChange rectSaysWrong)

/-- 'flickerbooklaw.PackSays': WHATEVER THE INPUT: true; the input reads as it did. -/
def packSaysSpec : ChangeSpec := { name := "packSays", fn := fun _ => fun
  | [d1, d2, d3] => { results := [.lit (.bool true)], args := [d1, d2, d3] }
  | _ => none }
def packSaysRow : OpenClaim := { program := "ytnelidgfbapcaaa", sum := "7429a8742ca138af108d614e650f6f874c77679347a098701a717f6368a162be", func := "flickerbook/flickerbooklaw.PackSays", spec := "packSays", apart := false }
def PackSaysSaid : Prop := packSaysRow.holds Try.pinned (OpenSpec.ofChange packSaysSpec)

/-- ITS FALSE NEIGHBOUR: 'it returns false'. Refute it at one input. -/
def packSaysWrong : ChangeSpec := { name := "packSays", fn := fun _ => fun
  | [d1, d2, d3] => { results := [.lit (.bool false)], args := [d1, d2, d3] }
  | _ => none }
def PackSaysWrongFalsely : Prop := packSaysRow.holds Try.pinned (OpenSpec.ofChange packSaysWrong)

/-- 'flickerbooklaw.ReelSays': WHATEVER THE INPUT: true; the input reads as it did. -/
def reelSaysSpec : ChangeSpec := { name := "reelSays", fn := fun _ => fun
  | [d1, d2] => { results := [.lit (.bool true)], args := [d1, d2] }
  | _ => none }
def reelSaysRow : OpenClaim := { program := "ytnelidgfbapcaaa", sum := "7429a8742ca138af108d614e650f6f874c77679347a098701a717f6368a162be", func := "flickerbook/flickerbooklaw.ReelSays", spec := "reelSays", apart := false }
def ReelSaysSaid : Prop := reelSaysRow.holds Try.pinned (OpenSpec.ofChange reelSaysSpec)

/-- ITS FALSE NEIGHBOUR: 'it returns false'. Refute it at one input. -/
def reelSaysWrong : ChangeSpec := { name := "reelSays", fn := fun _ => fun
  | [d1, d2] => { results := [.lit (.bool false)], args := [d1, d2] }
  | _ => none }
def ReelSaysWrongFalsely : Prop := reelSaysRow.holds Try.pinned (OpenSpec.ofChange reelSaysWrong)

/-- 'flickerbooklaw.ChunkSays': WHATEVER THE INPUT: true; the input reads as it did. -/
def chunkSaysSpec : ChangeSpec := { name := "chunkSays", fn := fun _ => fun
  | [d1, d2, d3, d4] => { results := [.lit (.bool true)], args := [d1, d2, d3, d4] }
  | _ => none }
def chunkSaysRow : OpenClaim := { program := "ytnelidgfbapcaaa", sum := "7429a8742ca138af108d614e650f6f874c77679347a098701a717f6368a162be", func := "flickerbook/flickerbooklaw.ChunkSays", spec := "chunkSays", apart := false }
def ChunkSaysSaid : Prop := chunkSaysRow.holds Try.pinned (OpenSpec.ofChange chunkSaysSpec)

/-- ITS FALSE NEIGHBOUR: 'it returns false'. Refute it at one input. -/
def chunkSaysWrong : ChangeSpec := { name := "chunkSays", fn := fun _ => fun
  | [d1, d2, d3, d4] => { results := [.lit (.bool false)], args := [d1, d2, d3, d4] }
  | _ => none }
def ChunkSaysWrongFalsely : Prop := chunkSaysRow.holds Try.pinned (OpenSpec.ofChange chunkSaysWrong)

/-- 'flickerbooklaw.BlendSays': WHATEVER THE INPUT: true; the input reads as it did. -/
def blendSaysSpec : ChangeSpec := { name := "blendSays", fn := fun _ => fun
  | [d1, d2, d3, d4, d5, d6, d7] => { results := [.lit (.bool true)], args := [d1, d2, d3, d4, d5, d6, d7] }
  | _ => none }
def blendSaysRow : OpenClaim := { program := "ytnelidgfbapcaaa", sum := "7429a8742ca138af108d614e650f6f874c77679347a098701a717f6368a162be", func := "flickerbook/flickerbooklaw.BlendSays", spec := "blendSays", unfollowed := true, recurses := true, apart := false }
def BlendSaysSaid : Prop := blendSaysRow.holds Try.pinned (OpenSpec.ofChange blendSaysSpec)

/-- ITS FALSE NEIGHBOUR: 'it returns false'. Refute it at one input. -/
def blendSaysWrong : ChangeSpec := { name := "blendSays", fn := fun _ => fun
  | [d1, d2, d3, d4, d5, d6, d7] => { results := [.lit (.bool false)], args := [d1, d2, d3, d4, d5, d6, d7] }
  | _ => none }
def BlendSaysWrongFalsely : Prop := blendSaysRow.holds Try.pinned (OpenSpec.ofChange blendSaysWrong)

/-- 'flickerbooklaw.PictureSays': WHATEVER THE INPUT: true; the input reads as it did. -/
def pictureSaysSpec : ChangeSpec := { name := "pictureSays", fn := fun _ => fun
  | [d1, d2] => { results := [.lit (.bool true)], args := [d1, d2] }
  | _ => none }
def pictureSaysRow : OpenClaim := { program := "ytnelidgfbapcaaa", sum := "7429a8742ca138af108d614e650f6f874c77679347a098701a717f6368a162be", func := "flickerbook/flickerbooklaw.PictureSays", spec := "pictureSays", inPlace := ["internal/abi.NoEscape"], unfollowed := true, recurses := true, apart := false }
def PictureSaysSaid : Prop := pictureSaysRow.holds Try.pinned (OpenSpec.ofChange pictureSaysSpec)

/-- ITS FALSE NEIGHBOUR: 'it returns false'. Refute it at one input. -/
def pictureSaysWrong : ChangeSpec := { name := "pictureSays", fn := fun _ => fun
  | [d1, d2] => { results := [.lit (.bool false)], args := [d1, d2] }
  | _ => none }
def PictureSaysWrongFalsely : Prop := pictureSaysRow.holds Try.pinned (OpenSpec.ofChange pictureSaysWrong)

/-- 'flickerbooklaw.ObjectsSays': WHATEVER THE INPUT: true; the input reads as it did. -/
def objectsSaysSpec : ChangeSpec := { name := "objectsSays", fn := fun _ => fun
  | [d1, d2, d3, d4, d5, d6] => { results := [.lit (.bool true)], args := [d1, d2, d3, d4, d5, d6] }
  | _ => none }
def objectsSaysRow : OpenClaim := { program := "ytnelidgfbapcaaa", sum := "7429a8742ca138af108d614e650f6f874c77679347a098701a717f6368a162be", func := "flickerbook/flickerbooklaw.ObjectsSays", spec := "objectsSays", inPlace := ["slices.overlaps[flickerbook/api.Object]"], unfollowed := true, recurses := true, apart := false }
def ObjectsSaysSaid : Prop := objectsSaysRow.holds Try.pinned (OpenSpec.ofChange objectsSaysSpec)

/-- ITS FALSE NEIGHBOUR: 'it returns false'. Refute it at one input. -/
def objectsSaysWrong : ChangeSpec := { name := "objectsSays", fn := fun _ => fun
  | [d1, d2, d3, d4, d5, d6] => { results := [.lit (.bool false)], args := [d1, d2, d3, d4, d5, d6] }
  | _ => none }
def ObjectsSaysWrongFalsely : Prop := objectsSaysRow.holds Try.pinned (OpenSpec.ofChange objectsSaysWrong)

/-- 'flickerbooktop.TopOver': WHATEVER THE INPUT: true; the input reads as it did. -/
def topOverSpec : ChangeSpec := { name := "topOver", fn := fun _ => fun
  | [d1, d2] => { results := [.lit (.bool true)], args := [d1, d2] }
  | _ => none }
def topOverRow : OpenClaim := { program := "ytnelidgfbapcaaa", sum := "7429a8742ca138af108d614e650f6f874c77679347a098701a717f6368a162be", func := "flickerbook/flickerbooktop.TopOver", spec := "topOver", apart := false }
def TopOverSaid : Prop := topOverRow.holds Try.pinned (OpenSpec.ofChange topOverSpec)

/-- ITS FALSE NEIGHBOUR: 'it returns false'. Refute it at one input. -/
def topOverWrong : ChangeSpec := { name := "topOver", fn := fun _ => fun
  | [d1, d2] => { results := [.lit (.bool false)], args := [d1, d2] }
  | _ => none }
def TopOverWrongFalsely : Prop := topOverRow.holds Try.pinned (OpenSpec.ofChange topOverWrong)

/-- 'flickerbooklaw.MachineSays': WHATEVER THE INPUT: true; the input reads as it did. -/
def machineSaysSpec : ChangeSpec := { name := "machineSays", fn := fun _ => fun
  | [d1, d2] => { results := [.lit (.bool true)], args := [d1, d2] }
  | _ => none }
def machineSaysRow : OpenClaim := { program := "ytnelidgfbapcaaa", sum := "7429a8742ca138af108d614e650f6f874c77679347a098701a717f6368a162be", func := "flickerbook/flickerbooklaw.MachineSays", spec := "machineSays", inPlace := ["slices.overlaps[flickerbook/api.Object]"], unfollowed := true, recurses := true, apart := false }
def MachineSaysSaid : Prop := machineSaysRow.holds Try.pinned (OpenSpec.ofChange machineSaysSpec)

/-- ITS FALSE NEIGHBOUR: 'it returns false'. Refute it at one input. -/
def machineSaysWrong : ChangeSpec := { name := "machineSays", fn := fun _ => fun
  | [d1, d2] => { results := [.lit (.bool false)], args := [d1, d2] }
  | _ => none }
def MachineSaysWrongFalsely : Prop := machineSaysRow.holds Try.pinned (OpenSpec.ofChange machineSaysWrong)

/-- 'flickerbooktop.TopRect': WHATEVER THE INPUT: true; the input reads as it did. -/
def topRectSpec : ChangeSpec := { name := "topRect", fn := fun _ => fun
  | [d1, d2, d3, d4] => { results := [.lit (.bool true)], args := [d1, d2, d3, d4] }
  | _ => none }
def topRectRow : OpenClaim := { program := "ytnelidgfbapcaaa", sum := "7429a8742ca138af108d614e650f6f874c77679347a098701a717f6368a162be", func := "flickerbook/flickerbooktop.TopRect", spec := "topRect", apart := false }
def TopRectSaid : Prop := topRectRow.holds Try.pinned (OpenSpec.ofChange topRectSpec)

/-- ITS FALSE NEIGHBOUR: 'it returns false'. Refute it at one input. -/
def topRectWrong : ChangeSpec := { name := "topRect", fn := fun _ => fun
  | [d1, d2, d3, d4] => { results := [.lit (.bool false)], args := [d1, d2, d3, d4] }
  | _ => none }
def TopRectWrongFalsely : Prop := topRectRow.holds Try.pinned (OpenSpec.ofChange topRectWrong)

/-- 'flickerbooktop.TopPack': WHATEVER THE INPUT: true; the input reads as it did. -/
def topPackSpec : ChangeSpec := { name := "topPack", fn := fun _ => fun
  | [d] => { results := [.lit (.bool true)], args := [d] }
  | _ => none }
def topPackRow : OpenClaim := { program := "ytnelidgfbapcaaa", sum := "7429a8742ca138af108d614e650f6f874c77679347a098701a717f6368a162be", func := "flickerbook/flickerbooktop.TopPack", spec := "topPack", apart := false }
def TopPackSaid : Prop := topPackRow.holds Try.pinned (OpenSpec.ofChange topPackSpec)

/-- ITS FALSE NEIGHBOUR: 'it returns false'. Refute it at one input. -/
def topPackWrong : ChangeSpec := { name := "topPack", fn := fun _ => fun
  | [d] => { results := [.lit (.bool false)], args := [d] }
  | _ => none }
def TopPackWrongFalsely : Prop := topPackRow.holds Try.pinned (OpenSpec.ofChange topPackWrong)

/-- 'flickerbooktop.TopChunk': WHATEVER THE INPUT: true; the input reads as it did. -/
def topChunkSpec : ChangeSpec := { name := "topChunk", fn := fun _ => fun
  | [d1, d2, d3] => { results := [.lit (.bool true)], args := [d1, d2, d3] }
  | _ => none }
def topChunkRow : OpenClaim := { program := "ytnelidgfbapcaaa", sum := "7429a8742ca138af108d614e650f6f874c77679347a098701a717f6368a162be", func := "flickerbook/flickerbooktop.TopChunk", spec := "topChunk", apart := false }
def TopChunkSaid : Prop := topChunkRow.holds Try.pinned (OpenSpec.ofChange topChunkSpec)

/-- ITS FALSE NEIGHBOUR: 'it returns false'. Refute it at one input. -/
def topChunkWrong : ChangeSpec := { name := "topChunk", fn := fun _ => fun
  | [d1, d2, d3] => { results := [.lit (.bool false)], args := [d1, d2, d3] }
  | _ => none }
def TopChunkWrongFalsely : Prop := topChunkRow.holds Try.pinned (OpenSpec.ofChange topChunkWrong)

/-- 'flickerbooktop.TopSum': WHATEVER THE INPUT: true; the input reads as it did. -/
def topSumSpec : ChangeSpec := { name := "topSum", fn := fun _ => fun
  | [d1, d2, d3, d4] => { results := [.lit (.bool true)], args := [d1, d2, d3, d4] }
  | _ => none }
def topSumRow : OpenClaim := { program := "ytnelidgfbapcaaa", sum := "7429a8742ca138af108d614e650f6f874c77679347a098701a717f6368a162be", func := "flickerbook/flickerbooktop.TopSum", spec := "topSum", apart := false }
def TopSumSaid : Prop := topSumRow.holds Try.pinned (OpenSpec.ofChange topSumSpec)

/-- ITS FALSE NEIGHBOUR: 'it returns false'. Refute it at one input. -/
def topSumWrong : ChangeSpec := { name := "topSum", fn := fun _ => fun
  | [d1, d2, d3, d4] => { results := [.lit (.bool false)], args := [d1, d2, d3, d4] }
  | _ => none }
def TopSumWrongFalsely : Prop := topSumRow.holds Try.pinned (OpenSpec.ofChange topSumWrong)

/-- 'flickerbooktop.TopTrim': WHATEVER THE INPUT: true; the input reads as it did. -/
def topTrimSpec : ChangeSpec := { name := "topTrim", fn := fun _ => fun
  | [d1, d2] => { results := [.lit (.bool true)], args := [d1, d2] }
  | _ => none }
def topTrimRow : OpenClaim := { program := "ytnelidgfbapcaaa", sum := "7429a8742ca138af108d614e650f6f874c77679347a098701a717f6368a162be", func := "flickerbook/flickerbooktop.TopTrim", spec := "topTrim", apart := false }
def TopTrimSaid : Prop := topTrimRow.holds Try.pinned (OpenSpec.ofChange topTrimSpec)

/-- ITS FALSE NEIGHBOUR: 'it returns false'. Refute it at one input. -/
def topTrimWrong : ChangeSpec := { name := "topTrim", fn := fun _ => fun
  | [d1, d2] => { results := [.lit (.bool false)], args := [d1, d2] }
  | _ => none }
def TopTrimWrongFalsely : Prop := topTrimRow.holds Try.pinned (OpenSpec.ofChange topTrimWrong)

/-- 'flickerbooktop.TopAdd': WHATEVER THE INPUT: true; the input reads as it did. -/
def topAddSpec : ChangeSpec := { name := "topAdd", fn := fun _ => fun
  | [d1, d2, d3, d4, d5, d6, d7] => { results := [.lit (.bool true)], args := [d1, d2, d3, d4, d5, d6, d7] }
  | _ => none }
def topAddRow : OpenClaim := { program := "ytnelidgfbapcaaa", sum := "7429a8742ca138af108d614e650f6f874c77679347a098701a717f6368a162be", func := "flickerbook/flickerbooktop.TopAdd", spec := "topAdd", unfollowed := true, recurses := true, apart := false }
def TopAddSaid : Prop := topAddRow.holds Try.pinned (OpenSpec.ofChange topAddSpec)

/-- ITS FALSE NEIGHBOUR: 'it returns false'. Refute it at one input. -/
def topAddWrong : ChangeSpec := { name := "topAdd", fn := fun _ => fun
  | [d1, d2, d3, d4, d5, d6, d7] => { results := [.lit (.bool false)], args := [d1, d2, d3, d4, d5, d6, d7] }
  | _ => none }
def TopAddWrongFalsely : Prop := topAddRow.holds Try.pinned (OpenSpec.ofChange topAddWrong)

/-- 'flickerbooktop.TopAll': WHATEVER THE INPUT: true; the input reads as it did. -/
def topAllSpec : ChangeSpec := { name := "topAll", fn := fun _ => fun
  | [d1, d2] => { results := [.lit (.bool true)], args := [d1, d2] }
  | _ => none }
def topAllRow : OpenClaim := { program := "ytnelidgfbapcaaa", sum := "7429a8742ca138af108d614e650f6f874c77679347a098701a717f6368a162be", func := "flickerbook/flickerbooktop.TopAll", spec := "topAll", apart := false }
def TopAllSaid : Prop := topAllRow.holds Try.pinned (OpenSpec.ofChange topAllSpec)

/-- ITS FALSE NEIGHBOUR: 'it returns false'. Refute it at one input. -/
def topAllWrong : ChangeSpec := { name := "topAll", fn := fun _ => fun
  | [d1, d2] => { results := [.lit (.bool false)], args := [d1, d2] }
  | _ => none }
def TopAllWrongFalsely : Prop := topAllRow.holds Try.pinned (OpenSpec.ofChange topAllWrong)

/-- 'flickerbooktop.TopSame': WHATEVER THE INPUT: true; the input reads as it did. -/
def topSameSpec : ChangeSpec := { name := "topSame", fn := fun _ => fun
  | [d1, d2] => { results := [.lit (.bool true)], args := [d1, d2] }
  | _ => none }
def topSameRow : OpenClaim := { program := "ytnelidgfbapcaaa", sum := "7429a8742ca138af108d614e650f6f874c77679347a098701a717f6368a162be", func := "flickerbook/flickerbooktop.TopSame", spec := "topSame", inPlace := ["internal/abi.NoEscape"], unfollowed := true, recurses := true, apart := false }
def TopSameSaid : Prop := topSameRow.holds Try.pinned (OpenSpec.ofChange topSameSpec)

/-- ITS FALSE NEIGHBOUR: 'it returns false'. Refute it at one input. -/
def topSameWrong : ChangeSpec := { name := "topSame", fn := fun _ => fun
  | [d1, d2] => { results := [.lit (.bool false)], args := [d1, d2] }
  | _ => none }
def TopSameWrongFalsely : Prop := topSameRow.holds Try.pinned (OpenSpec.ofChange topSameWrong)

/-- 'flickerbooktop.TopLay': WHATEVER THE INPUT: true; the input reads as it did. -/
def topLaySpec : ChangeSpec := { name := "topLay", fn := fun _ => fun
  | [d1, d2] => { results := [.lit (.bool true)], args := [d1, d2] }
  | _ => none }
def topLayRow : OpenClaim := { program := "ytnelidgfbapcaaa", sum := "7429a8742ca138af108d614e650f6f874c77679347a098701a717f6368a162be", func := "flickerbook/flickerbooktop.TopLay", spec := "topLay", apart := false }
def TopLaySaid : Prop := topLayRow.holds Try.pinned (OpenSpec.ofChange topLaySpec)

/-- ITS FALSE NEIGHBOUR: 'it returns false'. Refute it at one input. -/
def topLayWrong : ChangeSpec := { name := "topLay", fn := fun _ => fun
  | [d1, d2] => { results := [.lit (.bool false)], args := [d1, d2] }
  | _ => none }
def TopLayWrongFalsely : Prop := topLayRow.holds Try.pinned (OpenSpec.ofChange topLayWrong)

/-- 'flickerbooktop.TopPicture': WHATEVER THE INPUT: true; the input reads as it did. -/
def topPictureSpec : ChangeSpec := { name := "topPicture", fn := fun _ => fun
  | [d] => { results := [.lit (.bool true)], args := [d] }
  | _ => none }
def topPictureRow : OpenClaim := { program := "ytnelidgfbapcaaa", sum := "7429a8742ca138af108d614e650f6f874c77679347a098701a717f6368a162be", func := "flickerbook/flickerbooktop.TopPicture", spec := "topPicture", inPlace := ["internal/abi.NoEscape"], unfollowed := true, recurses := true, apart := false }
def TopPictureSaid : Prop := topPictureRow.holds Try.pinned (OpenSpec.ofChange topPictureSpec)

/-- ITS FALSE NEIGHBOUR: 'it returns false'. Refute it at one input. -/
def topPictureWrong : ChangeSpec := { name := "topPicture", fn := fun _ => fun
  | [d] => { results := [.lit (.bool false)], args := [d] }
  | _ => none }
def TopPictureWrongFalsely : Prop := topPictureRow.holds Try.pinned (OpenSpec.ofChange topPictureWrong)

/-- 'flickerbooktop.TopSeen': WHATEVER THE INPUT: true; the input reads as it did. -/
def topSeenSpec : ChangeSpec := { name := "topSeen", fn := fun _ => fun
  | [d1, d2, d3, d4, d5, d6] => { results := [.lit (.bool true)], args := [d1, d2, d3, d4, d5, d6] }
  | _ => none }
def topSeenRow : OpenClaim := { program := "ytnelidgfbapcaaa", sum := "7429a8742ca138af108d614e650f6f874c77679347a098701a717f6368a162be", func := "flickerbook/flickerbooktop.TopSeen", spec := "topSeen", inPlace := ["slices.overlaps[flickerbook/api.Object]"], unfollowed := true, recurses := true, apart := false }
def TopSeenSaid : Prop := topSeenRow.holds Try.pinned (OpenSpec.ofChange topSeenSpec)

/-- ITS FALSE NEIGHBOUR: 'it returns false'. Refute it at one input. -/
def topSeenWrong : ChangeSpec := { name := "topSeen", fn := fun _ => fun
  | [d1, d2, d3, d4, d5, d6] => { results := [.lit (.bool false)], args := [d1, d2, d3, d4, d5, d6] }
  | _ => none }
def TopSeenWrongFalsely : Prop := topSeenRow.holds Try.pinned (OpenSpec.ofChange topSeenWrong)

/-- 'flickerbooktop.TopCopy': WHATEVER THE INPUT: true; the input reads as it did. -/
def topCopySpec : ChangeSpec := { name := "topCopy", fn := fun _ => fun
  | [d1, d2, d3, d4] => { results := [.lit (.bool true)], args := [d1, d2, d3, d4] }
  | _ => none }
def topCopyRow : OpenClaim := { program := "ytnelidgfbapcaaa", sum := "7429a8742ca138af108d614e650f6f874c77679347a098701a717f6368a162be", func := "flickerbook/flickerbooktop.TopCopy", spec := "topCopy", inPlace := ["slices.overlaps[flickerbook/api.Object]"], unfollowed := true, recurses := true, apart := false }
def TopCopySaid : Prop := topCopyRow.holds Try.pinned (OpenSpec.ofChange topCopySpec)

/-- ITS FALSE NEIGHBOUR: 'it returns false'. Refute it at one input. -/
def topCopyWrong : ChangeSpec := { name := "topCopy", fn := fun _ => fun
  | [d1, d2, d3, d4] => { results := [.lit (.bool false)], args := [d1, d2, d3, d4] }
  | _ => none }
def TopCopyWrongFalsely : Prop := topCopyRow.holds Try.pinned (OpenSpec.ofChange topCopyWrong)

/-- 'flickerbooktop.TopOthers': WHATEVER THE INPUT: true; the input reads as it did. -/
def topOthersSpec : ChangeSpec := { name := "topOthers", fn := fun _ => fun
  | [d1, d2, d3] => { results := [.lit (.bool true)], args := [d1, d2, d3] }
  | _ => none }
def topOthersRow : OpenClaim := { program := "ytnelidgfbapcaaa", sum := "7429a8742ca138af108d614e650f6f874c77679347a098701a717f6368a162be", func := "flickerbook/flickerbooktop.TopOthers", spec := "topOthers", inPlace := ["slices.overlaps[flickerbook/api.Object]"], unfollowed := true, recurses := true, apart := false }
def TopOthersSaid : Prop := topOthersRow.holds Try.pinned (OpenSpec.ofChange topOthersSpec)

/-- ITS FALSE NEIGHBOUR: 'it returns false'. Refute it at one input. -/
def topOthersWrong : ChangeSpec := { name := "topOthers", fn := fun _ => fun
  | [d1, d2, d3] => { results := [.lit (.bool false)], args := [d1, d2, d3] }
  | _ => none }
def TopOthersWrongFalsely : Prop := topOthersRow.holds Try.pinned (OpenSpec.ofChange topOthersWrong)

/-- 'flickerbooktop.TopFuel': WHATEVER THE INPUT: true; the input reads as it did. -/
def topFuelSpec : ChangeSpec := { name := "topFuel", fn := fun _ => fun
  | [d1, d2, d3] => { results := [.lit (.bool true)], args := [d1, d2, d3] }
  | _ => none }
def topFuelRow : OpenClaim := { program := "ytnelidgfbapcaaa", sum := "7429a8742ca138af108d614e650f6f874c77679347a098701a717f6368a162be", func := "flickerbook/flickerbooktop.TopFuel", spec := "topFuel", inPlace := ["slices.overlaps[flickerbook/api.Object]"], unfollowed := true, recurses := true, apart := false }
def TopFuelSaid : Prop := topFuelRow.holds Try.pinned (OpenSpec.ofChange topFuelSpec)

/-- ITS FALSE NEIGHBOUR: 'it returns false'. Refute it at one input. -/
def topFuelWrong : ChangeSpec := { name := "topFuel", fn := fun _ => fun
  | [d1, d2, d3] => { results := [.lit (.bool false)], args := [d1, d2, d3] }
  | _ => none }
def TopFuelWrongFalsely : Prop := topFuelRow.holds Try.pinned (OpenSpec.ofChange topFuelWrong)

/-- 'flickerbooktop.TopLoop': WHATEVER THE INPUT: true; the input reads as it did. -/
def topLoopSpec : ChangeSpec := { name := "topLoop", fn := fun _ => fun
  | [d1, d2, d3, d4] => { results := [.lit (.bool true)], args := [d1, d2, d3, d4] }
  | _ => none }
def topLoopRow : OpenClaim := { program := "ytnelidgfbapcaaa", sum := "7429a8742ca138af108d614e650f6f874c77679347a098701a717f6368a162be", func := "flickerbook/flickerbooktop.TopLoop", spec := "topLoop", inPlace := ["slices.overlaps[flickerbook/api.Object]"], unfollowed := true, recurses := true, apart := false }
def TopLoopSaid : Prop := topLoopRow.holds Try.pinned (OpenSpec.ofChange topLoopSpec)

/-- ITS FALSE NEIGHBOUR: 'it returns false'. Refute it at one input. -/
def topLoopWrong : ChangeSpec := { name := "topLoop", fn := fun _ => fun
  | [d1, d2, d3, d4] => { results := [.lit (.bool false)], args := [d1, d2, d3, d4] }
  | _ => none }
def TopLoopWrongFalsely : Prop := topLoopRow.holds Try.pinned (OpenSpec.ofChange topLoopWrong)

/-- 'flickerbooktop.TopStill': WHATEVER THE INPUT: true; the input reads as it did. -/
def topStillSpec : ChangeSpec := { name := "topStill", fn := fun _ => fun
  | [d1, d2, d3] => { results := [.lit (.bool true)], args := [d1, d2, d3] }
  | _ => none }
def topStillRow : OpenClaim := { program := "ytnelidgfbapcaaa", sum := "7429a8742ca138af108d614e650f6f874c77679347a098701a717f6368a162be", func := "flickerbook/flickerbooktop.TopStill", spec := "topStill", inPlace := ["slices.overlaps[flickerbook/api.Object]"], unfollowed := true, recurses := true, apart := false }
def TopStillSaid : Prop := topStillRow.holds Try.pinned (OpenSpec.ofChange topStillSpec)

/-- ITS FALSE NEIGHBOUR: 'it returns false'. Refute it at one input. -/
def topStillWrong : ChangeSpec := { name := "topStill", fn := fun _ => fun
  | [d1, d2, d3] => { results := [.lit (.bool false)], args := [d1, d2, d3] }
  | _ => none }
def TopStillWrongFalsely : Prop := topStillRow.holds Try.pinned (OpenSpec.ofChange topStillWrong)

/-- 'flickerbooktop.TopAway': WHATEVER THE INPUT: true; the input reads as it did. -/
def topAwaySpec : ChangeSpec := { name := "topAway", fn := fun _ => fun
  | [d1, d2] => { results := [.lit (.bool true)], args := [d1, d2] }
  | _ => none }
def topAwayRow : OpenClaim := { program := "ytnelidgfbapcaaa", sum := "7429a8742ca138af108d614e650f6f874c77679347a098701a717f6368a162be", func := "flickerbook/flickerbooktop.TopAway", spec := "topAway", inPlace := ["slices.overlaps[flickerbook/api.Object]"], unfollowed := true, recurses := true, apart := false }
def TopAwaySaid : Prop := topAwayRow.holds Try.pinned (OpenSpec.ofChange topAwaySpec)

/-- ITS FALSE NEIGHBOUR: 'it returns false'. Refute it at one input. -/
def topAwayWrong : ChangeSpec := { name := "topAway", fn := fun _ => fun
  | [d1, d2] => { results := [.lit (.bool false)], args := [d1, d2] }
  | _ => none }
def TopAwayWrongFalsely : Prop := topAwayRow.holds Try.pinned (OpenSpec.ofChange topAwayWrong)

/-- 'flickerbooktop.TopMove': WHATEVER THE INPUT: true; the input reads as it did. -/
def topMoveSpec : ChangeSpec := { name := "topMove", fn := fun _ => fun
  | [d1, d2, d3, d4] => { results := [.lit (.bool true)], args := [d1, d2, d3, d4] }
  | _ => none }
def topMoveRow : OpenClaim := { program := "ytnelidgfbapcaaa", sum := "7429a8742ca138af108d614e650f6f874c77679347a098701a717f6368a162be", func := "flickerbook/flickerbooktop.TopMove", spec := "topMove", inPlace := ["slices.overlaps[flickerbook/api.Object]"], unfollowed := true, recurses := true, apart := false }
def TopMoveSaid : Prop := topMoveRow.holds Try.pinned (OpenSpec.ofChange topMoveSpec)

/-- ITS FALSE NEIGHBOUR: 'it returns false'. Refute it at one input. -/
def topMoveWrong : ChangeSpec := { name := "topMove", fn := fun _ => fun
  | [d1, d2, d3, d4] => { results := [.lit (.bool false)], args := [d1, d2, d3, d4] }
  | _ => none }
def TopMoveWrongFalsely : Prop := topMoveRow.holds Try.pinned (OpenSpec.ofChange topMoveWrong)

/-- 'flickerbooktop.TopClose': WHATEVER THE INPUT: true; the input reads as it did. -/
def topCloseSpec : ChangeSpec := { name := "topClose", fn := fun _ => fun
  | [d] => { results := [.lit (.bool true)], args := [d] }
  | _ => none }
def topCloseRow : OpenClaim := { program := "ytnelidgfbapcaaa", sum := "7429a8742ca138af108d614e650f6f874c77679347a098701a717f6368a162be", func := "flickerbook/flickerbooktop.TopClose", spec := "topClose", inPlace := ["slices.overlaps[flickerbook/api.Object]"], unfollowed := true, recurses := true, apart := false }
def TopCloseSaid : Prop := topCloseRow.holds Try.pinned (OpenSpec.ofChange topCloseSpec)

/-- ITS FALSE NEIGHBOUR: 'it returns false'. Refute it at one input. -/
def topCloseWrong : ChangeSpec := { name := "topClose", fn := fun _ => fun
  | [d] => { results := [.lit (.bool false)], args := [d] }
  | _ => none }
def TopCloseWrongFalsely : Prop := topCloseRow.holds Try.pinned (OpenSpec.ofChange topCloseWrong)

/-- 'flickerbooktop.TopBack': WHATEVER THE INPUT: true; the input reads as it did. -/
def topBackSpec : ChangeSpec := { name := "topBack", fn := fun _ => fun
  | [d1, d2, d3] => { results := [.lit (.bool true)], args := [d1, d2, d3] }
  | _ => none }
def topBackRow : OpenClaim := { program := "ytnelidgfbapcaaa", sum := "7429a8742ca138af108d614e650f6f874c77679347a098701a717f6368a162be", func := "flickerbook/flickerbooktop.TopBack", spec := "topBack", inPlace := ["slices.overlaps[flickerbook/api.Object]"], unfollowed := true, recurses := true, apart := false }
def TopBackSaid : Prop := topBackRow.holds Try.pinned (OpenSpec.ofChange topBackSpec)

/-- ITS FALSE NEIGHBOUR: 'it returns false'. Refute it at one input. -/
def topBackWrong : ChangeSpec := { name := "topBack", fn := fun _ => fun
  | [d1, d2, d3] => { results := [.lit (.bool false)], args := [d1, d2, d3] }
  | _ => none }
def TopBackWrongFalsely : Prop := topBackRow.holds Try.pinned (OpenSpec.ofChange topBackWrong)

/-- 'flickerbooktop.TopNest': WHATEVER THE INPUT: true; the input reads as it did. -/
def topNestSpec : ChangeSpec := { name := "topNest", fn := fun _ => fun
  | [d1, d2, d3] => { results := [.lit (.bool true)], args := [d1, d2, d3] }
  | _ => none }
def topNestRow : OpenClaim := { program := "ytnelidgfbapcaaa", sum := "7429a8742ca138af108d614e650f6f874c77679347a098701a717f6368a162be", func := "flickerbook/flickerbooktop.TopNest", spec := "topNest", inPlace := ["slices.overlaps[flickerbook/api.Object]"], unfollowed := true, recurses := true, apart := false }
def TopNestSaid : Prop := topNestRow.holds Try.pinned (OpenSpec.ofChange topNestSpec)

/-- ITS FALSE NEIGHBOUR: 'it returns false'. Refute it at one input. -/
def topNestWrong : ChangeSpec := { name := "topNest", fn := fun _ => fun
  | [d1, d2, d3] => { results := [.lit (.bool false)], args := [d1, d2, d3] }
  | _ => none }
def TopNestWrongFalsely : Prop := topNestRow.holds Try.pinned (OpenSpec.ofChange topNestWrong)

/-- 'flickerbooktop.TopKept': WHATEVER THE INPUT: true; the input reads as it did. -/
def topKeptSpec : ChangeSpec := { name := "topKept", fn := fun _ => fun
  | [d1, d2] => { results := [.lit (.bool true)], args := [d1, d2] }
  | _ => none }
def topKeptRow : OpenClaim := { program := "ytnelidgfbapcaaa", sum := "7429a8742ca138af108d614e650f6f874c77679347a098701a717f6368a162be", func := "flickerbook/flickerbooktop.TopKept", spec := "topKept", inPlace := ["slices.overlaps[flickerbook/api.Object]"], unfollowed := true, recurses := true, apart := false }
def TopKeptSaid : Prop := topKeptRow.holds Try.pinned (OpenSpec.ofChange topKeptSpec)

/-- ITS FALSE NEIGHBOUR: 'it returns false'. Refute it at one input. -/
def topKeptWrong : ChangeSpec := { name := "topKept", fn := fun _ => fun
  | [d1, d2] => { results := [.lit (.bool false)], args := [d1, d2] }
  | _ => none }
def TopKeptWrongFalsely : Prop := topKeptRow.holds Try.pinned (OpenSpec.ofChange topKeptWrong)

/-- 'flickerbooktop.TopFrames': WHATEVER THE INPUT: true; the input reads as it did. -/
def topFramesSpec : ChangeSpec := { name := "topFrames", fn := fun _ => fun
  | [d] => { results := [.lit (.bool true)], args := [d] }
  | _ => none }
def topFramesRow : OpenClaim := { program := "ytnelidgfbapcaaa", sum := "7429a8742ca138af108d614e650f6f874c77679347a098701a717f6368a162be", func := "flickerbook/flickerbooktop.TopFrames", spec := "topFrames", inPlace := ["slices.overlaps[flickerbook/api.Object]"], unfollowed := true, recurses := true, apart := false }
def TopFramesSaid : Prop := topFramesRow.holds Try.pinned (OpenSpec.ofChange topFramesSpec)

/-- ITS FALSE NEIGHBOUR: 'it returns false'. Refute it at one input. -/
def topFramesWrong : ChangeSpec := { name := "topFrames", fn := fun _ => fun
  | [d] => { results := [.lit (.bool false)], args := [d] }
  | _ => none }
def TopFramesWrongFalsely : Prop := topFramesRow.holds Try.pinned (OpenSpec.ofChange topFramesWrong)

/- THE SECOND FORM. 'bulk': how many values and letters a reading holds, each counted each time it is reached (what is shared counts as often as it is met; a slice's spare places count too). A statement '..UptoSaid' is the law's where the arguments, and the package variables that the reading takes, are together of bulk at most 1048576: NARROWER than '..Said'. Prove '..Said' where nothing that the law and all that it calls make is longer than what came in: it says more and counts as full. Else prove '..UptoSaid'. A law counts once. -/
mutual
def uptoBulk {H : Type} : DataW H → Nat
  | .lit (.string bytes) => bytes.length + 1
  | .lit _ => 1
  | .nil => 1
  | .ptr d => uptoBulk d + 1
  | .slice elems spare => uptoBulkAll elems + uptoBulkAll spare + 1
  | .agg parts => uptoBulkAll parts + 1
  | .iface _ d => uptoBulk d + 1
  | .map entries => uptoBulkEntries entries + 1
  | .held _ => 1
def uptoBulkAll {H : Type} : List (DataW H) → Nat
  | [] => 0
  | d :: r => uptoBulk d + uptoBulkAll r
def uptoBulkEntries {H : Type} : List (Lit × DataW H) → Nat
  | [] => 0
  | x :: r => uptoBulkEntry x + uptoBulkEntries r
def uptoBulkEntry {H : Type} : Lit × DataW H → Nat
  | (.string bytes, d) => bytes.length + uptoBulk d + 1
  | (_, d) => uptoBulk d + 1
 end
def uptoSmall : (H : Type) → List (DataW H) → Bool := fun _ ds => decide (uptoBulkAll ds ≤ 1048576)
def OpenSpec.upto (s : _root_.Go.ChangeSpec) : _root_.Go.OpenSpec := { _root_.Go.OpenSpec.ofChange s with cond := some uptoSmall }

/-- 'flickerbooklaw.RectSays', WHERE WHAT IT READS IS OF BULK AT MOST 1048576: true; the input reads as it did. -/
def rectSaysUptoRow : OpenClaim := { program := "ytnelidgfbapcaaa", sum := "7429a8742ca138af108d614e650f6f874c77679347a098701a717f6368a162be", func := "flickerbook/flickerbooklaw.RectSays", spec := "rectSays", apart := false, narrowed := true }
def RectSaysUptoSaid : Prop := rectSaysUptoRow.holds Try.pinned (OpenSpec.upto rectSaysSpec)

/-- 'flickerbooklaw.PackSays', WHERE WHAT IT READS IS OF BULK AT MOST 1048576: true; the input reads as it did. -/
def packSaysUptoRow : OpenClaim := { program := "ytnelidgfbapcaaa", sum := "7429a8742ca138af108d614e650f6f874c77679347a098701a717f6368a162be", func := "flickerbook/flickerbooklaw.PackSays", spec := "packSays", apart := false, narrowed := true }
def PackSaysUptoSaid : Prop := packSaysUptoRow.holds Try.pinned (OpenSpec.upto packSaysSpec)

/-- 'flickerbooklaw.ReelSays', WHERE WHAT IT READS IS OF BULK AT MOST 1048576: true; the input reads as it did. -/
def reelSaysUptoRow : OpenClaim := { program := "ytnelidgfbapcaaa", sum := "7429a8742ca138af108d614e650f6f874c77679347a098701a717f6368a162be", func := "flickerbook/flickerbooklaw.ReelSays", spec := "reelSays", apart := false, narrowed := true }
def ReelSaysUptoSaid : Prop := reelSaysUptoRow.holds Try.pinned (OpenSpec.upto reelSaysSpec)

/-- 'flickerbooklaw.ChunkSays', WHERE WHAT IT READS IS OF BULK AT MOST 1048576: true; the input reads as it did. -/
def chunkSaysUptoRow : OpenClaim := { program := "ytnelidgfbapcaaa", sum := "7429a8742ca138af108d614e650f6f874c77679347a098701a717f6368a162be", func := "flickerbook/flickerbooklaw.ChunkSays", spec := "chunkSays", apart := false, narrowed := true }
def ChunkSaysUptoSaid : Prop := chunkSaysUptoRow.holds Try.pinned (OpenSpec.upto chunkSaysSpec)

/-- 'flickerbooklaw.BlendSays', WHERE WHAT IT READS IS OF BULK AT MOST 1048576: true; the input reads as it did. -/
def blendSaysUptoRow : OpenClaim := { program := "ytnelidgfbapcaaa", sum := "7429a8742ca138af108d614e650f6f874c77679347a098701a717f6368a162be", func := "flickerbook/flickerbooklaw.BlendSays", spec := "blendSays", unfollowed := true, recurses := true, apart := false, narrowed := true }
def BlendSaysUptoSaid : Prop := blendSaysUptoRow.holds Try.pinned (OpenSpec.upto blendSaysSpec)

/-- 'flickerbooklaw.PictureSays', WHERE WHAT IT READS IS OF BULK AT MOST 1048576: true; the input reads as it did. -/
def pictureSaysUptoRow : OpenClaim := { program := "ytnelidgfbapcaaa", sum := "7429a8742ca138af108d614e650f6f874c77679347a098701a717f6368a162be", func := "flickerbook/flickerbooklaw.PictureSays", spec := "pictureSays", inPlace := ["internal/abi.NoEscape"], unfollowed := true, recurses := true, apart := false, narrowed := true }
def PictureSaysUptoSaid : Prop := pictureSaysUptoRow.holds Try.pinned (OpenSpec.upto pictureSaysSpec)

/-- 'flickerbooklaw.ObjectsSays', WHERE WHAT IT READS IS OF BULK AT MOST 1048576: true; the input reads as it did. -/
def objectsSaysUptoRow : OpenClaim := { program := "ytnelidgfbapcaaa", sum := "7429a8742ca138af108d614e650f6f874c77679347a098701a717f6368a162be", func := "flickerbook/flickerbooklaw.ObjectsSays", spec := "objectsSays", inPlace := ["slices.overlaps[flickerbook/api.Object]"], unfollowed := true, recurses := true, apart := false, narrowed := true }
def ObjectsSaysUptoSaid : Prop := objectsSaysUptoRow.holds Try.pinned (OpenSpec.upto objectsSaysSpec)

/-- 'flickerbooktop.TopOver', WHERE WHAT IT READS IS OF BULK AT MOST 1048576: true; the input reads as it did. -/
def topOverUptoRow : OpenClaim := { program := "ytnelidgfbapcaaa", sum := "7429a8742ca138af108d614e650f6f874c77679347a098701a717f6368a162be", func := "flickerbook/flickerbooktop.TopOver", spec := "topOver", apart := false, narrowed := true }
def TopOverUptoSaid : Prop := topOverUptoRow.holds Try.pinned (OpenSpec.upto topOverSpec)

/-- 'flickerbooklaw.MachineSays', WHERE WHAT IT READS IS OF BULK AT MOST 1048576: true; the input reads as it did. -/
def machineSaysUptoRow : OpenClaim := { program := "ytnelidgfbapcaaa", sum := "7429a8742ca138af108d614e650f6f874c77679347a098701a717f6368a162be", func := "flickerbook/flickerbooklaw.MachineSays", spec := "machineSays", inPlace := ["slices.overlaps[flickerbook/api.Object]"], unfollowed := true, recurses := true, apart := false, narrowed := true }
def MachineSaysUptoSaid : Prop := machineSaysUptoRow.holds Try.pinned (OpenSpec.upto machineSaysSpec)

/-- 'flickerbooktop.TopRect', WHERE WHAT IT READS IS OF BULK AT MOST 1048576: true; the input reads as it did. -/
def topRectUptoRow : OpenClaim := { program := "ytnelidgfbapcaaa", sum := "7429a8742ca138af108d614e650f6f874c77679347a098701a717f6368a162be", func := "flickerbook/flickerbooktop.TopRect", spec := "topRect", apart := false, narrowed := true }
def TopRectUptoSaid : Prop := topRectUptoRow.holds Try.pinned (OpenSpec.upto topRectSpec)

/-- 'flickerbooktop.TopPack', WHERE WHAT IT READS IS OF BULK AT MOST 1048576: true; the input reads as it did. -/
def topPackUptoRow : OpenClaim := { program := "ytnelidgfbapcaaa", sum := "7429a8742ca138af108d614e650f6f874c77679347a098701a717f6368a162be", func := "flickerbook/flickerbooktop.TopPack", spec := "topPack", apart := false, narrowed := true }
def TopPackUptoSaid : Prop := topPackUptoRow.holds Try.pinned (OpenSpec.upto topPackSpec)

/-- 'flickerbooktop.TopChunk', WHERE WHAT IT READS IS OF BULK AT MOST 1048576: true; the input reads as it did. -/
def topChunkUptoRow : OpenClaim := { program := "ytnelidgfbapcaaa", sum := "7429a8742ca138af108d614e650f6f874c77679347a098701a717f6368a162be", func := "flickerbook/flickerbooktop.TopChunk", spec := "topChunk", apart := false, narrowed := true }
def TopChunkUptoSaid : Prop := topChunkUptoRow.holds Try.pinned (OpenSpec.upto topChunkSpec)

/-- 'flickerbooktop.TopSum', WHERE WHAT IT READS IS OF BULK AT MOST 1048576: true; the input reads as it did. -/
def topSumUptoRow : OpenClaim := { program := "ytnelidgfbapcaaa", sum := "7429a8742ca138af108d614e650f6f874c77679347a098701a717f6368a162be", func := "flickerbook/flickerbooktop.TopSum", spec := "topSum", apart := false, narrowed := true }
def TopSumUptoSaid : Prop := topSumUptoRow.holds Try.pinned (OpenSpec.upto topSumSpec)

/-- 'flickerbooktop.TopTrim', WHERE WHAT IT READS IS OF BULK AT MOST 1048576: true; the input reads as it did. -/
def topTrimUptoRow : OpenClaim := { program := "ytnelidgfbapcaaa", sum := "7429a8742ca138af108d614e650f6f874c77679347a098701a717f6368a162be", func := "flickerbook/flickerbooktop.TopTrim", spec := "topTrim", apart := false, narrowed := true }
def TopTrimUptoSaid : Prop := topTrimUptoRow.holds Try.pinned (OpenSpec.upto topTrimSpec)

/-- 'flickerbooktop.TopAdd', WHERE WHAT IT READS IS OF BULK AT MOST 1048576: true; the input reads as it did. -/
def topAddUptoRow : OpenClaim := { program := "ytnelidgfbapcaaa", sum := "7429a8742ca138af108d614e650f6f874c77679347a098701a717f6368a162be", func := "flickerbook/flickerbooktop.TopAdd", spec := "topAdd", unfollowed := true, recurses := true, apart := false, narrowed := true }
def TopAddUptoSaid : Prop := topAddUptoRow.holds Try.pinned (OpenSpec.upto topAddSpec)

/-- 'flickerbooktop.TopAll', WHERE WHAT IT READS IS OF BULK AT MOST 1048576: true; the input reads as it did. -/
def topAllUptoRow : OpenClaim := { program := "ytnelidgfbapcaaa", sum := "7429a8742ca138af108d614e650f6f874c77679347a098701a717f6368a162be", func := "flickerbook/flickerbooktop.TopAll", spec := "topAll", apart := false, narrowed := true }
def TopAllUptoSaid : Prop := topAllUptoRow.holds Try.pinned (OpenSpec.upto topAllSpec)

/-- 'flickerbooktop.TopSame', WHERE WHAT IT READS IS OF BULK AT MOST 1048576: true; the input reads as it did. -/
def topSameUptoRow : OpenClaim := { program := "ytnelidgfbapcaaa", sum := "7429a8742ca138af108d614e650f6f874c77679347a098701a717f6368a162be", func := "flickerbook/flickerbooktop.TopSame", spec := "topSame", inPlace := ["internal/abi.NoEscape"], unfollowed := true, recurses := true, apart := false, narrowed := true }
def TopSameUptoSaid : Prop := topSameUptoRow.holds Try.pinned (OpenSpec.upto topSameSpec)

/-- 'flickerbooktop.TopLay', WHERE WHAT IT READS IS OF BULK AT MOST 1048576: true; the input reads as it did. -/
def topLayUptoRow : OpenClaim := { program := "ytnelidgfbapcaaa", sum := "7429a8742ca138af108d614e650f6f874c77679347a098701a717f6368a162be", func := "flickerbook/flickerbooktop.TopLay", spec := "topLay", apart := false, narrowed := true }
def TopLayUptoSaid : Prop := topLayUptoRow.holds Try.pinned (OpenSpec.upto topLaySpec)

/-- 'flickerbooktop.TopPicture', WHERE WHAT IT READS IS OF BULK AT MOST 1048576: true; the input reads as it did. -/
def topPictureUptoRow : OpenClaim := { program := "ytnelidgfbapcaaa", sum := "7429a8742ca138af108d614e650f6f874c77679347a098701a717f6368a162be", func := "flickerbook/flickerbooktop.TopPicture", spec := "topPicture", inPlace := ["internal/abi.NoEscape"], unfollowed := true, recurses := true, apart := false, narrowed := true }
def TopPictureUptoSaid : Prop := topPictureUptoRow.holds Try.pinned (OpenSpec.upto topPictureSpec)

/-- 'flickerbooktop.TopSeen', WHERE WHAT IT READS IS OF BULK AT MOST 1048576: true; the input reads as it did. -/
def topSeenUptoRow : OpenClaim := { program := "ytnelidgfbapcaaa", sum := "7429a8742ca138af108d614e650f6f874c77679347a098701a717f6368a162be", func := "flickerbook/flickerbooktop.TopSeen", spec := "topSeen", inPlace := ["slices.overlaps[flickerbook/api.Object]"], unfollowed := true, recurses := true, apart := false, narrowed := true }
def TopSeenUptoSaid : Prop := topSeenUptoRow.holds Try.pinned (OpenSpec.upto topSeenSpec)

/-- 'flickerbooktop.TopCopy', WHERE WHAT IT READS IS OF BULK AT MOST 1048576: true; the input reads as it did. -/
def topCopyUptoRow : OpenClaim := { program := "ytnelidgfbapcaaa", sum := "7429a8742ca138af108d614e650f6f874c77679347a098701a717f6368a162be", func := "flickerbook/flickerbooktop.TopCopy", spec := "topCopy", inPlace := ["slices.overlaps[flickerbook/api.Object]"], unfollowed := true, recurses := true, apart := false, narrowed := true }
def TopCopyUptoSaid : Prop := topCopyUptoRow.holds Try.pinned (OpenSpec.upto topCopySpec)

/-- 'flickerbooktop.TopOthers', WHERE WHAT IT READS IS OF BULK AT MOST 1048576: true; the input reads as it did. -/
def topOthersUptoRow : OpenClaim := { program := "ytnelidgfbapcaaa", sum := "7429a8742ca138af108d614e650f6f874c77679347a098701a717f6368a162be", func := "flickerbook/flickerbooktop.TopOthers", spec := "topOthers", inPlace := ["slices.overlaps[flickerbook/api.Object]"], unfollowed := true, recurses := true, apart := false, narrowed := true }
def TopOthersUptoSaid : Prop := topOthersUptoRow.holds Try.pinned (OpenSpec.upto topOthersSpec)

/-- 'flickerbooktop.TopFuel', WHERE WHAT IT READS IS OF BULK AT MOST 1048576: true; the input reads as it did. -/
def topFuelUptoRow : OpenClaim := { program := "ytnelidgfbapcaaa", sum := "7429a8742ca138af108d614e650f6f874c77679347a098701a717f6368a162be", func := "flickerbook/flickerbooktop.TopFuel", spec := "topFuel", inPlace := ["slices.overlaps[flickerbook/api.Object]"], unfollowed := true, recurses := true, apart := false, narrowed := true }
def TopFuelUptoSaid : Prop := topFuelUptoRow.holds Try.pinned (OpenSpec.upto topFuelSpec)

/-- 'flickerbooktop.TopLoop', WHERE WHAT IT READS IS OF BULK AT MOST 1048576: true; the input reads as it did. -/
def topLoopUptoRow : OpenClaim := { program := "ytnelidgfbapcaaa", sum := "7429a8742ca138af108d614e650f6f874c77679347a098701a717f6368a162be", func := "flickerbook/flickerbooktop.TopLoop", spec := "topLoop", inPlace := ["slices.overlaps[flickerbook/api.Object]"], unfollowed := true, recurses := true, apart := false, narrowed := true }
def TopLoopUptoSaid : Prop := topLoopUptoRow.holds Try.pinned (OpenSpec.upto topLoopSpec)

/-- 'flickerbooktop.TopStill', WHERE WHAT IT READS IS OF BULK AT MOST 1048576: true; the input reads as it did. -/
def topStillUptoRow : OpenClaim := { program := "ytnelidgfbapcaaa", sum := "7429a8742ca138af108d614e650f6f874c77679347a098701a717f6368a162be", func := "flickerbook/flickerbooktop.TopStill", spec := "topStill", inPlace := ["slices.overlaps[flickerbook/api.Object]"], unfollowed := true, recurses := true, apart := false, narrowed := true }
def TopStillUptoSaid : Prop := topStillUptoRow.holds Try.pinned (OpenSpec.upto topStillSpec)

/-- 'flickerbooktop.TopAway', WHERE WHAT IT READS IS OF BULK AT MOST 1048576: true; the input reads as it did. -/
def topAwayUptoRow : OpenClaim := { program := "ytnelidgfbapcaaa", sum := "7429a8742ca138af108d614e650f6f874c77679347a098701a717f6368a162be", func := "flickerbook/flickerbooktop.TopAway", spec := "topAway", inPlace := ["slices.overlaps[flickerbook/api.Object]"], unfollowed := true, recurses := true, apart := false, narrowed := true }
def TopAwayUptoSaid : Prop := topAwayUptoRow.holds Try.pinned (OpenSpec.upto topAwaySpec)

/-- 'flickerbooktop.TopMove', WHERE WHAT IT READS IS OF BULK AT MOST 1048576: true; the input reads as it did. -/
def topMoveUptoRow : OpenClaim := { program := "ytnelidgfbapcaaa", sum := "7429a8742ca138af108d614e650f6f874c77679347a098701a717f6368a162be", func := "flickerbook/flickerbooktop.TopMove", spec := "topMove", inPlace := ["slices.overlaps[flickerbook/api.Object]"], unfollowed := true, recurses := true, apart := false, narrowed := true }
def TopMoveUptoSaid : Prop := topMoveUptoRow.holds Try.pinned (OpenSpec.upto topMoveSpec)

/-- 'flickerbooktop.TopClose', WHERE WHAT IT READS IS OF BULK AT MOST 1048576: true; the input reads as it did. -/
def topCloseUptoRow : OpenClaim := { program := "ytnelidgfbapcaaa", sum := "7429a8742ca138af108d614e650f6f874c77679347a098701a717f6368a162be", func := "flickerbook/flickerbooktop.TopClose", spec := "topClose", inPlace := ["slices.overlaps[flickerbook/api.Object]"], unfollowed := true, recurses := true, apart := false, narrowed := true }
def TopCloseUptoSaid : Prop := topCloseUptoRow.holds Try.pinned (OpenSpec.upto topCloseSpec)

/-- 'flickerbooktop.TopBack', WHERE WHAT IT READS IS OF BULK AT MOST 1048576: true; the input reads as it did. -/
def topBackUptoRow : OpenClaim := { program := "ytnelidgfbapcaaa", sum := "7429a8742ca138af108d614e650f6f874c77679347a098701a717f6368a162be", func := "flickerbook/flickerbooktop.TopBack", spec := "topBack", inPlace := ["slices.overlaps[flickerbook/api.Object]"], unfollowed := true, recurses := true, apart := false, narrowed := true }
def TopBackUptoSaid : Prop := topBackUptoRow.holds Try.pinned (OpenSpec.upto topBackSpec)

/-- 'flickerbooktop.TopNest', WHERE WHAT IT READS IS OF BULK AT MOST 1048576: true; the input reads as it did. -/
def topNestUptoRow : OpenClaim := { program := "ytnelidgfbapcaaa", sum := "7429a8742ca138af108d614e650f6f874c77679347a098701a717f6368a162be", func := "flickerbook/flickerbooktop.TopNest", spec := "topNest", inPlace := ["slices.overlaps[flickerbook/api.Object]"], unfollowed := true, recurses := true, apart := false, narrowed := true }
def TopNestUptoSaid : Prop := topNestUptoRow.holds Try.pinned (OpenSpec.upto topNestSpec)

/-- 'flickerbooktop.TopKept', WHERE WHAT IT READS IS OF BULK AT MOST 1048576: true; the input reads as it did. -/
def topKeptUptoRow : OpenClaim := { program := "ytnelidgfbapcaaa", sum := "7429a8742ca138af108d614e650f6f874c77679347a098701a717f6368a162be", func := "flickerbook/flickerbooktop.TopKept", spec := "topKept", inPlace := ["slices.overlaps[flickerbook/api.Object]"], unfollowed := true, recurses := true, apart := false, narrowed := true }
def TopKeptUptoSaid : Prop := topKeptUptoRow.holds Try.pinned (OpenSpec.upto topKeptSpec)

/-- 'flickerbooktop.TopFrames', WHERE WHAT IT READS IS OF BULK AT MOST 1048576: true; the input reads as it did. -/
def topFramesUptoRow : OpenClaim := { program := "ytnelidgfbapcaaa", sum := "7429a8742ca138af108d614e650f6f874c77679347a098701a717f6368a162be", func := "flickerbook/flickerbooktop.TopFrames", spec := "topFrames", inPlace := ["slices.overlaps[flickerbook/api.Object]"], unfollowed := true, recurses := true, apart := false, narrowed := true }
def TopFramesUptoSaid : Prop := topFramesUptoRow.holds Try.pinned (OpenSpec.upto topFramesSpec)

end Rows
end Go.Proofs.Ytnelidgfbapcaaa
