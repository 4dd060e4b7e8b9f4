/-
  DERIVED. GIVEN WITH THE SEED: THE CARDS: each row of YtbddmpbifkgloaaDoorRows.lean that lists a variable, with what it lists TIED to the program's text (the seventh form; the later family's looks); each row that meets fmt, with fmt's text TOLD by the authors' own Lean function (tested against real Go, not proved from fmt's source: count such statements apart). THE CARD IS WHAT COUNTS. Prove the row's statement (the work); the ties are given (YtbddmpbifkgloaaDoorTie.lean); close each card by the builder's one call (the guide's Derived/Test/ToyasCard.lean, 'card_holds'). Laid BY PROGRAM, IN A SANDBOX (cutbox-door.mjs). By AI agents, Wed Nov 11 2026. No macro, syntax, notation, axiom, sorry.
-/
import Derived.Test.YtbddmpbifkgloaaDoorRows
import GoSem.ClaimSeven
namespace Go.Proofs.YtbddmpbifkgloaaDoor
namespace Rows

/-- THE TIED CARD OF 'flickerbooklaw.OpSays'. -/
def opSaysCard : Claim7 := { stood := { row := opSaysRow, standIns := [], harness := (true, "3126dbf2e56029e1f3d197af47b623552c3d2ffc6e7a884900bf3e04045f9e0e"), looks := true }, kinds := [], alts := [], laidByText := true, laidKinds := [.data, .widerDeep], laidTests := true, laidLooks := .later }
def OpSaysCardSaid : Prop := Claim7.holds Tryd.pinned (.plain (OpenSpec.ofChange opSaysSpec)) opSaysCard

/-- THE TIED CARD OF 'flickerbooktop.TopOp'. -/
def topOpCard : Claim7 := { stood := { row := topOpRow, standIns := [], harness := (true, "3126dbf2e56029e1f3d197af47b623552c3d2ffc6e7a884900bf3e04045f9e0e"), looks := true }, kinds := [], alts := [], laidByText := true, laidKinds := [.widerDeep], laidTests := true, laidLooks := .later }
def TopOpCardSaid : Prop := Claim7.holds Tryd.pinned (.plain (OpenSpec.ofChange topOpSpec)) topOpCard

/-- THE TIED CARD OF 'flickerbooklaw.Names'. -/
def namesCard : Claim7 := { stood := { row := namesRow, standIns := [], harness := (true, "3126dbf2e56029e1f3d197af47b623552c3d2ffc6e7a884900bf3e04045f9e0e"), looks := true }, kinds := [], alts := [], laidByText := true, laidKinds := [.data, .data, .data], laidTests := true, laidLooks := .later }
def NamesCardSaid : Prop := Claim7.holds Tryd.pinned (.plain (OpenSpec.ofChange namesSpec)) namesCard

/-- THE TIED CARD OF 'flickerbooklaw.BookSays'. -/
def bookSaysCard : Claim7 := { stood := { row := bookSaysRow, standIns := [], harness := (true, "3126dbf2e56029e1f3d197af47b623552c3d2ffc6e7a884900bf3e04045f9e0e"), looks := true }, kinds := [], alts := [], laidByText := true, laidKinds := [.data, .widerDeep], laidTests := true, laidLooks := .later }
def BookSaysCardSaid : Prop := Claim7.holds Tryd.pinned (.plain (OpenSpec.ofChange bookSaysSpec)) bookSaysCard

/-- THE SECOND FORM's CARD OF 'flickerbooklaw.OpSays'. -/
def opSaysUptoCard : Claim7 := { stood := { row := opSaysUptoRow, standIns := [], harness := (true, "3126dbf2e56029e1f3d197af47b623552c3d2ffc6e7a884900bf3e04045f9e0e"), looks := true }, kinds := [], alts := [], laidByText := true, laidKinds := [.data, .widerDeep], laidTests := true, laidLooks := .later }
def OpSaysUptoCardSaid : Prop := Claim7.holds Tryd.pinned (.plain (OpenSpec.upto opSaysSpec)) opSaysUptoCard

/-- THE SECOND FORM's CARD OF 'flickerbooktop.TopOp'. -/
def topOpUptoCard : Claim7 := { stood := { row := topOpUptoRow, standIns := [], harness := (true, "3126dbf2e56029e1f3d197af47b623552c3d2ffc6e7a884900bf3e04045f9e0e"), looks := true }, kinds := [], alts := [], laidByText := true, laidKinds := [.widerDeep], laidTests := true, laidLooks := .later }
def TopOpUptoCardSaid : Prop := Claim7.holds Tryd.pinned (.plain (OpenSpec.upto topOpSpec)) topOpUptoCard

/-- THE SECOND FORM's CARD OF 'flickerbooklaw.Names'. -/
def namesUptoCard : Claim7 := { stood := { row := namesUptoRow, standIns := [], harness := (true, "3126dbf2e56029e1f3d197af47b623552c3d2ffc6e7a884900bf3e04045f9e0e"), looks := true }, kinds := [], alts := [], laidByText := true, laidKinds := [.data, .data, .data], laidTests := true, laidLooks := .later }
def NamesUptoCardSaid : Prop := Claim7.holds Tryd.pinned (.plain (OpenSpec.upto namesSpec)) namesUptoCard

/-- THE SECOND FORM's CARD OF 'flickerbooklaw.BookSays'. -/
def bookSaysUptoCard : Claim7 := { stood := { row := bookSaysUptoRow, standIns := [], harness := (true, "3126dbf2e56029e1f3d197af47b623552c3d2ffc6e7a884900bf3e04045f9e0e"), looks := true }, kinds := [], alts := [], laidByText := true, laidKinds := [.data, .widerDeep], laidTests := true, laidLooks := .later }
def BookSaysUptoCardSaid : Prop := Claim7.holds Tryd.pinned (.plain (OpenSpec.upto bookSaysSpec)) bookSaysUptoCard
end Rows
end Go.Proofs.YtbddmpbifkgloaaDoor
