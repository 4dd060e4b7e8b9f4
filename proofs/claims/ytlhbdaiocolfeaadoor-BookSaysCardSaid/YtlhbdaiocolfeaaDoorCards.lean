/-
  DERIVED. GIVEN WITH THE SEED: THE CARDS: each row of YtlhbdaiocolfeaaDoorRows.lean that lists a variable, with what it lists TIED to the program's text (the seventh form; the later family's looks); each row that meets fmt, with fmt's text TOLD by the authors' own Lean function (tested against real Go, not proved from fmt's source: count such statements apart). THE CARD IS WHAT COUNTS. Prove the row's statement (the work); the ties are given (YtlhbdaiocolfeaaDoorTie.lean); close each card by the builder's one call (the guide's Derived/Test/ToyasCard.lean, 'card_holds'). Laid BY PROGRAM, IN A SANDBOX (cutbox-door.mjs). By AI agents, Wed Nov 11 2026. No macro, syntax, notation, axiom, sorry.
-/
import Derived.Test.YtlhbdaiocolfeaaDoorRows
import GoSem.ClaimSeven
namespace Go.Proofs.YtlhbdaiocolfeaaDoor
namespace Rows

/-- THE TIED CARD OF 'flickerbooklaw.OpSays'. -/
def opSaysCard : Claim7 := { stood := { row := opSaysRow, standIns := [], harness := (true, "4c818e55eea5c286aabc6052e7b58b9eb6fd12c033870a1fcc619356df559a83"), looks := true }, kinds := [], alts := [], laidByText := true, laidKinds := [.data, .widerDeep], laidTests := true, laidLooks := .later }
def OpSaysCardSaid : Prop := Claim7.holds Tryd.pinned (.plain (OpenSpec.ofChange opSaysSpec)) opSaysCard

/-- THE TIED CARD OF 'flickerbooklaw.BookSays'. -/
def bookSaysCard : Claim7 := { stood := { row := bookSaysRow, standIns := [], harness := (true, "4c818e55eea5c286aabc6052e7b58b9eb6fd12c033870a1fcc619356df559a83"), looks := true }, kinds := [], alts := [], laidByText := true, laidKinds := [.data, .widerDeep], laidTests := true, laidLooks := .later }
def BookSaysCardSaid : Prop := Claim7.holds Tryd.pinned (.plain (OpenSpec.ofChange bookSaysSpec)) bookSaysCard

/-- THE TIED CARD OF 'flickerbooktop.TopOp'. -/
def topOpCard : Claim7 := { stood := { row := topOpRow, standIns := [], harness := (true, "4c818e55eea5c286aabc6052e7b58b9eb6fd12c033870a1fcc619356df559a83"), looks := true }, kinds := [], alts := [], laidByText := true, laidKinds := [.widerDeep], laidTests := true, laidLooks := .later }
def TopOpCardSaid : Prop := Claim7.holds Tryd.pinned (.plain (OpenSpec.ofChange topOpSpec)) topOpCard

/-- THE SECOND FORM's CARD OF 'flickerbooklaw.OpSays'. -/
def opSaysUptoCard : Claim7 := { stood := { row := opSaysUptoRow, standIns := [], harness := (true, "4c818e55eea5c286aabc6052e7b58b9eb6fd12c033870a1fcc619356df559a83"), looks := true }, kinds := [], alts := [], laidByText := true, laidKinds := [.data, .widerDeep], laidTests := true, laidLooks := .later }
def OpSaysUptoCardSaid : Prop := Claim7.holds Tryd.pinned (.plain (OpenSpec.upto opSaysSpec)) opSaysUptoCard

/-- THE SECOND FORM's CARD OF 'flickerbooklaw.BookSays'. -/
def bookSaysUptoCard : Claim7 := { stood := { row := bookSaysUptoRow, standIns := [], harness := (true, "4c818e55eea5c286aabc6052e7b58b9eb6fd12c033870a1fcc619356df559a83"), looks := true }, kinds := [], alts := [], laidByText := true, laidKinds := [.data, .widerDeep], laidTests := true, laidLooks := .later }
def BookSaysUptoCardSaid : Prop := Claim7.holds Tryd.pinned (.plain (OpenSpec.upto bookSaysSpec)) bookSaysUptoCard

/-- THE SECOND FORM's CARD OF 'flickerbooktop.TopOp'. -/
def topOpUptoCard : Claim7 := { stood := { row := topOpUptoRow, standIns := [], harness := (true, "4c818e55eea5c286aabc6052e7b58b9eb6fd12c033870a1fcc619356df559a83"), looks := true }, kinds := [], alts := [], laidByText := true, laidKinds := [.widerDeep], laidTests := true, laidLooks := .later }
def TopOpUptoCardSaid : Prop := Claim7.holds Tryd.pinned (.plain (OpenSpec.upto topOpSpec)) topOpUptoCard
end Rows
end Go.Proofs.YtlhbdaiocolfeaaDoor
