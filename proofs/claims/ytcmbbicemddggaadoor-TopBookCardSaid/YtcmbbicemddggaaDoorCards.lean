/-
  DERIVED. GIVEN WITH THE SEED: THE CARDS: each row of YtcmbbicemddggaaDoorRows.lean that lists a variable, with what it lists TIED to the program's text (the seventh form; the later family's looks); each row that meets fmt, with fmt's text TOLD by the authors' own Lean function (tested against real Go, not proved from fmt's source: count such statements apart). THE CARD IS WHAT COUNTS. Prove the row's statement (the work); the ties are given (YtcmbbicemddggaaDoorTie.lean); close each card by the builder's one call (the guide's Derived/Test/ToyasCard.lean, 'card_holds'). Laid BY PROGRAM, IN A SANDBOX (cutbox-door.mjs). By AI agents, Wed Nov 11 2026. No macro, syntax, notation, axiom, sorry.
-/
import Derived.Test.YtcmbbicemddggaaDoorRows
import GoSem.ClaimSeven
namespace Go.Proofs.YtcmbbicemddggaaDoor
namespace Rows

/-- THE TIED CARD OF 'flickerbooktop.TopBook'. -/
def topBookCard : Claim7 := { stood := { row := topBookRow, standIns := [], harness := (true, "4ebcc7d05ecbddccfe7010b108acc2fbe5c2b0d40b123ceb318a7ceaccb74e35"), looks := true }, kinds := [], alts := [], laidByText := true, laidKinds := [.widerDeep], laidTests := true, laidLooks := .later }
def TopBookCardSaid : Prop := Claim7.holds Tryd.pinned (.plain (OpenSpec.ofChange topBookSpec)) topBookCard

/-- THE TIED CARD OF 'flickerbooktop.TopMore'. -/
def topMoreCard : Claim7 := { stood := { row := topMoreRow, standIns := [], harness := (true, "4ebcc7d05ecbddccfe7010b108acc2fbe5c2b0d40b123ceb318a7ceaccb74e35"), looks := true }, kinds := [], alts := [], laidByText := true, laidKinds := [.widerDeep], laidTests := true, laidLooks := .later }
def TopMoreCardSaid : Prop := Claim7.holds Tryd.pinned (.plain (OpenSpec.ofChange topMoreSpec)) topMoreCard

/-- THE SECOND FORM's CARD OF 'flickerbooktop.TopBook'. -/
def topBookUptoCard : Claim7 := { stood := { row := topBookUptoRow, standIns := [], harness := (true, "4ebcc7d05ecbddccfe7010b108acc2fbe5c2b0d40b123ceb318a7ceaccb74e35"), looks := true }, kinds := [], alts := [], laidByText := true, laidKinds := [.widerDeep], laidTests := true, laidLooks := .later }
def TopBookUptoCardSaid : Prop := Claim7.holds Tryd.pinned (.plain (OpenSpec.upto topBookSpec)) topBookUptoCard

/-- THE SECOND FORM's CARD OF 'flickerbooktop.TopMore'. -/
def topMoreUptoCard : Claim7 := { stood := { row := topMoreUptoRow, standIns := [], harness := (true, "4ebcc7d05ecbddccfe7010b108acc2fbe5c2b0d40b123ceb318a7ceaccb74e35"), looks := true }, kinds := [], alts := [], laidByText := true, laidKinds := [.widerDeep], laidTests := true, laidLooks := .later }
def TopMoreUptoCardSaid : Prop := Claim7.holds Tryd.pinned (.plain (OpenSpec.upto topMoreSpec)) topMoreUptoCard
end Rows
end Go.Proofs.YtcmbbicemddggaaDoor
