/-
  DERIVED. GIVEN WITH THE SEED: THE CARDS: each row of YtljdlhahfeipcaaDoorRows.lean that lists a variable, with what it lists TIED to the program's text (the seventh form; the later family's looks); each row that meets fmt, with fmt's text TOLD by the authors' own Lean function (tested against real Go, not proved from fmt's source: count such statements apart). THE CARD IS WHAT COUNTS. Prove the row's statement (the work); the ties are given (YtljdlhahfeipcaaDoorTie.lean); close each card by the builder's one call (the guide's Derived/Test/ToyasCard.lean, 'card_holds'). Laid BY PROGRAM, IN A SANDBOX (cutbox-door.mjs). By AI agents, Wed Nov 11 2026. No macro, syntax, notation, axiom, sorry.
-/
import Derived.Test.YtljdlhahfeipcaaDoorRows
import GoSem.ClaimSeven
namespace Go.Proofs.YtljdlhahfeipcaaDoor
namespace Rows

/-- THE TIED CARD OF 'ferryhythelaw1.SerialSays'. -/
def serialSaysCard : Claim7 := { stood := { row := serialSaysRow, standIns := [], harness := (true, "8a818b71d43356bdf8cbbb95406df6a89ed2cf7cda67b1b04582e7ad8feff715"), looks := true }, kinds := [], alts := [], laidByText := true, laidKinds := [.handle], laidTests := true, laidLooks := .later }
def SerialSaysCardSaid : Prop := Claim7.holds Tryd.pinned (.plain (OpenSpec.ofChange serialSaysSpec)) serialSaysCard

/-- THE TIED CARD OF 'ferryhythelaw1.SerialWhole'. -/
def serialWholeCard : Claim7 := { stood := { row := serialWholeRow, standIns := [], harness := (true, "8a818b71d43356bdf8cbbb95406df6a89ed2cf7cda67b1b04582e7ad8feff715"), looks := true }, kinds := [], alts := [], laidByText := true, laidKinds := [.handle], laidTests := true, laidLooks := .later }
def SerialWholeCardSaid : Prop := Claim7.holds Tryd.pinned (.plain (OpenSpec.ofChange serialWholeSpec)) serialWholeCard

/-- THE SECOND FORM's CARD OF 'ferryhythelaw1.SerialSays'. -/
def serialSaysUptoCard : Claim7 := { stood := { row := serialSaysUptoRow, standIns := [], harness := (true, "8a818b71d43356bdf8cbbb95406df6a89ed2cf7cda67b1b04582e7ad8feff715"), looks := true }, kinds := [], alts := [], laidByText := true, laidKinds := [.handle], laidTests := true, laidLooks := .later }
def SerialSaysUptoCardSaid : Prop := Claim7.holds Tryd.pinned (.plain (OpenSpec.upto serialSaysSpec)) serialSaysUptoCard

/-- THE SECOND FORM's CARD OF 'ferryhythelaw1.SerialWhole'. -/
def serialWholeUptoCard : Claim7 := { stood := { row := serialWholeUptoRow, standIns := [], harness := (true, "8a818b71d43356bdf8cbbb95406df6a89ed2cf7cda67b1b04582e7ad8feff715"), looks := true }, kinds := [], alts := [], laidByText := true, laidKinds := [.handle], laidTests := true, laidLooks := .later }
def SerialWholeUptoCardSaid : Prop := Claim7.holds Tryd.pinned (.plain (OpenSpec.upto serialWholeSpec)) serialWholeUptoCard
end Rows
end Go.Proofs.YtljdlhahfeipcaaDoor
