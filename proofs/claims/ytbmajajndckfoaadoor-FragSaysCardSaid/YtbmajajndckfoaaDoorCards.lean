/-
  DERIVED. GIVEN WITH THE SEED: THE CARDS: each row of YtbmajajndckfoaaDoorRows.lean that lists a variable, with what it lists TIED to the program's text (the seventh form; the later family's looks); each row that meets fmt, with fmt's text TOLD by the authors' own Lean function (tested against real Go, not proved from fmt's source: count such statements apart). THE CARD IS WHAT COUNTS. Prove the row's statement (the work); the ties are given (YtbmajajndckfoaaDoorTie.lean); close each card by the builder's one call (the guide's Derived/Test/ToyasCard.lean, 'card_holds'). Laid BY PROGRAM, IN A SANDBOX (cutbox-door.mjs). By AI agents, Wed Nov 11 2026. No macro, syntax, notation, axiom, sorry.
-/
import Derived.Test.YtbmajajndckfoaaDoorRows
import GoSem.ClaimSeven
namespace Go.Proofs.YtbmajajndckfoaaDoor
namespace Rows

/-- THE TIED CARD OF 'ferryhythelaw1.FragLack'. -/
def fragLackCard : Claim7 := { stood := { row := fragLackRow, standIns := [], harness := (true, "2b56f7bf71996a6a3b37be41dd04209ec938518062ebb5f74a70abf9af114dab"), looks := true }, kinds := [], alts := [], laidByText := true, laidKinds := [.handle], laidTests := true, laidLooks := .later }
def FragLackCardSaid : Prop := Claim7.holds Tryd.pinned (.plain (OpenSpec.ofChange fragLackSpec)) fragLackCard

/-- THE TIED CARD OF 'ferryhythelaw1.StuffSays'. -/
def stuffSaysCard : Claim7 := { stood := { row := stuffSaysRow, standIns := [], harness := (true, "2b56f7bf71996a6a3b37be41dd04209ec938518062ebb5f74a70abf9af114dab"), looks := true }, kinds := [], alts := [], laidByText := true, laidKinds := [.handle], laidTests := true, laidLooks := .later }
def StuffSaysCardSaid : Prop := Claim7.holds Tryd.pinned (.plain (OpenSpec.ofChange stuffSaysSpec)) stuffSaysCard

/-- THE TIED CARD OF 'ferryhythelaw1.FragSays'. -/
def fragSaysCard : Claim7 := { stood := { row := fragSaysRow, standIns := [], harness := (true, "2b56f7bf71996a6a3b37be41dd04209ec938518062ebb5f74a70abf9af114dab"), looks := true }, kinds := [], alts := [], laidByText := true, laidKinds := [.handle], laidTests := true, laidLooks := .later }
def FragSaysCardSaid : Prop := Claim7.holds Tryd.pinned (.plain (OpenSpec.ofChange fragSaysSpec)) fragSaysCard

/-- THE SECOND FORM's CARD OF 'ferryhythelaw1.FragLack'. -/
def fragLackUptoCard : Claim7 := { stood := { row := fragLackUptoRow, standIns := [], harness := (true, "2b56f7bf71996a6a3b37be41dd04209ec938518062ebb5f74a70abf9af114dab"), looks := true }, kinds := [], alts := [], laidByText := true, laidKinds := [.handle], laidTests := true, laidLooks := .later }
def FragLackUptoCardSaid : Prop := Claim7.holds Tryd.pinned (.plain (OpenSpec.upto fragLackSpec)) fragLackUptoCard

/-- THE SECOND FORM's CARD OF 'ferryhythelaw1.StuffSays'. -/
def stuffSaysUptoCard : Claim7 := { stood := { row := stuffSaysUptoRow, standIns := [], harness := (true, "2b56f7bf71996a6a3b37be41dd04209ec938518062ebb5f74a70abf9af114dab"), looks := true }, kinds := [], alts := [], laidByText := true, laidKinds := [.handle], laidTests := true, laidLooks := .later }
def StuffSaysUptoCardSaid : Prop := Claim7.holds Tryd.pinned (.plain (OpenSpec.upto stuffSaysSpec)) stuffSaysUptoCard

/-- THE SECOND FORM's CARD OF 'ferryhythelaw1.FragSays'. -/
def fragSaysUptoCard : Claim7 := { stood := { row := fragSaysUptoRow, standIns := [], harness := (true, "2b56f7bf71996a6a3b37be41dd04209ec938518062ebb5f74a70abf9af114dab"), looks := true }, kinds := [], alts := [], laidByText := true, laidKinds := [.handle], laidTests := true, laidLooks := .later }
def FragSaysUptoCardSaid : Prop := Claim7.holds Tryd.pinned (.plain (OpenSpec.upto fragSaysSpec)) fragSaysUptoCard
end Rows
end Go.Proofs.YtbmajajndckfoaaDoor
