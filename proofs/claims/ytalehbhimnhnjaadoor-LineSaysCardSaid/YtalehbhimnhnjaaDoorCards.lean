/-
  DERIVED. GIVEN WITH THE SEED: THE CARDS: each row of YtalehbhimnhnjaaDoorRows.lean that lists a variable, with what it lists TIED to the program's text (the seventh form; the later family's looks); each row that meets fmt, with fmt's text TOLD by the authors' own Lean function (tested against real Go, not proved from fmt's source: count such statements apart). THE CARD IS WHAT COUNTS. Prove the row's statement (the work); the ties are given (YtalehbhimnhnjaaDoorTie.lean); close each card by the builder's one call (the guide's Derived/Test/ToyasCard.lean, 'card_holds'). Laid BY PROGRAM, IN A SANDBOX (cutbox-door.mjs). By AI agents, Wed Nov 11 2026. No macro, syntax, notation, axiom, sorry.
-/
import Derived.Test.YtalehbhimnhnjaaDoorRows
import GoSem.ClaimSeven
namespace Go.Proofs.YtalehbhimnhnjaaDoor
namespace Rows

/-- THE TIED CARD OF 'ferryhythelaw1.LineRuns'. -/
def lineRunsCard : Claim7 := { stood := { row := lineRunsRow, standIns := [], harness := (true, "372532a27ac6bd8a389d291833d646c4a63b9b768587ca202cc60921550957c0"), looks := true }, kinds := [], alts := [], laidByText := true, laidKinds := [.widerDeep], laidTests := true, laidLooks := .later }
def LineRunsCardSaid : Prop := Claim7.holds Tryd.pinned (.plain (OpenSpec.ofChange lineRunsSpec)) lineRunsCard

/-- THE TIED CARD OF 'ferryhythelaw1.LineTurned'. -/
def lineTurnedCard : Claim7 := { stood := { row := lineTurnedRow, standIns := [], harness := (true, "372532a27ac6bd8a389d291833d646c4a63b9b768587ca202cc60921550957c0"), looks := true }, kinds := [], alts := [], laidByText := true, laidKinds := [.widerDeep], laidTests := true, laidLooks := .later }
def LineTurnedCardSaid : Prop := Claim7.holds Tryd.pinned (.plain (OpenSpec.ofChange lineTurnedSpec)) lineTurnedCard

/-- THE TIED CARD OF 'ferryhythelaw1.LineBack'. -/
def lineBackCard : Claim7 := { stood := { row := lineBackRow, standIns := [], harness := (true, "372532a27ac6bd8a389d291833d646c4a63b9b768587ca202cc60921550957c0"), looks := true }, kinds := [], alts := [], laidByText := true, laidKinds := [.widerDeep], laidTests := true, laidLooks := .later }
def LineBackCardSaid : Prop := Claim7.holds Tryd.pinned (.plain (OpenSpec.ofChange lineBackSpec)) lineBackCard

/-- THE TIED CARD OF 'ferryhythetop.TopWire'. -/
def topWireCard : Claim7 := { stood := { row := topWireRow, standIns := [], harness := (true, "372532a27ac6bd8a389d291833d646c4a63b9b768587ca202cc60921550957c0"), looks := true }, kinds := [], alts := [], laidByText := true, laidKinds := [.widerDeep], laidTests := true, laidLooks := .later }
def TopWireCardSaid : Prop := Claim7.holds Tryd.pinned (.plain (OpenSpec.ofChange topWireSpec)) topWireCard

/-- THE TIED CARD OF 'ferryhythelaw1.OnesSays'. -/
def onesSaysCard : Claim7 := { stood := { row := onesSaysRow, standIns := [], harness := (true, "372532a27ac6bd8a389d291833d646c4a63b9b768587ca202cc60921550957c0"), looks := true }, kinds := [], alts := [], laidByText := true, laidKinds := [.handle], laidTests := true, laidLooks := .later }
def OnesSaysCardSaid : Prop := Claim7.holds Tryd.pinned (.plain (OpenSpec.ofChange onesSaysSpec)) onesSaysCard

/-- THE TIED CARD OF 'ferryhythelaw1.CobsSays'. -/
def cobsSaysCard : Claim7 := { stood := { row := cobsSaysRow, standIns := [], harness := (true, "372532a27ac6bd8a389d291833d646c4a63b9b768587ca202cc60921550957c0"), looks := true }, kinds := [], alts := [], laidByText := true, laidKinds := [.handle], laidTests := true, laidLooks := .later }
def CobsSaysCardSaid : Prop := Claim7.holds Tryd.pinned (.plain (OpenSpec.ofChange cobsSaysSpec)) cobsSaysCard

/-- THE TIED CARD OF 'ferryhythelaw1.LineSays'. -/
def lineSaysCard : Claim7 := { stood := { row := lineSaysRow, standIns := [], harness := (true, "372532a27ac6bd8a389d291833d646c4a63b9b768587ca202cc60921550957c0"), looks := true }, kinds := [], alts := [], laidByText := true, laidKinds := [.handle, .widerDeep], laidTests := true, laidLooks := .later }
def LineSaysCardSaid : Prop := Claim7.holds Tryd.pinned (.plain (OpenSpec.ofChange lineSaysSpec)) lineSaysCard

/-- THE SECOND FORM's CARD OF 'ferryhythelaw1.LineRuns'. -/
def lineRunsUptoCard : Claim7 := { stood := { row := lineRunsUptoRow, standIns := [], harness := (true, "372532a27ac6bd8a389d291833d646c4a63b9b768587ca202cc60921550957c0"), looks := true }, kinds := [], alts := [], laidByText := true, laidKinds := [.widerDeep], laidTests := true, laidLooks := .later }
def LineRunsUptoCardSaid : Prop := Claim7.holds Tryd.pinned (.plain (OpenSpec.upto lineRunsSpec)) lineRunsUptoCard

/-- THE SECOND FORM's CARD OF 'ferryhythelaw1.LineTurned'. -/
def lineTurnedUptoCard : Claim7 := { stood := { row := lineTurnedUptoRow, standIns := [], harness := (true, "372532a27ac6bd8a389d291833d646c4a63b9b768587ca202cc60921550957c0"), looks := true }, kinds := [], alts := [], laidByText := true, laidKinds := [.widerDeep], laidTests := true, laidLooks := .later }
def LineTurnedUptoCardSaid : Prop := Claim7.holds Tryd.pinned (.plain (OpenSpec.upto lineTurnedSpec)) lineTurnedUptoCard

/-- THE SECOND FORM's CARD OF 'ferryhythelaw1.LineBack'. -/
def lineBackUptoCard : Claim7 := { stood := { row := lineBackUptoRow, standIns := [], harness := (true, "372532a27ac6bd8a389d291833d646c4a63b9b768587ca202cc60921550957c0"), looks := true }, kinds := [], alts := [], laidByText := true, laidKinds := [.widerDeep], laidTests := true, laidLooks := .later }
def LineBackUptoCardSaid : Prop := Claim7.holds Tryd.pinned (.plain (OpenSpec.upto lineBackSpec)) lineBackUptoCard

/-- THE SECOND FORM's CARD OF 'ferryhythetop.TopWire'. -/
def topWireUptoCard : Claim7 := { stood := { row := topWireUptoRow, standIns := [], harness := (true, "372532a27ac6bd8a389d291833d646c4a63b9b768587ca202cc60921550957c0"), looks := true }, kinds := [], alts := [], laidByText := true, laidKinds := [.widerDeep], laidTests := true, laidLooks := .later }
def TopWireUptoCardSaid : Prop := Claim7.holds Tryd.pinned (.plain (OpenSpec.upto topWireSpec)) topWireUptoCard

/-- THE SECOND FORM's CARD OF 'ferryhythelaw1.OnesSays'. -/
def onesSaysUptoCard : Claim7 := { stood := { row := onesSaysUptoRow, standIns := [], harness := (true, "372532a27ac6bd8a389d291833d646c4a63b9b768587ca202cc60921550957c0"), looks := true }, kinds := [], alts := [], laidByText := true, laidKinds := [.handle], laidTests := true, laidLooks := .later }
def OnesSaysUptoCardSaid : Prop := Claim7.holds Tryd.pinned (.plain (OpenSpec.upto onesSaysSpec)) onesSaysUptoCard

/-- THE SECOND FORM's CARD OF 'ferryhythelaw1.CobsSays'. -/
def cobsSaysUptoCard : Claim7 := { stood := { row := cobsSaysUptoRow, standIns := [], harness := (true, "372532a27ac6bd8a389d291833d646c4a63b9b768587ca202cc60921550957c0"), looks := true }, kinds := [], alts := [], laidByText := true, laidKinds := [.handle], laidTests := true, laidLooks := .later }
def CobsSaysUptoCardSaid : Prop := Claim7.holds Tryd.pinned (.plain (OpenSpec.upto cobsSaysSpec)) cobsSaysUptoCard

/-- THE SECOND FORM's CARD OF 'ferryhythelaw1.LineSays'. -/
def lineSaysUptoCard : Claim7 := { stood := { row := lineSaysUptoRow, standIns := [], harness := (true, "372532a27ac6bd8a389d291833d646c4a63b9b768587ca202cc60921550957c0"), looks := true }, kinds := [], alts := [], laidByText := true, laidKinds := [.handle, .widerDeep], laidTests := true, laidLooks := .later }
def LineSaysUptoCardSaid : Prop := Claim7.holds Tryd.pinned (.plain (OpenSpec.upto lineSaysSpec)) lineSaysUptoCard
end Rows
end Go.Proofs.YtalehbhimnhnjaaDoor
