/-
  DERIVED. GIVEN WITH THE SEED: THE CARDS: each row of YtfgpppgehbpblaaDoorRows.lean that lists a variable, with what it lists TIED to the program's text (the seventh form; the later family's looks); each row that meets fmt, with fmt's text TOLD by the authors' own Lean function (tested against real Go, not proved from fmt's source: count such statements apart). THE CARD IS WHAT COUNTS. Prove the row's statement (the work); the ties are given (YtfgpppgehbpblaaDoorTie.lean); close each card by the builder's one call (the guide's Derived/Test/ToyasCard.lean, 'card_holds'). Laid BY PROGRAM, IN A SANDBOX (cutbox-door.mjs). By AI agents, Wed Nov 11 2026. No macro, syntax, notation, axiom, sorry.
-/
import Derived.Test.YtfgpppgehbpblaaDoorRows
import GoSem.ClaimSeven
namespace Go.Proofs.YtfgpppgehbpblaaDoor
namespace Rows

/-- THE TIED CARD OF 'ferryhythelaw1.CidrSays'. -/
def cidrSaysCard : Claim7 := { stood := { row := cidrSaysRow, standIns := [], harness := (true, "142d8b5a24989fbc7666214f6ce369c84584cdc4f11156f63a225e5478d91edf"), looks := true }, kinds := [], alts := [], laidByText := true, laidKinds := [.handle], laidTests := true, laidLooks := .later }
def CidrSaysCardSaid : Prop := Claim7.holds Tryd.pinned (.plain (OpenSpec.ofChange cidrSaysSpec)) cidrSaysCard

/-- THE TIED CARD OF 'ferryhythelaw1.LpmLongest'. -/
def lpmLongestCard : Claim7 := { stood := { row := lpmLongestRow, standIns := [], harness := (true, "142d8b5a24989fbc7666214f6ce369c84584cdc4f11156f63a225e5478d91edf"), looks := true }, kinds := [], alts := [], laidByText := true, laidKinds := [.handle], laidTests := true, laidLooks := .later }
def LpmLongestCardSaid : Prop := Claim7.holds Tryd.pinned (.plain (OpenSpec.ofChange lpmLongestSpec)) lpmLongestCard

/-- THE TIED CARD OF 'ferryhythelaw1.LpmDrop'. -/
def lpmDropCard : Claim7 := { stood := { row := lpmDropRow, standIns := [], harness := (true, "142d8b5a24989fbc7666214f6ce369c84584cdc4f11156f63a225e5478d91edf"), looks := true }, kinds := [], alts := [], laidByText := true, laidKinds := [.handle], laidTests := true, laidLooks := .later }
def LpmDropCardSaid : Prop := Claim7.holds Tryd.pinned (.plain (OpenSpec.ofChange lpmDropSpec)) lpmDropCard

/-- THE TIED CARD OF 'ferryhythelaw1.LpmPlays'. -/
def lpmPlaysCard : Claim7 := { stood := { row := lpmPlaysRow, standIns := [], harness := (true, "142d8b5a24989fbc7666214f6ce369c84584cdc4f11156f63a225e5478d91edf"), looks := true }, kinds := [], alts := [], laidByText := true, laidKinds := [.handle], laidTests := true, laidLooks := .later }
def LpmPlaysCardSaid : Prop := Claim7.holds Tryd.pinned (.plain (OpenSpec.ofChange lpmPlaysSpec)) lpmPlaysCard

/-- THE SECOND FORM's CARD OF 'ferryhythelaw1.CidrSays'. -/
def cidrSaysUptoCard : Claim7 := { stood := { row := cidrSaysUptoRow, standIns := [], harness := (true, "142d8b5a24989fbc7666214f6ce369c84584cdc4f11156f63a225e5478d91edf"), looks := true }, kinds := [], alts := [], laidByText := true, laidKinds := [.handle], laidTests := true, laidLooks := .later }
def CidrSaysUptoCardSaid : Prop := Claim7.holds Tryd.pinned (.plain (OpenSpec.upto cidrSaysSpec)) cidrSaysUptoCard

/-- THE SECOND FORM's CARD OF 'ferryhythelaw1.LpmLongest'. -/
def lpmLongestUptoCard : Claim7 := { stood := { row := lpmLongestUptoRow, standIns := [], harness := (true, "142d8b5a24989fbc7666214f6ce369c84584cdc4f11156f63a225e5478d91edf"), looks := true }, kinds := [], alts := [], laidByText := true, laidKinds := [.handle], laidTests := true, laidLooks := .later }
def LpmLongestUptoCardSaid : Prop := Claim7.holds Tryd.pinned (.plain (OpenSpec.upto lpmLongestSpec)) lpmLongestUptoCard

/-- THE SECOND FORM's CARD OF 'ferryhythelaw1.LpmDrop'. -/
def lpmDropUptoCard : Claim7 := { stood := { row := lpmDropUptoRow, standIns := [], harness := (true, "142d8b5a24989fbc7666214f6ce369c84584cdc4f11156f63a225e5478d91edf"), looks := true }, kinds := [], alts := [], laidByText := true, laidKinds := [.handle], laidTests := true, laidLooks := .later }
def LpmDropUptoCardSaid : Prop := Claim7.holds Tryd.pinned (.plain (OpenSpec.upto lpmDropSpec)) lpmDropUptoCard

/-- THE SECOND FORM's CARD OF 'ferryhythelaw1.LpmPlays'. -/
def lpmPlaysUptoCard : Claim7 := { stood := { row := lpmPlaysUptoRow, standIns := [], harness := (true, "142d8b5a24989fbc7666214f6ce369c84584cdc4f11156f63a225e5478d91edf"), looks := true }, kinds := [], alts := [], laidByText := true, laidKinds := [.handle], laidTests := true, laidLooks := .later }
def LpmPlaysUptoCardSaid : Prop := Claim7.holds Tryd.pinned (.plain (OpenSpec.upto lpmPlaysSpec)) lpmPlaysUptoCard
end Rows
end Go.Proofs.YtfgpppgehbpblaaDoor
