/-
  No cell of these rows narrows 'for every input' (looked for: loops, veiled, ifaces, maps, wideKeys, modest, calm, conditions, laid).
  DERIVED. THE GIVEN ROWS OF THIS SEAT. 6 by the template 'for every input the law returns true; each argument reads behind the call as it read before'; 0 by the template 'total and deterministic' (their statements: YtljdlhahfeipcaaTotals.lean).
  GIVEN WITH THE SEED: the statements are not yours to turn. If you find one false, say at which input.
  Laid BY PROGRAM, IN A SANDBOX (cutbox-rows.mjs): the forced cells as the released guide's own fill.sh prints them over the translation c84b711a3dbf6585… (all of the seat's roots in one cut). By AI agents, Wed Nov 11 2026. No macro, syntax, notation, axiom, sorry.
-/
import Derived.Test.YtljdlhahfeipcaaChecked
import GoSem.Claim
import GoSem.ClaimJoined
import GoSem.ClaimMapViews
import Derived.JoinedTies
import Derived.KernelRfl
namespace Go.Proofs.Ytljdlhahfeipcaa
/- THE CELL 'sum', in the pinned program and in every row, IS THE sha256 OF THE DUMP (.gsa) THAT YtljdlhahfeipcaaProg.lean LOADS. Nothing in Lean hashes anything: it is a label: what it is worth is what the hold of that sum in a sandbox is worth. -/
noncomputable def Try.pinned : Pinned := { name := "ytljdlhahfeipcaa", sum := "c84b711a3dbf6585554ac0914de8d250573bc08c044a1bb2de36df31632cc20a", checked := Try.checked }
namespace Rows
def none {H : Type} : Left H := { results := [], args := [] }

/-- 'ferryhythelaw1.Names': WHATEVER THE INPUT: true; the input reads as it did. -/
def namesSpec : ChangeSpec := { name := "names", fn := fun _ => fun
  | [] => { results := [.lit (.bool true)], args := [] }
  | _ => none }
def namesRow : OpenClaim := { program := "ytljdlhahfeipcaa", sum := "c84b711a3dbf6585554ac0914de8d250573bc08c044a1bb2de36df31632cc20a", func := "ferryhythe/ferryhythelaw1.Names", spec := "names", apart := false }
def NamesSaid : Prop := namesRow.holds Try.pinned (OpenSpec.ofChange namesSpec)

/-- ITS FALSE NEIGHBOUR: 'it returns false'. Refute it at one input. -/
def namesWrong : ChangeSpec := { name := "names", fn := fun _ => fun
  | [] => { results := [.lit (.bool false)], args := [] }
  | _ => none }
def NamesWrongFalsely : Prop := namesRow.holds Try.pinned (OpenSpec.ofChange namesWrong)

/-- 'ferryhythelaw1.SerialLess': WHATEVER THE INPUT: true; the input reads as it did. -/
def serialLessSpec : ChangeSpec := { name := "serialLess", fn := fun _ => fun
  | [d1, d2, d3] => { results := [.lit (.bool true)], args := [d1, d2, d3] }
  | _ => none }
def serialLessRow : OpenClaim := { program := "ytljdlhahfeipcaa", sum := "c84b711a3dbf6585554ac0914de8d250573bc08c044a1bb2de36df31632cc20a", func := "ferryhythe/ferryhythelaw1.SerialLess", spec := "serialLess", apart := false }
def SerialLessSaid : Prop := serialLessRow.holds Try.pinned (OpenSpec.ofChange serialLessSpec)

/-- ITS FALSE NEIGHBOUR: 'it returns false'. Refute it at one input. -/
def serialLessWrong : ChangeSpec := { name := "serialLess", fn := fun _ => fun
  | [d1, d2, d3] => { results := [.lit (.bool false)], args := [d1, d2, d3] }
  | _ => none }
def SerialLessWrongFalsely : Prop := serialLessRow.holds Try.pinned (OpenSpec.ofChange serialLessWrong)

/-- 'ferryhythelaw1.SerialShift': WHATEVER THE INPUT: true; the input reads as it did. -/
def serialShiftSpec : ChangeSpec := { name := "serialShift", fn := fun _ => fun
  | [d1, d2, d3] => { results := [.lit (.bool true)], args := [d1, d2, d3] }
  | _ => none }
def serialShiftRow : OpenClaim := { program := "ytljdlhahfeipcaa", sum := "c84b711a3dbf6585554ac0914de8d250573bc08c044a1bb2de36df31632cc20a", func := "ferryhythe/ferryhythelaw1.SerialShift", spec := "serialShift", apart := false }
def SerialShiftSaid : Prop := serialShiftRow.holds Try.pinned (OpenSpec.ofChange serialShiftSpec)

/-- ITS FALSE NEIGHBOUR: 'it returns false'. Refute it at one input. -/
def serialShiftWrong : ChangeSpec := { name := "serialShift", fn := fun _ => fun
  | [d1, d2, d3] => { results := [.lit (.bool false)], args := [d1, d2, d3] }
  | _ => none }
def SerialShiftWrongFalsely : Prop := serialShiftRow.holds Try.pinned (OpenSpec.ofChange serialShiftWrong)

/-- 'ferryhythelaw1.SerialOrder': WHATEVER THE INPUT: true; the input reads as it did. -/
def serialOrderSpec : ChangeSpec := { name := "serialOrder", fn := fun _ => fun
  | [d1, d2, d3] => { results := [.lit (.bool true)], args := [d1, d2, d3] }
  | _ => none }
def serialOrderRow : OpenClaim := { program := "ytljdlhahfeipcaa", sum := "c84b711a3dbf6585554ac0914de8d250573bc08c044a1bb2de36df31632cc20a", func := "ferryhythe/ferryhythelaw1.SerialOrder", spec := "serialOrder", apart := false }
def SerialOrderSaid : Prop := serialOrderRow.holds Try.pinned (OpenSpec.ofChange serialOrderSpec)

/-- ITS FALSE NEIGHBOUR: 'it returns false'. Refute it at one input. -/
def serialOrderWrong : ChangeSpec := { name := "serialOrder", fn := fun _ => fun
  | [d1, d2, d3] => { results := [.lit (.bool false)], args := [d1, d2, d3] }
  | _ => none }
def SerialOrderWrongFalsely : Prop := serialOrderRow.holds Try.pinned (OpenSpec.ofChange serialOrderWrong)

/-- 'ferryhythetop.TopNumbers': WHATEVER THE INPUT: true; the input reads as it did. -/
def topNumbersSpec : ChangeSpec := { name := "topNumbers", fn := fun _ => fun
  | [d1, d2, d3] => { results := [.lit (.bool true)], args := [d1, d2, d3] }
  | _ => none }
def topNumbersRow : OpenClaim := { program := "ytljdlhahfeipcaa", sum := "c84b711a3dbf6585554ac0914de8d250573bc08c044a1bb2de36df31632cc20a", func := "ferryhythe/ferryhythetop.TopNumbers", spec := "topNumbers", apart := false }
def TopNumbersSaid : Prop := topNumbersRow.holds Try.pinned (OpenSpec.ofChange topNumbersSpec)

/-- ITS FALSE NEIGHBOUR: 'it returns false'. Refute it at one input. -/
def topNumbersWrong : ChangeSpec := { name := "topNumbers", fn := fun _ => fun
  | [d1, d2, d3] => { results := [.lit (.bool false)], args := [d1, d2, d3] }
  | _ => none }
def TopNumbersWrongFalsely : Prop := topNumbersRow.holds Try.pinned (OpenSpec.ofChange topNumbersWrong)

/-- 'ferryhythetop.TopSwitch': WHATEVER THE INPUT: true; the input reads as it did. -/
def topSwitchSpec : ChangeSpec := { name := "topSwitch", fn := fun _ => fun
  | [d1, d2, d3, d4, d5] => { results := [.lit (.bool true)], args := [d1, d2, d3, d4, d5] }
  | _ => none }
def topSwitchRow : OpenClaim := { program := "ytljdlhahfeipcaa", sum := "c84b711a3dbf6585554ac0914de8d250573bc08c044a1bb2de36df31632cc20a", func := "ferryhythe/ferryhythetop.TopSwitch", spec := "topSwitch", apart := false }
def TopSwitchSaid : Prop := topSwitchRow.holds Try.pinned (OpenSpec.ofChange topSwitchSpec)

/-- ITS FALSE NEIGHBOUR: 'it returns false'. Refute it at one input. -/
def topSwitchWrong : ChangeSpec := { name := "topSwitch", fn := fun _ => fun
  | [d1, d2, d3, d4, d5] => { results := [.lit (.bool false)], args := [d1, d2, d3, d4, d5] }
  | _ => none }
def TopSwitchWrongFalsely : Prop := topSwitchRow.holds Try.pinned (OpenSpec.ofChange topSwitchWrong)

/- THE SECOND FORM. 'bulk': how many values and letters a reading holds, each counted each time it is reached (what is shared counts as often as it is met; a slice's spare places count too). A statement '..UptoSaid' is the law's where the arguments, and the package variables that the reading takes, are together of bulk at most 1048576: NARROWER than '..Said'. Prove '..Said' where nothing that the law and all that it calls make is longer than what came in: it says more and counts as full. Else prove '..UptoSaid'. A law counts once. -/
mutual
def uptoBulk {H : Type} : DataW H → Nat
  | .lit (.string bytes) => bytes.length + 1
  | .lit _ => 1
  | .nil => 1
  | .ptr d => uptoBulk d + 1
  | .slice elems spare => uptoBulkAll elems + uptoBulkAll spare + 1
  | .agg parts => uptoBulkAll parts + 1
  | .iface _ d => uptoBulk d + 1
  | .map entries => uptoBulkEntries entries + 1
  | .held _ => 1
def uptoBulkAll {H : Type} : List (DataW H) → Nat
  | [] => 0
  | d :: r => uptoBulk d + uptoBulkAll r
def uptoBulkEntries {H : Type} : List (Lit × DataW H) → Nat
  | [] => 0
  | x :: r => uptoBulkEntry x + uptoBulkEntries r
def uptoBulkEntry {H : Type} : Lit × DataW H → Nat
  | (.string bytes, d) => bytes.length + uptoBulk d + 1
  | (_, d) => uptoBulk d + 1
 end
def uptoSmall : (H : Type) → List (DataW H) → Bool := fun _ ds => decide (uptoBulkAll ds ≤ 1048576)
def OpenSpec.upto (s : _root_.Go.ChangeSpec) : _root_.Go.OpenSpec := { _root_.Go.OpenSpec.ofChange s with cond := some uptoSmall }

/-- 'ferryhythelaw1.Names', WHERE WHAT IT READS IS OF BULK AT MOST 1048576: true; the input reads as it did. -/
def namesUptoRow : OpenClaim := { program := "ytljdlhahfeipcaa", sum := "c84b711a3dbf6585554ac0914de8d250573bc08c044a1bb2de36df31632cc20a", func := "ferryhythe/ferryhythelaw1.Names", spec := "names", apart := false, narrowed := true }
def NamesUptoSaid : Prop := namesUptoRow.holds Try.pinned (OpenSpec.upto namesSpec)

/-- 'ferryhythelaw1.SerialLess', WHERE WHAT IT READS IS OF BULK AT MOST 1048576: true; the input reads as it did. -/
def serialLessUptoRow : OpenClaim := { program := "ytljdlhahfeipcaa", sum := "c84b711a3dbf6585554ac0914de8d250573bc08c044a1bb2de36df31632cc20a", func := "ferryhythe/ferryhythelaw1.SerialLess", spec := "serialLess", apart := false, narrowed := true }
def SerialLessUptoSaid : Prop := serialLessUptoRow.holds Try.pinned (OpenSpec.upto serialLessSpec)

/-- 'ferryhythelaw1.SerialShift', WHERE WHAT IT READS IS OF BULK AT MOST 1048576: true; the input reads as it did. -/
def serialShiftUptoRow : OpenClaim := { program := "ytljdlhahfeipcaa", sum := "c84b711a3dbf6585554ac0914de8d250573bc08c044a1bb2de36df31632cc20a", func := "ferryhythe/ferryhythelaw1.SerialShift", spec := "serialShift", apart := false, narrowed := true }
def SerialShiftUptoSaid : Prop := serialShiftUptoRow.holds Try.pinned (OpenSpec.upto serialShiftSpec)

/-- 'ferryhythelaw1.SerialOrder', WHERE WHAT IT READS IS OF BULK AT MOST 1048576: true; the input reads as it did. -/
def serialOrderUptoRow : OpenClaim := { program := "ytljdlhahfeipcaa", sum := "c84b711a3dbf6585554ac0914de8d250573bc08c044a1bb2de36df31632cc20a", func := "ferryhythe/ferryhythelaw1.SerialOrder", spec := "serialOrder", apart := false, narrowed := true }
def SerialOrderUptoSaid : Prop := serialOrderUptoRow.holds Try.pinned (OpenSpec.upto serialOrderSpec)

/-- 'ferryhythetop.TopNumbers', WHERE WHAT IT READS IS OF BULK AT MOST 1048576: true; the input reads as it did. -/
def topNumbersUptoRow : OpenClaim := { program := "ytljdlhahfeipcaa", sum := "c84b711a3dbf6585554ac0914de8d250573bc08c044a1bb2de36df31632cc20a", func := "ferryhythe/ferryhythetop.TopNumbers", spec := "topNumbers", apart := false, narrowed := true }
def TopNumbersUptoSaid : Prop := topNumbersUptoRow.holds Try.pinned (OpenSpec.upto topNumbersSpec)

/-- 'ferryhythetop.TopSwitch', WHERE WHAT IT READS IS OF BULK AT MOST 1048576: true; the input reads as it did. -/
def topSwitchUptoRow : OpenClaim := { program := "ytljdlhahfeipcaa", sum := "c84b711a3dbf6585554ac0914de8d250573bc08c044a1bb2de36df31632cc20a", func := "ferryhythe/ferryhythetop.TopSwitch", spec := "topSwitch", apart := false, narrowed := true }
def TopSwitchUptoSaid : Prop := topSwitchUptoRow.holds Try.pinned (OpenSpec.upto topSwitchSpec)

end Rows
end Go.Proofs.Ytljdlhahfeipcaa
