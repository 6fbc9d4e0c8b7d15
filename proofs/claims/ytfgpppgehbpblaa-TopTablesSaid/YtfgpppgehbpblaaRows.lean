/-
  No cell of these rows narrows 'for every input' (looked for: loops, veiled, ifaces, maps, wideKeys, modest, calm, conditions, laid).
  DERIVED. THE GIVEN ROWS OF THIS SEAT. 7 by the template 'for every input the law returns true; each argument reads behind the call as it read before'; 0 by the template 'total and deterministic' (their statements: YtfgpppgehbpblaaTotals.lean).
  GIVEN WITH THE SEED: the statements are not yours to turn. If you find one false, say at which input.
  Laid BY PROGRAM, IN A SANDBOX (cutbox-rows.mjs): the forced cells as the released guide's own fill.sh prints them over the translation 18aee249d4a89926… (all of the seat's roots in one cut). By AI agents, Wed Nov 11 2026. No macro, syntax, notation, axiom, sorry.
-/
import Derived.Test.YtfgpppgehbpblaaChecked
import GoSem.Claim
import GoSem.ClaimJoined
import GoSem.ClaimMapViews
import Derived.JoinedTies
import Derived.KernelRfl
namespace Go.Proofs.Ytfgpppgehbpblaa
/- THE CELL 'sum', in the pinned program and in every row, IS THE sha256 OF THE DUMP (.gsa) THAT YtfgpppgehbpblaaProg.lean LOADS. Nothing in Lean hashes anything: it is a label: what it is worth is what the hold of that sum in a sandbox is worth. -/
noncomputable def Try.pinned : Pinned := { name := "ytfgpppgehbpblaa", sum := "18aee249d4a8992683dfd28df03a3c959135ff98da6667c4fc76f732380f357a", checked := Try.checked }
namespace Rows
def none {H : Type} : Left H := { results := [], args := [] }

/-- 'ferryhythelaw1.LpmSet': WHATEVER THE INPUT: true; the input reads as it did. -/
def lpmSetSpec : ChangeSpec := { name := "lpmSet", fn := fun _ => fun
  | [d1, d2, d3] => { results := [.lit (.bool true)], args := [d1, d2, d3] }
  | _ => none }
def lpmSetRow : OpenClaim := { program := "ytfgpppgehbpblaa", sum := "18aee249d4a8992683dfd28df03a3c959135ff98da6667c4fc76f732380f357a", func := "ferryhythe/ferryhythelaw1.LpmSet", spec := "lpmSet", apart := false }
def LpmSetSaid : Prop := lpmSetRow.holds Try.pinned (OpenSpec.ofChange lpmSetSpec)

/-- ITS FALSE NEIGHBOUR: 'it returns false'. Refute it at one input. -/
def lpmSetWrong : ChangeSpec := { name := "lpmSet", fn := fun _ => fun
  | [d1, d2, d3] => { results := [.lit (.bool false)], args := [d1, d2, d3] }
  | _ => none }
def LpmSetWrongFalsely : Prop := lpmSetRow.holds Try.pinned (OpenSpec.ofChange lpmSetWrong)

/-- 'ferryhythelaw1.CidrOne': WHATEVER THE INPUT: true; the input reads as it did. -/
def cidrOneSpec : ChangeSpec := { name := "cidrOne", fn := fun _ => fun
  | [d1, d2] => { results := [.lit (.bool true)], args := [d1, d2] }
  | _ => none }
def cidrOneRow : OpenClaim := { program := "ytfgpppgehbpblaa", sum := "18aee249d4a8992683dfd28df03a3c959135ff98da6667c4fc76f732380f357a", func := "ferryhythe/ferryhythelaw1.CidrOne", spec := "cidrOne", unfollowed := true, recurses := true, apart := false }
def CidrOneSaid : Prop := cidrOneRow.holds Try.pinned (OpenSpec.ofChange cidrOneSpec)

/-- ITS FALSE NEIGHBOUR: 'it returns false'. Refute it at one input. -/
def cidrOneWrong : ChangeSpec := { name := "cidrOne", fn := fun _ => fun
  | [d1, d2] => { results := [.lit (.bool false)], args := [d1, d2] }
  | _ => none }
def CidrOneWrongFalsely : Prop := cidrOneRow.holds Try.pinned (OpenSpec.ofChange cidrOneWrong)

/-- 'ferryhythelaw1.CidrHalves': WHATEVER THE INPUT: true; the input reads as it did. -/
def cidrHalvesSpec : ChangeSpec := { name := "cidrHalves", fn := fun _ => fun
  | [d1, d2] => { results := [.lit (.bool true)], args := [d1, d2] }
  | _ => none }
def cidrHalvesRow : OpenClaim := { program := "ytfgpppgehbpblaa", sum := "18aee249d4a8992683dfd28df03a3c959135ff98da6667c4fc76f732380f357a", func := "ferryhythe/ferryhythelaw1.CidrHalves", spec := "cidrHalves", unfollowed := true, recurses := true, apart := false }
def CidrHalvesSaid : Prop := cidrHalvesRow.holds Try.pinned (OpenSpec.ofChange cidrHalvesSpec)

/-- ITS FALSE NEIGHBOUR: 'it returns false'. Refute it at one input. -/
def cidrHalvesWrong : ChangeSpec := { name := "cidrHalves", fn := fun _ => fun
  | [d1, d2] => { results := [.lit (.bool false)], args := [d1, d2] }
  | _ => none }
def CidrHalvesWrongFalsely : Prop := cidrHalvesRow.holds Try.pinned (OpenSpec.ofChange cidrHalvesWrong)

/-- 'ferryhythelaw1.CidrMany': WHATEVER THE INPUT: true; the input reads as it did. -/
def cidrManySpec : ChangeSpec := { name := "cidrMany", fn := fun _ => fun
  | [d1, d2] => { results := [.lit (.bool true)], args := [d1, d2] }
  | _ => none }
def cidrManyRow : OpenClaim := { program := "ytfgpppgehbpblaa", sum := "18aee249d4a8992683dfd28df03a3c959135ff98da6667c4fc76f732380f357a", func := "ferryhythe/ferryhythelaw1.CidrMany", spec := "cidrMany", unfollowed := true, recurses := true, apart := false }
def CidrManySaid : Prop := cidrManyRow.holds Try.pinned (OpenSpec.ofChange cidrManySpec)

/-- ITS FALSE NEIGHBOUR: 'it returns false'. Refute it at one input. -/
def cidrManyWrong : ChangeSpec := { name := "cidrMany", fn := fun _ => fun
  | [d1, d2] => { results := [.lit (.bool false)], args := [d1, d2] }
  | _ => none }
def CidrManyWrongFalsely : Prop := cidrManyRow.holds Try.pinned (OpenSpec.ofChange cidrManyWrong)

/-- 'ferryhythelaw1.CidrSet': WHATEVER THE INPUT: true; the input reads as it did. -/
def cidrSetSpec : ChangeSpec := { name := "cidrSet", fn := fun _ => fun
  | [d1, d2] => { results := [.lit (.bool true)], args := [d1, d2] }
  | _ => none }
def cidrSetRow : OpenClaim := { program := "ytfgpppgehbpblaa", sum := "18aee249d4a8992683dfd28df03a3c959135ff98da6667c4fc76f732380f357a", func := "ferryhythe/ferryhythelaw1.CidrSet", spec := "cidrSet", unfollowed := true, recurses := true, apart := false }
def CidrSetSaid : Prop := cidrSetRow.holds Try.pinned (OpenSpec.ofChange cidrSetSpec)

/-- ITS FALSE NEIGHBOUR: 'it returns false'. Refute it at one input. -/
def cidrSetWrong : ChangeSpec := { name := "cidrSet", fn := fun _ => fun
  | [d1, d2] => { results := [.lit (.bool false)], args := [d1, d2] }
  | _ => none }
def CidrSetWrongFalsely : Prop := cidrSetRow.holds Try.pinned (OpenSpec.ofChange cidrSetWrong)

/-- 'ferryhythelaw1.LpmFew': WHATEVER THE INPUT: true; the input reads as it did. -/
def lpmFewSpec : ChangeSpec := { name := "lpmFew", fn := fun _ => fun
  | [d1, d2, d3] => { results := [.lit (.bool true)], args := [d1, d2, d3] }
  | _ => none }
def lpmFewRow : OpenClaim := { program := "ytfgpppgehbpblaa", sum := "18aee249d4a8992683dfd28df03a3c959135ff98da6667c4fc76f732380f357a", func := "ferryhythe/ferryhythelaw1.LpmFew", spec := "lpmFew", unfollowed := true, recurses := true, apart := false }
def LpmFewSaid : Prop := lpmFewRow.holds Try.pinned (OpenSpec.ofChange lpmFewSpec)

/-- ITS FALSE NEIGHBOUR: 'it returns false'. Refute it at one input. -/
def lpmFewWrong : ChangeSpec := { name := "lpmFew", fn := fun _ => fun
  | [d1, d2, d3] => { results := [.lit (.bool false)], args := [d1, d2, d3] }
  | _ => none }
def LpmFewWrongFalsely : Prop := lpmFewRow.holds Try.pinned (OpenSpec.ofChange lpmFewWrong)

/-- 'ferryhythetop.TopTables': WHATEVER THE INPUT: true; the input reads as it did. -/
def topTablesSpec : ChangeSpec := { name := "topTables", fn := fun _ => fun
  | [d1, d2] => { results := [.lit (.bool true)], args := [d1, d2] }
  | _ => none }
def topTablesRow : OpenClaim := { program := "ytfgpppgehbpblaa", sum := "18aee249d4a8992683dfd28df03a3c959135ff98da6667c4fc76f732380f357a", func := "ferryhythe/ferryhythetop.TopTables", spec := "topTables", unfollowed := true, recurses := true, apart := false }
def TopTablesSaid : Prop := topTablesRow.holds Try.pinned (OpenSpec.ofChange topTablesSpec)

/-- ITS FALSE NEIGHBOUR: 'it returns false'. Refute it at one input. -/
def topTablesWrong : ChangeSpec := { name := "topTables", fn := fun _ => fun
  | [d1, d2] => { results := [.lit (.bool false)], args := [d1, d2] }
  | _ => none }
def TopTablesWrongFalsely : Prop := topTablesRow.holds Try.pinned (OpenSpec.ofChange topTablesWrong)

/- THE SECOND FORM. 'bulk': how many values and letters a reading holds, each counted each time it is reached (what is shared counts as often as it is met; a slice's spare places count too). A statement '..UptoSaid' is the law's where the arguments, and the package variables that the reading takes, are together of bulk at most 1048576: NARROWER than '..Said'. Prove '..Said' where nothing that the law and all that it calls make is longer than what came in: it says more and counts as full. Else prove '..UptoSaid'. A law counts once. -/
mutual
def uptoBulk {H : Type} : DataW H → Nat
  | .lit (.string bytes) => bytes.length + 1
  | .lit _ => 1
  | .nil => 1
  | .ptr d => uptoBulk d + 1
  | .slice elems spare => uptoBulkAll elems + uptoBulkAll spare + 1
  | .agg parts => uptoBulkAll parts + 1
  | .iface _ d => uptoBulk d + 1
  | .map entries => uptoBulkEntries entries + 1
  | .held _ => 1
def uptoBulkAll {H : Type} : List (DataW H) → Nat
  | [] => 0
  | d :: r => uptoBulk d + uptoBulkAll r
def uptoBulkEntries {H : Type} : List (Lit × DataW H) → Nat
  | [] => 0
  | x :: r => uptoBulkEntry x + uptoBulkEntries r
def uptoBulkEntry {H : Type} : Lit × DataW H → Nat
  | (.string bytes, d) => bytes.length + uptoBulk d + 1
  | (_, d) => uptoBulk d + 1
 end
def uptoSmall : (H : Type) → List (DataW H) → Bool := fun _ ds => decide (uptoBulkAll ds ≤ 1048576)
def OpenSpec.upto (s : _root_.Go.ChangeSpec) : _root_.Go.OpenSpec := { _root_.Go.OpenSpec.ofChange s with cond := some uptoSmall }

/-- 'ferryhythelaw1.LpmSet', WHERE WHAT IT READS IS OF BULK AT MOST 1048576: true; the input reads as it did. -/
def lpmSetUptoRow : OpenClaim := { program := "ytfgpppgehbpblaa", sum := "18aee249d4a8992683dfd28df03a3c959135ff98da6667c4fc76f732380f357a", func := "ferryhythe/ferryhythelaw1.LpmSet", spec := "lpmSet", apart := false, narrowed := true }
def LpmSetUptoSaid : Prop := lpmSetUptoRow.holds Try.pinned (OpenSpec.upto lpmSetSpec)

/-- 'ferryhythelaw1.CidrOne', WHERE WHAT IT READS IS OF BULK AT MOST 1048576: true; the input reads as it did. -/
def cidrOneUptoRow : OpenClaim := { program := "ytfgpppgehbpblaa", sum := "18aee249d4a8992683dfd28df03a3c959135ff98da6667c4fc76f732380f357a", func := "ferryhythe/ferryhythelaw1.CidrOne", spec := "cidrOne", unfollowed := true, recurses := true, apart := false, narrowed := true }
def CidrOneUptoSaid : Prop := cidrOneUptoRow.holds Try.pinned (OpenSpec.upto cidrOneSpec)

/-- 'ferryhythelaw1.CidrHalves', WHERE WHAT IT READS IS OF BULK AT MOST 1048576: true; the input reads as it did. -/
def cidrHalvesUptoRow : OpenClaim := { program := "ytfgpppgehbpblaa", sum := "18aee249d4a8992683dfd28df03a3c959135ff98da6667c4fc76f732380f357a", func := "ferryhythe/ferryhythelaw1.CidrHalves", spec := "cidrHalves", unfollowed := true, recurses := true, apart := false, narrowed := true }
def CidrHalvesUptoSaid : Prop := cidrHalvesUptoRow.holds Try.pinned (OpenSpec.upto cidrHalvesSpec)

/-- 'ferryhythelaw1.CidrMany', WHERE WHAT IT READS IS OF BULK AT MOST 1048576: true; the input reads as it did. -/
def cidrManyUptoRow : OpenClaim := { program := "ytfgpppgehbpblaa", sum := "18aee249d4a8992683dfd28df03a3c959135ff98da6667c4fc76f732380f357a", func := "ferryhythe/ferryhythelaw1.CidrMany", spec := "cidrMany", unfollowed := true, recurses := true, apart := false, narrowed := true }
def CidrManyUptoSaid : Prop := cidrManyUptoRow.holds Try.pinned (OpenSpec.upto cidrManySpec)

/-- 'ferryhythelaw1.CidrSet', WHERE WHAT IT READS IS OF BULK AT MOST 1048576: true; the input reads as it did. -/
def cidrSetUptoRow : OpenClaim := { program := "ytfgpppgehbpblaa", sum := "18aee249d4a8992683dfd28df03a3c959135ff98da6667c4fc76f732380f357a", func := "ferryhythe/ferryhythelaw1.CidrSet", spec := "cidrSet", unfollowed := true, recurses := true, apart := false, narrowed := true }
def CidrSetUptoSaid : Prop := cidrSetUptoRow.holds Try.pinned (OpenSpec.upto cidrSetSpec)

/-- 'ferryhythelaw1.LpmFew', WHERE WHAT IT READS IS OF BULK AT MOST 1048576: true; the input reads as it did. -/
def lpmFewUptoRow : OpenClaim := { program := "ytfgpppgehbpblaa", sum := "18aee249d4a8992683dfd28df03a3c959135ff98da6667c4fc76f732380f357a", func := "ferryhythe/ferryhythelaw1.LpmFew", spec := "lpmFew", unfollowed := true, recurses := true, apart := false, narrowed := true }
def LpmFewUptoSaid : Prop := lpmFewUptoRow.holds Try.pinned (OpenSpec.upto lpmFewSpec)

/-- 'ferryhythetop.TopTables', WHERE WHAT IT READS IS OF BULK AT MOST 1048576: true; the input reads as it did. -/
def topTablesUptoRow : OpenClaim := { program := "ytfgpppgehbpblaa", sum := "18aee249d4a8992683dfd28df03a3c959135ff98da6667c4fc76f732380f357a", func := "ferryhythe/ferryhythetop.TopTables", spec := "topTables", unfollowed := true, recurses := true, apart := false, narrowed := true }
def TopTablesUptoSaid : Prop := topTablesUptoRow.holds Try.pinned (OpenSpec.upto topTablesSpec)

end Rows
end Go.Proofs.Ytfgpppgehbpblaa
