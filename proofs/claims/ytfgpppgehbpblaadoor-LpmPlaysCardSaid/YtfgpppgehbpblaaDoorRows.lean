/-
  NARROWER THAN 'FOR EVERY INPUT', by the rows' own cells (each row's printed sentence says how): CidrSays: laid · LpmLongest: laid · LpmDrop: laid · LpmPlays: laid.
  DERIVED. THE GIVEN ROWS OF THIS SEAT. 4 by the template 'for every input the law returns true; each argument reads behind the call as it read before'; 0 by the template 'total and deterministic' (their statements: YtfgpppgehbpblaaDoorTotals.lean).
  GIVEN WITH THE SEED: the statements are not yours to turn. If you find one false, say at which input.
  Laid BY PROGRAM, IN A SANDBOX (cutbox-rows.mjs): the forced cells as the released guide's own fill.sh prints them over the translation 59ae44925858669a… (all of the seat's roots in one cut). By AI agents, Wed Nov 11 2026. No macro, syntax, notation, axiom, sorry.
-/
import Derived.Test.YtfgpppgehbpblaaDoorChecked
import GoSem.Claim
import GoSem.ClaimJoined
import GoSem.ClaimMapViews
import Derived.JoinedTies
import Derived.KernelRfl
namespace Go.Proofs.YtfgpppgehbpblaaDoor
/- THE CELL 'sum', in the pinned program and in every row, IS THE sha256 OF THE DUMP (.gsa) THAT YtfgpppgehbpblaaDoorProg.lean LOADS. Nothing in Lean hashes anything: it is a label: what it is worth is what the hold of that sum in a sandbox is worth. -/
noncomputable def Tryd.pinned : Pinned := { name := "ytfgpppgehbpblaadoor", sum := "59ae44925858669a0a02c48584cdb300ccc50583f0aa172870e8708c55eb494b", checked := Tryd.checked }
namespace Rows
def none {H : Type} : Left H := { results := [], args := [] }

/- WHAT THE LISTED PACKAGE-LEVEL VARIABLES READ AS WHEN THE CALL BEGINS. Each datum BY PROGRAM (the guide's laid-datum.mjs) off the statement by which the dump's own 'gosem.cut.vars' lays the variable. In a bare row this is a premise. The card (YtfgpppgehbpblaaDoorCards.lean) ties it to the program's text. -/
def laid_errors_errorType {H : Type} : DataW H := .iface "internal/reflectlite.rtype" (.agg [.ptr (.lit (.string [101, 114, 114, 111, 114]))])

/-- 'ferryhythelaw1.CidrSays': WHATEVER THE INPUT: true; the input reads as it did. -/
def cidrSaysSpec : ChangeSpec := { name := "cidrSays", fn := fun _ => fun
  | [d1, d2, d3] => { results := [.lit (.bool true)], args := [d1, d2, d3] }
  | _ => none }
def cidrSaysRow : OpenClaim := { program := "ytfgpppgehbpblaadoor", sum := "59ae44925858669a0a02c48584cdb300ccc50583f0aa172870e8708c55eb494b", func := "ferryhythe/ferryhythelaw1.CidrSays", spec := "cidrSays", inPlace := ["internal/reflectlite.ValueOf", "(internal/reflectlite.Value).Type", "(internal/reflectlite.Value).IsNil", "internal/reflectlite.TypeOf", "(internal/reflectlite.Value).Elem", "(internal/reflectlite.Value).Set"], unfollowed := true, recurses := true, named := ["errors.errorType"], apart := false, laid := [("errors.errorType", laid_errors_errorType)] }
def CidrSaysSaid : Prop := cidrSaysRow.holds Tryd.pinned (OpenSpec.ofChange cidrSaysSpec)

/-- ITS FALSE NEIGHBOUR: 'it returns false'. Refute it at one input. -/
def cidrSaysWrong : ChangeSpec := { name := "cidrSays", fn := fun _ => fun
  | [d1, d2, d3] => { results := [.lit (.bool false)], args := [d1, d2, d3] }
  | _ => none }
def CidrSaysWrongFalsely : Prop := cidrSaysRow.holds Tryd.pinned (OpenSpec.ofChange cidrSaysWrong)

/-- 'ferryhythelaw1.LpmLongest': WHATEVER THE INPUT: true; the input reads as it did. -/
def lpmLongestSpec : ChangeSpec := { name := "lpmLongest", fn := fun _ => fun
  | [d1, d2] => { results := [.lit (.bool true)], args := [d1, d2] }
  | _ => none }
def lpmLongestRow : OpenClaim := { program := "ytfgpppgehbpblaadoor", sum := "59ae44925858669a0a02c48584cdb300ccc50583f0aa172870e8708c55eb494b", func := "ferryhythe/ferryhythelaw1.LpmLongest", spec := "lpmLongest", inPlace := ["internal/reflectlite.ValueOf", "(internal/reflectlite.Value).Type", "(internal/reflectlite.Value).IsNil", "internal/reflectlite.TypeOf", "(internal/reflectlite.Value).Elem", "(internal/reflectlite.Value).Set"], unfollowed := true, recurses := true, named := ["errors.errorType"], apart := false, laid := [("errors.errorType", laid_errors_errorType)] }
def LpmLongestSaid : Prop := lpmLongestRow.holds Tryd.pinned (OpenSpec.ofChange lpmLongestSpec)

/-- ITS FALSE NEIGHBOUR: 'it returns false'. Refute it at one input. -/
def lpmLongestWrong : ChangeSpec := { name := "lpmLongest", fn := fun _ => fun
  | [d1, d2] => { results := [.lit (.bool false)], args := [d1, d2] }
  | _ => none }
def LpmLongestWrongFalsely : Prop := lpmLongestRow.holds Tryd.pinned (OpenSpec.ofChange lpmLongestWrong)

/-- 'ferryhythelaw1.LpmDrop': WHATEVER THE INPUT: true; the input reads as it did. -/
def lpmDropSpec : ChangeSpec := { name := "lpmDrop", fn := fun _ => fun
  | [d1, d2] => { results := [.lit (.bool true)], args := [d1, d2] }
  | _ => none }
def lpmDropRow : OpenClaim := { program := "ytfgpppgehbpblaadoor", sum := "59ae44925858669a0a02c48584cdb300ccc50583f0aa172870e8708c55eb494b", func := "ferryhythe/ferryhythelaw1.LpmDrop", spec := "lpmDrop", inPlace := ["internal/reflectlite.ValueOf", "(internal/reflectlite.Value).Type", "(internal/reflectlite.Value).IsNil", "internal/reflectlite.TypeOf", "(internal/reflectlite.Value).Elem", "(internal/reflectlite.Value).Set"], unfollowed := true, recurses := true, named := ["errors.errorType"], apart := false, laid := [("errors.errorType", laid_errors_errorType)] }
def LpmDropSaid : Prop := lpmDropRow.holds Tryd.pinned (OpenSpec.ofChange lpmDropSpec)

/-- ITS FALSE NEIGHBOUR: 'it returns false'. Refute it at one input. -/
def lpmDropWrong : ChangeSpec := { name := "lpmDrop", fn := fun _ => fun
  | [d1, d2] => { results := [.lit (.bool false)], args := [d1, d2] }
  | _ => none }
def LpmDropWrongFalsely : Prop := lpmDropRow.holds Tryd.pinned (OpenSpec.ofChange lpmDropWrong)

/-- 'ferryhythelaw1.LpmPlays': WHATEVER THE INPUT: true; the input reads as it did. -/
def lpmPlaysSpec : ChangeSpec := { name := "lpmPlays", fn := fun _ => fun
  | [d1, d2] => { results := [.lit (.bool true)], args := [d1, d2] }
  | _ => none }
def lpmPlaysRow : OpenClaim := { program := "ytfgpppgehbpblaadoor", sum := "59ae44925858669a0a02c48584cdb300ccc50583f0aa172870e8708c55eb494b", func := "ferryhythe/ferryhythelaw1.LpmPlays", spec := "lpmPlays", inPlace := ["internal/reflectlite.ValueOf", "(internal/reflectlite.Value).Type", "(internal/reflectlite.Value).IsNil", "internal/reflectlite.TypeOf", "(internal/reflectlite.Value).Elem", "(internal/reflectlite.Value).Set"], unfollowed := true, recurses := true, named := ["errors.errorType"], apart := false, laid := [("errors.errorType", laid_errors_errorType)] }
def LpmPlaysSaid : Prop := lpmPlaysRow.holds Tryd.pinned (OpenSpec.ofChange lpmPlaysSpec)

/-- ITS FALSE NEIGHBOUR: 'it returns false'. Refute it at one input. -/
def lpmPlaysWrong : ChangeSpec := { name := "lpmPlays", fn := fun _ => fun
  | [d1, d2] => { results := [.lit (.bool false)], args := [d1, d2] }
  | _ => none }
def LpmPlaysWrongFalsely : Prop := lpmPlaysRow.holds Tryd.pinned (OpenSpec.ofChange lpmPlaysWrong)

/- THE SECOND FORM. 'bulk': how many values and letters a reading holds, each counted each time it is reached (what is shared counts as often as it is met; a slice's spare places count too). A statement '..UptoSaid' is the law's where the arguments, and the package variables that the reading takes, are together of bulk at most 1048576: NARROWER than '..Said'. Prove '..Said' where nothing that the law and all that it calls make is longer than what came in: it says more and counts as full. Else prove '..UptoSaid'. A law counts once. -/
mutual
def uptoBulk {H : Type} : DataW H → Nat
  | .lit (.string bytes) => bytes.length + 1
  | .lit _ => 1
  | .nil => 1
  | .ptr d => uptoBulk d + 1
  | .slice elems spare => uptoBulkAll elems + uptoBulkAll spare + 1
  | .agg parts => uptoBulkAll parts + 1
  | .iface _ d => uptoBulk d + 1
  | .map entries => uptoBulkEntries entries + 1
  | .held _ => 1
def uptoBulkAll {H : Type} : List (DataW H) → Nat
  | [] => 0
  | d :: r => uptoBulk d + uptoBulkAll r
def uptoBulkEntries {H : Type} : List (Lit × DataW H) → Nat
  | [] => 0
  | x :: r => uptoBulkEntry x + uptoBulkEntries r
def uptoBulkEntry {H : Type} : Lit × DataW H → Nat
  | (.string bytes, d) => bytes.length + uptoBulk d + 1
  | (_, d) => uptoBulk d + 1
 end
def uptoSmall : (H : Type) → List (DataW H) → Bool := fun _ ds => decide (uptoBulkAll ds ≤ 1048576)
def OpenSpec.upto (s : _root_.Go.ChangeSpec) : _root_.Go.OpenSpec := { _root_.Go.OpenSpec.ofChange s with cond := some uptoSmall }

/-- 'ferryhythelaw1.CidrSays', WHERE WHAT IT READS IS OF BULK AT MOST 1048576: true; the input reads as it did. -/
def cidrSaysUptoRow : OpenClaim := { program := "ytfgpppgehbpblaadoor", sum := "59ae44925858669a0a02c48584cdb300ccc50583f0aa172870e8708c55eb494b", func := "ferryhythe/ferryhythelaw1.CidrSays", spec := "cidrSays", inPlace := ["internal/reflectlite.ValueOf", "(internal/reflectlite.Value).Type", "(internal/reflectlite.Value).IsNil", "internal/reflectlite.TypeOf", "(internal/reflectlite.Value).Elem", "(internal/reflectlite.Value).Set"], unfollowed := true, recurses := true, named := ["errors.errorType"], apart := false, laid := [("errors.errorType", laid_errors_errorType)], narrowed := true }
def CidrSaysUptoSaid : Prop := cidrSaysUptoRow.holds Tryd.pinned (OpenSpec.upto cidrSaysSpec)

/-- 'ferryhythelaw1.LpmLongest', WHERE WHAT IT READS IS OF BULK AT MOST 1048576: true; the input reads as it did. -/
def lpmLongestUptoRow : OpenClaim := { program := "ytfgpppgehbpblaadoor", sum := "59ae44925858669a0a02c48584cdb300ccc50583f0aa172870e8708c55eb494b", func := "ferryhythe/ferryhythelaw1.LpmLongest", spec := "lpmLongest", inPlace := ["internal/reflectlite.ValueOf", "(internal/reflectlite.Value).Type", "(internal/reflectlite.Value).IsNil", "internal/reflectlite.TypeOf", "(internal/reflectlite.Value).Elem", "(internal/reflectlite.Value).Set"], unfollowed := true, recurses := true, named := ["errors.errorType"], apart := false, laid := [("errors.errorType", laid_errors_errorType)], narrowed := true }
def LpmLongestUptoSaid : Prop := lpmLongestUptoRow.holds Tryd.pinned (OpenSpec.upto lpmLongestSpec)

/-- 'ferryhythelaw1.LpmDrop', WHERE WHAT IT READS IS OF BULK AT MOST 1048576: true; the input reads as it did. -/
def lpmDropUptoRow : OpenClaim := { program := "ytfgpppgehbpblaadoor", sum := "59ae44925858669a0a02c48584cdb300ccc50583f0aa172870e8708c55eb494b", func := "ferryhythe/ferryhythelaw1.LpmDrop", spec := "lpmDrop", inPlace := ["internal/reflectlite.ValueOf", "(internal/reflectlite.Value).Type", "(internal/reflectlite.Value).IsNil", "internal/reflectlite.TypeOf", "(internal/reflectlite.Value).Elem", "(internal/reflectlite.Value).Set"], unfollowed := true, recurses := true, named := ["errors.errorType"], apart := false, laid := [("errors.errorType", laid_errors_errorType)], narrowed := true }
def LpmDropUptoSaid : Prop := lpmDropUptoRow.holds Tryd.pinned (OpenSpec.upto lpmDropSpec)

/-- 'ferryhythelaw1.LpmPlays', WHERE WHAT IT READS IS OF BULK AT MOST 1048576: true; the input reads as it did. -/
def lpmPlaysUptoRow : OpenClaim := { program := "ytfgpppgehbpblaadoor", sum := "59ae44925858669a0a02c48584cdb300ccc50583f0aa172870e8708c55eb494b", func := "ferryhythe/ferryhythelaw1.LpmPlays", spec := "lpmPlays", inPlace := ["internal/reflectlite.ValueOf", "(internal/reflectlite.Value).Type", "(internal/reflectlite.Value).IsNil", "internal/reflectlite.TypeOf", "(internal/reflectlite.Value).Elem", "(internal/reflectlite.Value).Set"], unfollowed := true, recurses := true, named := ["errors.errorType"], apart := false, laid := [("errors.errorType", laid_errors_errorType)], narrowed := true }
def LpmPlaysUptoSaid : Prop := lpmPlaysUptoRow.holds Tryd.pinned (OpenSpec.upto lpmPlaysSpec)

end Rows
end Go.Proofs.YtfgpppgehbpblaaDoor
