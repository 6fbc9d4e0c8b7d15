/-
  NARROWER THAN 'FOR EVERY INPUT', by the rows' own cells (each row's printed sentence says how): FragLack: laid · StuffSays: laid · FragSays: laid.
  DERIVED. THE GIVEN ROWS OF THIS SEAT. 3 by the template 'for every input the law returns true; each argument reads behind the call as it read before'; 0 by the template 'total and deterministic' (their statements: YtbmajajndckfoaaDoorTotals.lean).
  GIVEN WITH THE SEED: the statements are not yours to turn. If you find one false, say at which input.
  Laid BY PROGRAM, IN A SANDBOX (cutbox-rows.mjs): the forced cells as the released guide's own fill.sh prints them over the translation dc37e3bd3cf437f8… (all of the seat's roots in one cut). By AI agents, Wed Nov 11 2026. No macro, syntax, notation, axiom, sorry.
-/
import Derived.Test.YtbmajajndckfoaaDoorChecked
import GoSem.Claim
import GoSem.ClaimJoined
import GoSem.ClaimMapViews
import Derived.JoinedTies
import Derived.KernelRfl
namespace Go.Proofs.YtbmajajndckfoaaDoor
/- THE CELL 'sum', in the pinned program and in every row, IS THE sha256 OF THE DUMP (.gsa) THAT YtbmajajndckfoaaDoorProg.lean LOADS. Nothing in Lean hashes anything: it is a label: what it is worth is what the hold of that sum in a sandbox is worth. -/
noncomputable def Tryd.pinned : Pinned := { name := "ytbmajajndckfoaadoor", sum := "dc37e3bd3cf437f8c082ac3e8c1c76c926dfe082be246b9d4ce0b114d24c6d15", checked := Tryd.checked }
namespace Rows
def none {H : Type} : Left H := { results := [], args := [] }

/- WHAT THE LISTED PACKAGE-LEVEL VARIABLES READ AS WHEN THE CALL BEGINS. Each datum BY PROGRAM (the guide's laid-datum.mjs) off the statement by which the dump's own 'gosem.cut.vars' lays the variable. In a bare row this is a premise. The card (YtbmajajndckfoaaDoorCards.lean) ties it to the program's text. -/
def laid_errors_errorType {H : Type} : DataW H := .iface "internal/reflectlite.rtype" (.agg [.ptr (.lit (.string [101, 114, 114, 111, 114]))])

/-- 'ferryhythelaw1.FragLack': WHATEVER THE INPUT: true; the input reads as it did. -/
def fragLackSpec : ChangeSpec := { name := "fragLack", fn := fun _ => fun
  | [d1, d2, d3] => { results := [.lit (.bool true)], args := [d1, d2, d3] }
  | _ => none }
def fragLackRow : OpenClaim := { program := "ytbmajajndckfoaadoor", sum := "dc37e3bd3cf437f8c082ac3e8c1c76c926dfe082be246b9d4ce0b114d24c6d15", func := "ferryhythe/ferryhythelaw1.FragLack", spec := "fragLack", inPlace := ["internal/reflectlite.ValueOf", "(internal/reflectlite.Value).Type", "(internal/reflectlite.Value).IsNil", "internal/reflectlite.TypeOf", "(internal/reflectlite.Value).Elem", "(internal/reflectlite.Value).Set"], unfollowed := true, recurses := true, named := ["errors.errorType"], apart := false, laid := [("errors.errorType", laid_errors_errorType)] }
def FragLackSaid : Prop := fragLackRow.holds Tryd.pinned (OpenSpec.ofChange fragLackSpec)

/-- ITS FALSE NEIGHBOUR: 'it returns false'. Refute it at one input. -/
def fragLackWrong : ChangeSpec := { name := "fragLack", fn := fun _ => fun
  | [d1, d2, d3] => { results := [.lit (.bool false)], args := [d1, d2, d3] }
  | _ => none }
def FragLackWrongFalsely : Prop := fragLackRow.holds Tryd.pinned (OpenSpec.ofChange fragLackWrong)

/-- 'ferryhythelaw1.StuffSays': WHATEVER THE INPUT: true; the input reads as it did. -/
def stuffSaysSpec : ChangeSpec := { name := "stuffSays", fn := fun _ => fun
  | [d] => { results := [.lit (.bool true)], args := [d] }
  | _ => none }
def stuffSaysRow : OpenClaim := { program := "ytbmajajndckfoaadoor", sum := "dc37e3bd3cf437f8c082ac3e8c1c76c926dfe082be246b9d4ce0b114d24c6d15", func := "ferryhythe/ferryhythelaw1.StuffSays", spec := "stuffSays", inPlace := ["internal/reflectlite.ValueOf", "(internal/reflectlite.Value).Type", "(internal/reflectlite.Value).IsNil", "internal/reflectlite.TypeOf", "(internal/reflectlite.Value).Elem", "(internal/reflectlite.Value).Set"], unfollowed := true, recurses := true, named := ["errors.errorType"], apart := false, laid := [("errors.errorType", laid_errors_errorType)] }
def StuffSaysSaid : Prop := stuffSaysRow.holds Tryd.pinned (OpenSpec.ofChange stuffSaysSpec)

/-- ITS FALSE NEIGHBOUR: 'it returns false'. Refute it at one input. -/
def stuffSaysWrong : ChangeSpec := { name := "stuffSays", fn := fun _ => fun
  | [d] => { results := [.lit (.bool false)], args := [d] }
  | _ => none }
def StuffSaysWrongFalsely : Prop := stuffSaysRow.holds Tryd.pinned (OpenSpec.ofChange stuffSaysWrong)

/-- 'ferryhythelaw1.FragSays': WHATEVER THE INPUT: true; the input reads as it did. -/
def fragSaysSpec : ChangeSpec := { name := "fragSays", fn := fun _ => fun
  | [d1, d2, d3, d4] => { results := [.lit (.bool true)], args := [d1, d2, d3, d4] }
  | _ => none }
def fragSaysRow : OpenClaim := { program := "ytbmajajndckfoaadoor", sum := "dc37e3bd3cf437f8c082ac3e8c1c76c926dfe082be246b9d4ce0b114d24c6d15", func := "ferryhythe/ferryhythelaw1.FragSays", spec := "fragSays", inPlace := ["internal/reflectlite.ValueOf", "(internal/reflectlite.Value).Type", "(internal/reflectlite.Value).IsNil", "internal/reflectlite.TypeOf", "(internal/reflectlite.Value).Elem", "(internal/reflectlite.Value).Set"], unfollowed := true, recurses := true, named := ["errors.errorType"], apart := false, laid := [("errors.errorType", laid_errors_errorType)] }
def FragSaysSaid : Prop := fragSaysRow.holds Tryd.pinned (OpenSpec.ofChange fragSaysSpec)

/-- ITS FALSE NEIGHBOUR: 'it returns false'. Refute it at one input. -/
def fragSaysWrong : ChangeSpec := { name := "fragSays", fn := fun _ => fun
  | [d1, d2, d3, d4] => { results := [.lit (.bool false)], args := [d1, d2, d3, d4] }
  | _ => none }
def FragSaysWrongFalsely : Prop := fragSaysRow.holds Tryd.pinned (OpenSpec.ofChange fragSaysWrong)

/- THE SECOND FORM. 'bulk': how many values and letters a reading holds, each counted each time it is reached (what is shared counts as often as it is met; a slice's spare places count too). A statement '..UptoSaid' is the law's where the arguments, and the package variables that the reading takes, are together of bulk at most 1048576: NARROWER than '..Said'. Prove '..Said' where nothing that the law and all that it calls make is longer than what came in: it says more and counts as full. Else prove '..UptoSaid'. A law counts once. -/
mutual
def uptoBulk {H : Type} : DataW H → Nat
  | .lit (.string bytes) => bytes.length + 1
  | .lit _ => 1
  | .nil => 1
  | .ptr d => uptoBulk d + 1
  | .slice elems spare => uptoBulkAll elems + uptoBulkAll spare + 1
  | .agg parts => uptoBulkAll parts + 1
  | .iface _ d => uptoBulk d + 1
  | .map entries => uptoBulkEntries entries + 1
  | .held _ => 1
def uptoBulkAll {H : Type} : List (DataW H) → Nat
  | [] => 0
  | d :: r => uptoBulk d + uptoBulkAll r
def uptoBulkEntries {H : Type} : List (Lit × DataW H) → Nat
  | [] => 0
  | x :: r => uptoBulkEntry x + uptoBulkEntries r
def uptoBulkEntry {H : Type} : Lit × DataW H → Nat
  | (.string bytes, d) => bytes.length + uptoBulk d + 1
  | (_, d) => uptoBulk d + 1
 end
def uptoSmall : (H : Type) → List (DataW H) → Bool := fun _ ds => decide (uptoBulkAll ds ≤ 1048576)
def OpenSpec.upto (s : _root_.Go.ChangeSpec) : _root_.Go.OpenSpec := { _root_.Go.OpenSpec.ofChange s with cond := some uptoSmall }

/-- 'ferryhythelaw1.FragLack', WHERE WHAT IT READS IS OF BULK AT MOST 1048576: true; the input reads as it did. -/
def fragLackUptoRow : OpenClaim := { program := "ytbmajajndckfoaadoor", sum := "dc37e3bd3cf437f8c082ac3e8c1c76c926dfe082be246b9d4ce0b114d24c6d15", func := "ferryhythe/ferryhythelaw1.FragLack", spec := "fragLack", inPlace := ["internal/reflectlite.ValueOf", "(internal/reflectlite.Value).Type", "(internal/reflectlite.Value).IsNil", "internal/reflectlite.TypeOf", "(internal/reflectlite.Value).Elem", "(internal/reflectlite.Value).Set"], unfollowed := true, recurses := true, named := ["errors.errorType"], apart := false, laid := [("errors.errorType", laid_errors_errorType)], narrowed := true }
def FragLackUptoSaid : Prop := fragLackUptoRow.holds Tryd.pinned (OpenSpec.upto fragLackSpec)

/-- 'ferryhythelaw1.StuffSays', WHERE WHAT IT READS IS OF BULK AT MOST 1048576: true; the input reads as it did. -/
def stuffSaysUptoRow : OpenClaim := { program := "ytbmajajndckfoaadoor", sum := "dc37e3bd3cf437f8c082ac3e8c1c76c926dfe082be246b9d4ce0b114d24c6d15", func := "ferryhythe/ferryhythelaw1.StuffSays", spec := "stuffSays", inPlace := ["internal/reflectlite.ValueOf", "(internal/reflectlite.Value).Type", "(internal/reflectlite.Value).IsNil", "internal/reflectlite.TypeOf", "(internal/reflectlite.Value).Elem", "(internal/reflectlite.Value).Set"], unfollowed := true, recurses := true, named := ["errors.errorType"], apart := false, laid := [("errors.errorType", laid_errors_errorType)], narrowed := true }
def StuffSaysUptoSaid : Prop := stuffSaysUptoRow.holds Tryd.pinned (OpenSpec.upto stuffSaysSpec)

/-- 'ferryhythelaw1.FragSays', WHERE WHAT IT READS IS OF BULK AT MOST 1048576: true; the input reads as it did. -/
def fragSaysUptoRow : OpenClaim := { program := "ytbmajajndckfoaadoor", sum := "dc37e3bd3cf437f8c082ac3e8c1c76c926dfe082be246b9d4ce0b114d24c6d15", func := "ferryhythe/ferryhythelaw1.FragSays", spec := "fragSays", inPlace := ["internal/reflectlite.ValueOf", "(internal/reflectlite.Value).Type", "(internal/reflectlite.Value).IsNil", "internal/reflectlite.TypeOf", "(internal/reflectlite.Value).Elem", "(internal/reflectlite.Value).Set"], unfollowed := true, recurses := true, named := ["errors.errorType"], apart := false, laid := [("errors.errorType", laid_errors_errorType)], narrowed := true }
def FragSaysUptoSaid : Prop := fragSaysUptoRow.holds Tryd.pinned (OpenSpec.upto fragSaysSpec)

end Rows
end Go.Proofs.YtbmajajndckfoaaDoor
