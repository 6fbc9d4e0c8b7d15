/-
  NARROWER THAN 'FOR EVERY INPUT', by the rows' own cells (each row's printed sentence says how): LineRuns: laid · LineTurned: laid · LineBack: laid · TopWire: laid · OnesSays: laid · CobsSays: laid · LineSays: laid.
  DERIVED. THE GIVEN ROWS OF THIS SEAT. 7 by the template 'for every input the law returns true; each argument reads behind the call as it read before'; 0 by the template 'total and deterministic' (their statements: YtalehbhimnhnjaaDoorTotals.lean).
  GIVEN WITH THE SEED: the statements are not yours to turn. If you find one false, say at which input.
  Laid BY PROGRAM, IN A SANDBOX (cutbox-rows.mjs): the forced cells as the released guide's own fill.sh prints them over the translation da249a991c367ecd… (all of the seat's roots in one cut). By AI agents, Wed Nov 11 2026. No macro, syntax, notation, axiom, sorry.
-/
import Derived.Test.YtalehbhimnhnjaaDoorChecked
import GoSem.Claim
import GoSem.ClaimJoined
import GoSem.ClaimMapViews
import Derived.JoinedTies
import Derived.KernelRfl
namespace Go.Proofs.YtalehbhimnhnjaaDoor
/- THE CELL 'sum', in the pinned program and in every row, IS THE sha256 OF THE DUMP (.gsa) THAT YtalehbhimnhnjaaDoorProg.lean LOADS. Nothing in Lean hashes anything: it is a label: what it is worth is what the hold of that sum in a sandbox is worth. -/
noncomputable def Tryd.pinned : Pinned := { name := "ytalehbhimnhnjaadoor", sum := "da249a991c367ecdedc9bfafb4674c5c1357b02e6de2440ae283cd9d29703e8a", checked := Tryd.checked }
namespace Rows
def none {H : Type} : Left H := { results := [], args := [] }

/- WHAT THE LISTED PACKAGE-LEVEL VARIABLES READ AS WHEN THE CALL BEGINS. Each datum BY PROGRAM (the guide's laid-datum.mjs) off the statement by which the dump's own 'gosem.cut.vars' lays the variable. In a bare row this is a premise. The card (YtalehbhimnhnjaaDoorCards.lean) ties it to the program's text. -/
def laid_ferryhythe_line_codes {H : Type} : DataW H := .agg [.lit (.int .i64 30), .lit (.int .i64 9), .lit (.int .i64 20), .lit (.int .i64 21), .lit (.int .i64 10), .lit (.int .i64 11), .lit (.int .i64 14), .lit (.int .i64 15), .lit (.int .i64 18), .lit (.int .i64 19), .lit (.int .i64 22), .lit (.int .i64 23), .lit (.int .i64 26), .lit (.int .i64 27), .lit (.int .i64 28), .lit (.int .i64 29)]
def laid_errors_errorType {H : Type} : DataW H := .iface "internal/reflectlite.rtype" (.agg [.ptr (.lit (.string [101, 114, 114, 111, 114]))])

/-- 'ferryhythelaw1.LineRuns': WHATEVER THE INPUT: true; the input reads as it did. -/
def lineRunsSpec : ChangeSpec := { name := "lineRuns", fn := fun _ => fun
  | [d] => { results := [.lit (.bool true)], args := [d] }
  | _ => none }
def lineRunsRow : OpenClaim := { program := "ytalehbhimnhnjaadoor", sum := "da249a991c367ecdedc9bfafb4674c5c1357b02e6de2440ae283cd9d29703e8a", func := "ferryhythe/ferryhythelaw1.LineRuns", spec := "lineRuns", named := ["ferryhythe/line.codes"], apart := false, laid := [("ferryhythe/line.codes", laid_ferryhythe_line_codes)] }
def LineRunsSaid : Prop := lineRunsRow.holds Tryd.pinned (OpenSpec.ofChange lineRunsSpec)

/-- ITS FALSE NEIGHBOUR: 'it returns false'. Refute it at one input. -/
def lineRunsWrong : ChangeSpec := { name := "lineRuns", fn := fun _ => fun
  | [d] => { results := [.lit (.bool false)], args := [d] }
  | _ => none }
def LineRunsWrongFalsely : Prop := lineRunsRow.holds Tryd.pinned (OpenSpec.ofChange lineRunsWrong)

/-- 'ferryhythelaw1.LineTurned': WHATEVER THE INPUT: true; the input reads as it did. -/
def lineTurnedSpec : ChangeSpec := { name := "lineTurned", fn := fun _ => fun
  | [d] => { results := [.lit (.bool true)], args := [d] }
  | _ => none }
def lineTurnedRow : OpenClaim := { program := "ytalehbhimnhnjaadoor", sum := "da249a991c367ecdedc9bfafb4674c5c1357b02e6de2440ae283cd9d29703e8a", func := "ferryhythe/ferryhythelaw1.LineTurned", spec := "lineTurned", named := ["ferryhythe/line.codes"], apart := false, laid := [("ferryhythe/line.codes", laid_ferryhythe_line_codes)] }
def LineTurnedSaid : Prop := lineTurnedRow.holds Tryd.pinned (OpenSpec.ofChange lineTurnedSpec)

/-- ITS FALSE NEIGHBOUR: 'it returns false'. Refute it at one input. -/
def lineTurnedWrong : ChangeSpec := { name := "lineTurned", fn := fun _ => fun
  | [d] => { results := [.lit (.bool false)], args := [d] }
  | _ => none }
def LineTurnedWrongFalsely : Prop := lineTurnedRow.holds Tryd.pinned (OpenSpec.ofChange lineTurnedWrong)

/-- 'ferryhythelaw1.LineBack': WHATEVER THE INPUT: true; the input reads as it did. -/
def lineBackSpec : ChangeSpec := { name := "lineBack", fn := fun _ => fun
  | [d1, d2] => { results := [.lit (.bool true)], args := [d1, d2] }
  | _ => none }
def lineBackRow : OpenClaim := { program := "ytalehbhimnhnjaadoor", sum := "da249a991c367ecdedc9bfafb4674c5c1357b02e6de2440ae283cd9d29703e8a", func := "ferryhythe/ferryhythelaw1.LineBack", spec := "lineBack", unfollowed := true, recurses := true, named := ["ferryhythe/line.codes"], apart := false, laid := [("ferryhythe/line.codes", laid_ferryhythe_line_codes)] }
def LineBackSaid : Prop := lineBackRow.holds Tryd.pinned (OpenSpec.ofChange lineBackSpec)

/-- ITS FALSE NEIGHBOUR: 'it returns false'. Refute it at one input. -/
def lineBackWrong : ChangeSpec := { name := "lineBack", fn := fun _ => fun
  | [d1, d2] => { results := [.lit (.bool false)], args := [d1, d2] }
  | _ => none }
def LineBackWrongFalsely : Prop := lineBackRow.holds Tryd.pinned (OpenSpec.ofChange lineBackWrong)

/-- 'ferryhythetop.TopWire': WHATEVER THE INPUT: true; the input reads as it did. -/
def topWireSpec : ChangeSpec := { name := "topWire", fn := fun _ => fun
  | [d] => { results := [.lit (.bool true)], args := [d] }
  | _ => none }
def topWireRow : OpenClaim := { program := "ytalehbhimnhnjaadoor", sum := "da249a991c367ecdedc9bfafb4674c5c1357b02e6de2440ae283cd9d29703e8a", func := "ferryhythe/ferryhythetop.TopWire", spec := "topWire", unfollowed := true, recurses := true, named := ["ferryhythe/line.codes"], apart := false, laid := [("ferryhythe/line.codes", laid_ferryhythe_line_codes)] }
def TopWireSaid : Prop := topWireRow.holds Tryd.pinned (OpenSpec.ofChange topWireSpec)

/-- ITS FALSE NEIGHBOUR: 'it returns false'. Refute it at one input. -/
def topWireWrong : ChangeSpec := { name := "topWire", fn := fun _ => fun
  | [d] => { results := [.lit (.bool false)], args := [d] }
  | _ => none }
def TopWireWrongFalsely : Prop := topWireRow.holds Tryd.pinned (OpenSpec.ofChange topWireWrong)

/-- 'ferryhythelaw1.OnesSays': WHATEVER THE INPUT: true; the input reads as it did. -/
def onesSaysSpec : ChangeSpec := { name := "onesSays", fn := fun _ => fun
  | [d1, d2, d3, d4] => { results := [.lit (.bool true)], args := [d1, d2, d3, d4] }
  | _ => none }
def onesSaysRow : OpenClaim := { program := "ytalehbhimnhnjaadoor", sum := "da249a991c367ecdedc9bfafb4674c5c1357b02e6de2440ae283cd9d29703e8a", func := "ferryhythe/ferryhythelaw1.OnesSays", spec := "onesSays", inPlace := ["internal/reflectlite.ValueOf", "(internal/reflectlite.Value).Type", "(internal/reflectlite.Value).IsNil", "internal/reflectlite.TypeOf", "(internal/reflectlite.Value).Elem", "(internal/reflectlite.Value).Set"], unfollowed := true, recurses := true, named := ["errors.errorType"], apart := false, laid := [("errors.errorType", laid_errors_errorType)] }
def OnesSaysSaid : Prop := onesSaysRow.holds Tryd.pinned (OpenSpec.ofChange onesSaysSpec)

/-- ITS FALSE NEIGHBOUR: 'it returns false'. Refute it at one input. -/
def onesSaysWrong : ChangeSpec := { name := "onesSays", fn := fun _ => fun
  | [d1, d2, d3, d4] => { results := [.lit (.bool false)], args := [d1, d2, d3, d4] }
  | _ => none }
def OnesSaysWrongFalsely : Prop := onesSaysRow.holds Tryd.pinned (OpenSpec.ofChange onesSaysWrong)

/-- 'ferryhythelaw1.CobsSays': WHATEVER THE INPUT: true; the input reads as it did. -/
def cobsSaysSpec : ChangeSpec := { name := "cobsSays", fn := fun _ => fun
  | [d] => { results := [.lit (.bool true)], args := [d] }
  | _ => none }
def cobsSaysRow : OpenClaim := { program := "ytalehbhimnhnjaadoor", sum := "da249a991c367ecdedc9bfafb4674c5c1357b02e6de2440ae283cd9d29703e8a", func := "ferryhythe/ferryhythelaw1.CobsSays", spec := "cobsSays", inPlace := ["internal/reflectlite.ValueOf", "(internal/reflectlite.Value).Type", "(internal/reflectlite.Value).IsNil", "internal/reflectlite.TypeOf", "(internal/reflectlite.Value).Elem", "(internal/reflectlite.Value).Set"], unfollowed := true, recurses := true, named := ["errors.errorType"], apart := false, laid := [("errors.errorType", laid_errors_errorType)] }
def CobsSaysSaid : Prop := cobsSaysRow.holds Tryd.pinned (OpenSpec.ofChange cobsSaysSpec)

/-- ITS FALSE NEIGHBOUR: 'it returns false'. Refute it at one input. -/
def cobsSaysWrong : ChangeSpec := { name := "cobsSays", fn := fun _ => fun
  | [d] => { results := [.lit (.bool false)], args := [d] }
  | _ => none }
def CobsSaysWrongFalsely : Prop := cobsSaysRow.holds Tryd.pinned (OpenSpec.ofChange cobsSaysWrong)

/-- 'ferryhythelaw1.LineSays': WHATEVER THE INPUT: true; the input reads as it did. -/
def lineSaysSpec : ChangeSpec := { name := "lineSays", fn := fun _ => fun
  | [d1, d2] => { results := [.lit (.bool true)], args := [d1, d2] }
  | _ => none }
def lineSaysRow : OpenClaim := { program := "ytalehbhimnhnjaadoor", sum := "da249a991c367ecdedc9bfafb4674c5c1357b02e6de2440ae283cd9d29703e8a", func := "ferryhythe/ferryhythelaw1.LineSays", spec := "lineSays", inPlace := ["internal/reflectlite.ValueOf", "(internal/reflectlite.Value).Type", "(internal/reflectlite.Value).IsNil", "internal/reflectlite.TypeOf", "(internal/reflectlite.Value).Elem", "(internal/reflectlite.Value).Set"], unfollowed := true, recurses := true, named := ["ferryhythe/line.codes", "errors.errorType"], apart := false, laid := [("errors.errorType", laid_errors_errorType), ("ferryhythe/line.codes", laid_ferryhythe_line_codes)] }
def LineSaysSaid : Prop := lineSaysRow.holds Tryd.pinned (OpenSpec.ofChange lineSaysSpec)

/-- ITS FALSE NEIGHBOUR: 'it returns false'. Refute it at one input. -/
def lineSaysWrong : ChangeSpec := { name := "lineSays", fn := fun _ => fun
  | [d1, d2] => { results := [.lit (.bool false)], args := [d1, d2] }
  | _ => none }
def LineSaysWrongFalsely : Prop := lineSaysRow.holds Tryd.pinned (OpenSpec.ofChange lineSaysWrong)

/- THE SECOND FORM. 'bulk': how many values and letters a reading holds, each counted each time it is reached (what is shared counts as often as it is met; a slice's spare places count too). A statement '..UptoSaid' is the law's where the arguments, and the package variables that the reading takes, are together of bulk at most 1048576: NARROWER than '..Said'. Prove '..Said' where nothing that the law and all that it calls make is longer than what came in: it says more and counts as full. Else prove '..UptoSaid'. A law counts once. -/
mutual
def uptoBulk {H : Type} : DataW H → Nat
  | .lit (.string bytes) => bytes.length + 1
  | .lit _ => 1
  | .nil => 1
  | .ptr d => uptoBulk d + 1
  | .slice elems spare => uptoBulkAll elems + uptoBulkAll spare + 1
  | .agg parts => uptoBulkAll parts + 1
  | .iface _ d => uptoBulk d + 1
  | .map entries => uptoBulkEntries entries + 1
  | .held _ => 1
def uptoBulkAll {H : Type} : List (DataW H) → Nat
  | [] => 0
  | d :: r => uptoBulk d + uptoBulkAll r
def uptoBulkEntries {H : Type} : List (Lit × DataW H) → Nat
  | [] => 0
  | x :: r => uptoBulkEntry x + uptoBulkEntries r
def uptoBulkEntry {H : Type} : Lit × DataW H → Nat
  | (.string bytes, d) => bytes.length + uptoBulk d + 1
  | (_, d) => uptoBulk d + 1
 end
def uptoSmall : (H : Type) → List (DataW H) → Bool := fun _ ds => decide (uptoBulkAll ds ≤ 1048576)
def OpenSpec.upto (s : _root_.Go.ChangeSpec) : _root_.Go.OpenSpec := { _root_.Go.OpenSpec.ofChange s with cond := some uptoSmall }

/-- 'ferryhythelaw1.LineRuns', WHERE WHAT IT READS IS OF BULK AT MOST 1048576: true; the input reads as it did. -/
def lineRunsUptoRow : OpenClaim := { program := "ytalehbhimnhnjaadoor", sum := "da249a991c367ecdedc9bfafb4674c5c1357b02e6de2440ae283cd9d29703e8a", func := "ferryhythe/ferryhythelaw1.LineRuns", spec := "lineRuns", named := ["ferryhythe/line.codes"], apart := false, laid := [("ferryhythe/line.codes", laid_ferryhythe_line_codes)], narrowed := true }
def LineRunsUptoSaid : Prop := lineRunsUptoRow.holds Tryd.pinned (OpenSpec.upto lineRunsSpec)

/-- 'ferryhythelaw1.LineTurned', WHERE WHAT IT READS IS OF BULK AT MOST 1048576: true; the input reads as it did. -/
def lineTurnedUptoRow : OpenClaim := { program := "ytalehbhimnhnjaadoor", sum := "da249a991c367ecdedc9bfafb4674c5c1357b02e6de2440ae283cd9d29703e8a", func := "ferryhythe/ferryhythelaw1.LineTurned", spec := "lineTurned", named := ["ferryhythe/line.codes"], apart := false, laid := [("ferryhythe/line.codes", laid_ferryhythe_line_codes)], narrowed := true }
def LineTurnedUptoSaid : Prop := lineTurnedUptoRow.holds Tryd.pinned (OpenSpec.upto lineTurnedSpec)

/-- 'ferryhythelaw1.LineBack', WHERE WHAT IT READS IS OF BULK AT MOST 1048576: true; the input reads as it did. -/
def lineBackUptoRow : OpenClaim := { program := "ytalehbhimnhnjaadoor", sum := "da249a991c367ecdedc9bfafb4674c5c1357b02e6de2440ae283cd9d29703e8a", func := "ferryhythe/ferryhythelaw1.LineBack", spec := "lineBack", unfollowed := true, recurses := true, named := ["ferryhythe/line.codes"], apart := false, laid := [("ferryhythe/line.codes", laid_ferryhythe_line_codes)], narrowed := true }
def LineBackUptoSaid : Prop := lineBackUptoRow.holds Tryd.pinned (OpenSpec.upto lineBackSpec)

/-- 'ferryhythetop.TopWire', WHERE WHAT IT READS IS OF BULK AT MOST 1048576: true; the input reads as it did. -/
def topWireUptoRow : OpenClaim := { program := "ytalehbhimnhnjaadoor", sum := "da249a991c367ecdedc9bfafb4674c5c1357b02e6de2440ae283cd9d29703e8a", func := "ferryhythe/ferryhythetop.TopWire", spec := "topWire", unfollowed := true, recurses := true, named := ["ferryhythe/line.codes"], apart := false, laid := [("ferryhythe/line.codes", laid_ferryhythe_line_codes)], narrowed := true }
def TopWireUptoSaid : Prop := topWireUptoRow.holds Tryd.pinned (OpenSpec.upto topWireSpec)

/-- 'ferryhythelaw1.OnesSays', WHERE WHAT IT READS IS OF BULK AT MOST 1048576: true; the input reads as it did. -/
def onesSaysUptoRow : OpenClaim := { program := "ytalehbhimnhnjaadoor", sum := "da249a991c367ecdedc9bfafb4674c5c1357b02e6de2440ae283cd9d29703e8a", func := "ferryhythe/ferryhythelaw1.OnesSays", spec := "onesSays", inPlace := ["internal/reflectlite.ValueOf", "(internal/reflectlite.Value).Type", "(internal/reflectlite.Value).IsNil", "internal/reflectlite.TypeOf", "(internal/reflectlite.Value).Elem", "(internal/reflectlite.Value).Set"], unfollowed := true, recurses := true, named := ["errors.errorType"], apart := false, laid := [("errors.errorType", laid_errors_errorType)], narrowed := true }
def OnesSaysUptoSaid : Prop := onesSaysUptoRow.holds Tryd.pinned (OpenSpec.upto onesSaysSpec)

/-- 'ferryhythelaw1.CobsSays', WHERE WHAT IT READS IS OF BULK AT MOST 1048576: true; the input reads as it did. -/
def cobsSaysUptoRow : OpenClaim := { program := "ytalehbhimnhnjaadoor", sum := "da249a991c367ecdedc9bfafb4674c5c1357b02e6de2440ae283cd9d29703e8a", func := "ferryhythe/ferryhythelaw1.CobsSays", spec := "cobsSays", inPlace := ["internal/reflectlite.ValueOf", "(internal/reflectlite.Value).Type", "(internal/reflectlite.Value).IsNil", "internal/reflectlite.TypeOf", "(internal/reflectlite.Value).Elem", "(internal/reflectlite.Value).Set"], unfollowed := true, recurses := true, named := ["errors.errorType"], apart := false, laid := [("errors.errorType", laid_errors_errorType)], narrowed := true }
def CobsSaysUptoSaid : Prop := cobsSaysUptoRow.holds Tryd.pinned (OpenSpec.upto cobsSaysSpec)

/-- 'ferryhythelaw1.LineSays', WHERE WHAT IT READS IS OF BULK AT MOST 1048576: true; the input reads as it did. -/
def lineSaysUptoRow : OpenClaim := { program := "ytalehbhimnhnjaadoor", sum := "da249a991c367ecdedc9bfafb4674c5c1357b02e6de2440ae283cd9d29703e8a", func := "ferryhythe/ferryhythelaw1.LineSays", spec := "lineSays", inPlace := ["internal/reflectlite.ValueOf", "(internal/reflectlite.Value).Type", "(internal/reflectlite.Value).IsNil", "internal/reflectlite.TypeOf", "(internal/reflectlite.Value).Elem", "(internal/reflectlite.Value).Set"], unfollowed := true, recurses := true, named := ["ferryhythe/line.codes", "errors.errorType"], apart := false, laid := [("errors.errorType", laid_errors_errorType), ("ferryhythe/line.codes", laid_ferryhythe_line_codes)], narrowed := true }
def LineSaysUptoSaid : Prop := lineSaysUptoRow.holds Tryd.pinned (OpenSpec.upto lineSaysSpec)

end Rows
end Go.Proofs.YtalehbhimnhnjaaDoor
