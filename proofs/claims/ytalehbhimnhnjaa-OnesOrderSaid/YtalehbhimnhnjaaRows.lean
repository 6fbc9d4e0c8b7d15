/-
  No cell of these rows narrows 'for every input' (looked for: loops, veiled, ifaces, maps, wideKeys, modest, calm, conditions, laid).
  DERIVED. THE GIVEN ROWS OF THIS SEAT. 5 by the template 'for every input the law returns true; each argument reads behind the call as it read before'; 0 by the template 'total and deterministic' (their statements: YtalehbhimnhnjaaTotals.lean).
  GIVEN WITH THE SEED: the statements are not yours to turn. If you find one false, say at which input.
  Laid BY PROGRAM, IN A SANDBOX (cutbox-rows.mjs): the forced cells as the released guide's own fill.sh prints them over the translation d24a99f803b183f1… (all of the seat's roots in one cut). By AI agents, Wed Nov 11 2026. No macro, syntax, notation, axiom, sorry.
-/
import Derived.Test.YtalehbhimnhnjaaChecked
import GoSem.Claim
import GoSem.ClaimJoined
import GoSem.ClaimMapViews
import Derived.JoinedTies
import Derived.KernelRfl
namespace Go.Proofs.Ytalehbhimnhnjaa
/- THE CELL 'sum', in the pinned program and in every row, IS THE sha256 OF THE DUMP (.gsa) THAT YtalehbhimnhnjaaProg.lean LOADS. Nothing in Lean hashes anything: it is a label: what it is worth is what the hold of that sum in a sandbox is worth. -/
noncomputable def Try.pinned : Pinned := { name := "ytalehbhimnhnjaa", sum := "d24a99f803b183f16b8e19768740573779466b4d2b76e5ac063d4bd403150d98", checked := Try.checked }
namespace Rows
def none {H : Type} : Left H := { results := [], args := [] }

/-- 'ferryhythelaw1.OnesGood': WHATEVER THE INPUT: true; the input reads as it did. -/
def onesGoodSpec : ChangeSpec := { name := "onesGood", fn := fun _ => fun
  | [d1, d2, d3] => { results := [.lit (.bool true)], args := [d1, d2, d3] }
  | _ => none }
def onesGoodRow : OpenClaim := { program := "ytalehbhimnhnjaa", sum := "d24a99f803b183f16b8e19768740573779466b4d2b76e5ac063d4bd403150d98", func := "ferryhythe/ferryhythelaw1.OnesGood", spec := "onesGood", unfollowed := true, recurses := true, apart := false }
def OnesGoodSaid : Prop := onesGoodRow.holds Try.pinned (OpenSpec.ofChange onesGoodSpec)

/-- ITS FALSE NEIGHBOUR: 'it returns false'. Refute it at one input. -/
def onesGoodWrong : ChangeSpec := { name := "onesGood", fn := fun _ => fun
  | [d1, d2, d3] => { results := [.lit (.bool false)], args := [d1, d2, d3] }
  | _ => none }
def OnesGoodWrongFalsely : Prop := onesGoodRow.holds Try.pinned (OpenSpec.ofChange onesGoodWrong)

/-- 'ferryhythelaw1.OnesOrder': WHATEVER THE INPUT: true; the input reads as it did. -/
def onesOrderSpec : ChangeSpec := { name := "onesOrder", fn := fun _ => fun
  | [d1, d2] => { results := [.lit (.bool true)], args := [d1, d2] }
  | _ => none }
def onesOrderRow : OpenClaim := { program := "ytalehbhimnhnjaa", sum := "d24a99f803b183f16b8e19768740573779466b4d2b76e5ac063d4bd403150d98", func := "ferryhythe/ferryhythelaw1.OnesOrder", spec := "onesOrder", unfollowed := true, recurses := true, apart := false }
def OnesOrderSaid : Prop := onesOrderRow.holds Try.pinned (OpenSpec.ofChange onesOrderSpec)

/-- ITS FALSE NEIGHBOUR: 'it returns false'. Refute it at one input. -/
def onesOrderWrong : ChangeSpec := { name := "onesOrder", fn := fun _ => fun
  | [d1, d2] => { results := [.lit (.bool false)], args := [d1, d2] }
  | _ => none }
def OnesOrderWrongFalsely : Prop := onesOrderRow.holds Try.pinned (OpenSpec.ofChange onesOrderWrong)

/-- 'ferryhythelaw1.OnesMend': WHATEVER THE INPUT: true; the input reads as it did. -/
def onesMendSpec : ChangeSpec := { name := "onesMend", fn := fun _ => fun
  | [d1, d2, d3] => { results := [.lit (.bool true)], args := [d1, d2, d3] }
  | _ => none }
def onesMendRow : OpenClaim := { program := "ytalehbhimnhnjaa", sum := "d24a99f803b183f16b8e19768740573779466b4d2b76e5ac063d4bd403150d98", func := "ferryhythe/ferryhythelaw1.OnesMend", spec := "onesMend", unfollowed := true, recurses := true, apart := false }
def OnesMendSaid : Prop := onesMendRow.holds Try.pinned (OpenSpec.ofChange onesMendSpec)

/-- ITS FALSE NEIGHBOUR: 'it returns false'. Refute it at one input. -/
def onesMendWrong : ChangeSpec := { name := "onesMend", fn := fun _ => fun
  | [d1, d2, d3] => { results := [.lit (.bool false)], args := [d1, d2, d3] }
  | _ => none }
def OnesMendWrongFalsely : Prop := onesMendRow.holds Try.pinned (OpenSpec.ofChange onesMendWrong)

/-- 'ferryhythelaw1.CobsBack': WHATEVER THE INPUT: true; the input reads as it did. -/
def cobsBackSpec : ChangeSpec := { name := "cobsBack", fn := fun _ => fun
  | [d] => { results := [.lit (.bool true)], args := [d] }
  | _ => none }
def cobsBackRow : OpenClaim := { program := "ytalehbhimnhnjaa", sum := "d24a99f803b183f16b8e19768740573779466b4d2b76e5ac063d4bd403150d98", func := "ferryhythe/ferryhythelaw1.CobsBack", spec := "cobsBack", apart := false }
def CobsBackSaid : Prop := cobsBackRow.holds Try.pinned (OpenSpec.ofChange cobsBackSpec)

/-- ITS FALSE NEIGHBOUR: 'it returns false'. Refute it at one input. -/
def cobsBackWrong : ChangeSpec := { name := "cobsBack", fn := fun _ => fun
  | [d] => { results := [.lit (.bool false)], args := [d] }
  | _ => none }
def CobsBackWrongFalsely : Prop := cobsBackRow.holds Try.pinned (OpenSpec.ofChange cobsBackWrong)

/-- 'ferryhythelaw1.CobsJoin': WHATEVER THE INPUT: true; the input reads as it did. -/
def cobsJoinSpec : ChangeSpec := { name := "cobsJoin", fn := fun _ => fun
  | [d1, d2] => { results := [.lit (.bool true)], args := [d1, d2] }
  | _ => none }
def cobsJoinRow : OpenClaim := { program := "ytalehbhimnhnjaa", sum := "d24a99f803b183f16b8e19768740573779466b4d2b76e5ac063d4bd403150d98", func := "ferryhythe/ferryhythelaw1.CobsJoin", spec := "cobsJoin", apart := false }
def CobsJoinSaid : Prop := cobsJoinRow.holds Try.pinned (OpenSpec.ofChange cobsJoinSpec)

/-- ITS FALSE NEIGHBOUR: 'it returns false'. Refute it at one input. -/
def cobsJoinWrong : ChangeSpec := { name := "cobsJoin", fn := fun _ => fun
  | [d1, d2] => { results := [.lit (.bool false)], args := [d1, d2] }
  | _ => none }
def CobsJoinWrongFalsely : Prop := cobsJoinRow.holds Try.pinned (OpenSpec.ofChange cobsJoinWrong)

/- THE SECOND FORM. 'bulk': how many values and letters a reading holds, each counted each time it is reached (what is shared counts as often as it is met; a slice's spare places count too). A statement '..UptoSaid' is the law's where the arguments, and the package variables that the reading takes, are together of bulk at most 1048576: NARROWER than '..Said'. Prove '..Said' where nothing that the law and all that it calls make is longer than what came in: it says more and counts as full. Else prove '..UptoSaid'. A law counts once. -/
mutual
def uptoBulk {H : Type} : DataW H → Nat
  | .lit (.string bytes) => bytes.length + 1
  | .lit _ => 1
  | .nil => 1
  | .ptr d => uptoBulk d + 1
  | .slice elems spare => uptoBulkAll elems + uptoBulkAll spare + 1
  | .agg parts => uptoBulkAll parts + 1
  | .iface _ d => uptoBulk d + 1
  | .map entries => uptoBulkEntries entries + 1
  | .held _ => 1
def uptoBulkAll {H : Type} : List (DataW H) → Nat
  | [] => 0
  | d :: r => uptoBulk d + uptoBulkAll r
def uptoBulkEntries {H : Type} : List (Lit × DataW H) → Nat
  | [] => 0
  | x :: r => uptoBulkEntry x + uptoBulkEntries r
def uptoBulkEntry {H : Type} : Lit × DataW H → Nat
  | (.string bytes, d) => bytes.length + uptoBulk d + 1
  | (_, d) => uptoBulk d + 1
 end
def uptoSmall : (H : Type) → List (DataW H) → Bool := fun _ ds => decide (uptoBulkAll ds ≤ 1048576)
def OpenSpec.upto (s : _root_.Go.ChangeSpec) : _root_.Go.OpenSpec := { _root_.Go.OpenSpec.ofChange s with cond := some uptoSmall }

/-- 'ferryhythelaw1.OnesGood', WHERE WHAT IT READS IS OF BULK AT MOST 1048576: true; the input reads as it did. -/
def onesGoodUptoRow : OpenClaim := { program := "ytalehbhimnhnjaa", sum := "d24a99f803b183f16b8e19768740573779466b4d2b76e5ac063d4bd403150d98", func := "ferryhythe/ferryhythelaw1.OnesGood", spec := "onesGood", unfollowed := true, recurses := true, apart := false, narrowed := true }
def OnesGoodUptoSaid : Prop := onesGoodUptoRow.holds Try.pinned (OpenSpec.upto onesGoodSpec)

/-- 'ferryhythelaw1.OnesOrder', WHERE WHAT IT READS IS OF BULK AT MOST 1048576: true; the input reads as it did. -/
def onesOrderUptoRow : OpenClaim := { program := "ytalehbhimnhnjaa", sum := "d24a99f803b183f16b8e19768740573779466b4d2b76e5ac063d4bd403150d98", func := "ferryhythe/ferryhythelaw1.OnesOrder", spec := "onesOrder", unfollowed := true, recurses := true, apart := false, narrowed := true }
def OnesOrderUptoSaid : Prop := onesOrderUptoRow.holds Try.pinned (OpenSpec.upto onesOrderSpec)

/-- 'ferryhythelaw1.OnesMend', WHERE WHAT IT READS IS OF BULK AT MOST 1048576: true; the input reads as it did. -/
def onesMendUptoRow : OpenClaim := { program := "ytalehbhimnhnjaa", sum := "d24a99f803b183f16b8e19768740573779466b4d2b76e5ac063d4bd403150d98", func := "ferryhythe/ferryhythelaw1.OnesMend", spec := "onesMend", unfollowed := true, recurses := true, apart := false, narrowed := true }
def OnesMendUptoSaid : Prop := onesMendUptoRow.holds Try.pinned (OpenSpec.upto onesMendSpec)

/-- 'ferryhythelaw1.CobsBack', WHERE WHAT IT READS IS OF BULK AT MOST 1048576: true; the input reads as it did. -/
def cobsBackUptoRow : OpenClaim := { program := "ytalehbhimnhnjaa", sum := "d24a99f803b183f16b8e19768740573779466b4d2b76e5ac063d4bd403150d98", func := "ferryhythe/ferryhythelaw1.CobsBack", spec := "cobsBack", apart := false, narrowed := true }
def CobsBackUptoSaid : Prop := cobsBackUptoRow.holds Try.pinned (OpenSpec.upto cobsBackSpec)

/-- 'ferryhythelaw1.CobsJoin', WHERE WHAT IT READS IS OF BULK AT MOST 1048576: true; the input reads as it did. -/
def cobsJoinUptoRow : OpenClaim := { program := "ytalehbhimnhnjaa", sum := "d24a99f803b183f16b8e19768740573779466b4d2b76e5ac063d4bd403150d98", func := "ferryhythe/ferryhythelaw1.CobsJoin", spec := "cobsJoin", apart := false, narrowed := true }
def CobsJoinUptoSaid : Prop := cobsJoinUptoRow.holds Try.pinned (OpenSpec.upto cobsJoinSpec)

end Rows
end Go.Proofs.Ytalehbhimnhnjaa
