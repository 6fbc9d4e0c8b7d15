/-
  No cell of these rows narrows 'for every input' (looked for: loops, veiled, ifaces, maps, wideKeys, modest, calm, conditions, laid).
  DERIVED. THE GIVEN ROWS OF THIS SEAT. 7 by the template 'for every input the law returns true; each argument reads behind the call as it read before'; 0 by the template 'total and deterministic' (their statements: YtbmajajndckfoaaTotals.lean).
  GIVEN WITH THE SEED: the statements are not yours to turn. If you find one false, say at which input.
  Laid BY PROGRAM, IN A SANDBOX (cutbox-rows.mjs): the forced cells as the released guide's own fill.sh prints them over the translation eb8d482bcf48e7be… (all of the seat's roots in one cut). By AI agents, Wed Nov 11 2026. No macro, syntax, notation, axiom, sorry.
-/
import Derived.Test.YtbmajajndckfoaaChecked
import GoSem.Claim
import GoSem.ClaimJoined
import GoSem.ClaimMapViews
import Derived.JoinedTies
import Derived.KernelRfl
namespace Go.Proofs.Ytbmajajndckfoaa
/- THE CELL 'sum', in the pinned program and in every row, IS THE sha256 OF THE DUMP (.gsa) THAT YtbmajajndckfoaaProg.lean LOADS. Nothing in Lean hashes anything: it is a label: what it is worth is what the hold of that sum in a sandbox is worth. -/
noncomputable def Try.pinned : Pinned := { name := "ytbmajajndckfoaa", sum := "eb8d482bcf48e7be0e8fcf3816afe6c26c0efb40aa36c300913b23b26a6b439c", checked := Try.checked }
namespace Rows
def none {H : Type} : Left H := { results := [], args := [] }

/-- 'ferryhythelaw1.StuffFlag': WHATEVER THE INPUT: true; the input reads as it did. -/
def stuffFlagSpec : ChangeSpec := { name := "stuffFlag", fn := fun _ => fun
  | [d] => { results := [.lit (.bool true)], args := [d] }
  | _ => none }
def stuffFlagRow : OpenClaim := { program := "ytbmajajndckfoaa", sum := "eb8d482bcf48e7be0e8fcf3816afe6c26c0efb40aa36c300913b23b26a6b439c", func := "ferryhythe/ferryhythelaw1.StuffFlag", spec := "stuffFlag", apart := false }
def StuffFlagSaid : Prop := stuffFlagRow.holds Try.pinned (OpenSpec.ofChange stuffFlagSpec)

/-- ITS FALSE NEIGHBOUR: 'it returns false'. Refute it at one input. -/
def stuffFlagWrong : ChangeSpec := { name := "stuffFlag", fn := fun _ => fun
  | [d] => { results := [.lit (.bool false)], args := [d] }
  | _ => none }
def StuffFlagWrongFalsely : Prop := stuffFlagRow.holds Try.pinned (OpenSpec.ofChange stuffFlagWrong)

/-- 'ferryhythelaw1.StuffBack': WHATEVER THE INPUT: true; the input reads as it did. -/
def stuffBackSpec : ChangeSpec := { name := "stuffBack", fn := fun _ => fun
  | [d1, d2] => { results := [.lit (.bool true)], args := [d1, d2] }
  | _ => none }
def stuffBackRow : OpenClaim := { program := "ytbmajajndckfoaa", sum := "eb8d482bcf48e7be0e8fcf3816afe6c26c0efb40aa36c300913b23b26a6b439c", func := "ferryhythe/ferryhythelaw1.StuffBack", spec := "stuffBack", apart := false }
def StuffBackSaid : Prop := stuffBackRow.holds Try.pinned (OpenSpec.ofChange stuffBackSpec)

/-- ITS FALSE NEIGHBOUR: 'it returns false'. Refute it at one input. -/
def stuffBackWrong : ChangeSpec := { name := "stuffBack", fn := fun _ => fun
  | [d1, d2] => { results := [.lit (.bool false)], args := [d1, d2] }
  | _ => none }
def StuffBackWrongFalsely : Prop := stuffBackRow.holds Try.pinned (OpenSpec.ofChange stuffBackWrong)

/-- 'ferryhythelaw1.StuffFrames': WHATEVER THE INPUT: true; the input reads as it did. -/
def stuffFramesSpec : ChangeSpec := { name := "stuffFrames", fn := fun _ => fun
  | [d] => { results := [.lit (.bool true)], args := [d] }
  | _ => none }
def stuffFramesRow : OpenClaim := { program := "ytbmajajndckfoaa", sum := "eb8d482bcf48e7be0e8fcf3816afe6c26c0efb40aa36c300913b23b26a6b439c", func := "ferryhythe/ferryhythelaw1.StuffFrames", spec := "stuffFrames", apart := false }
def StuffFramesSaid : Prop := stuffFramesRow.holds Try.pinned (OpenSpec.ofChange stuffFramesSpec)

/-- ITS FALSE NEIGHBOUR: 'it returns false'. Refute it at one input. -/
def stuffFramesWrong : ChangeSpec := { name := "stuffFrames", fn := fun _ => fun
  | [d] => { results := [.lit (.bool false)], args := [d] }
  | _ => none }
def StuffFramesWrongFalsely : Prop := stuffFramesRow.holds Try.pinned (OpenSpec.ofChange stuffFramesWrong)

/-- 'ferryhythelaw1.FragJoin': WHATEVER THE INPUT: true; the input reads as it did. -/
def fragJoinSpec : ChangeSpec := { name := "fragJoin", fn := fun _ => fun
  | [d1, d2, d3] => { results := [.lit (.bool true)], args := [d1, d2, d3] }
  | _ => none }
def fragJoinRow : OpenClaim := { program := "ytbmajajndckfoaa", sum := "eb8d482bcf48e7be0e8fcf3816afe6c26c0efb40aa36c300913b23b26a6b439c", func := "ferryhythe/ferryhythelaw1.FragJoin", spec := "fragJoin", unfollowed := true, recurses := true, apart := false }
def FragJoinSaid : Prop := fragJoinRow.holds Try.pinned (OpenSpec.ofChange fragJoinSpec)

/-- ITS FALSE NEIGHBOUR: 'it returns false'. Refute it at one input. -/
def fragJoinWrong : ChangeSpec := { name := "fragJoin", fn := fun _ => fun
  | [d1, d2, d3] => { results := [.lit (.bool false)], args := [d1, d2, d3] }
  | _ => none }
def FragJoinWrongFalsely : Prop := fragJoinRow.holds Try.pinned (OpenSpec.ofChange fragJoinWrong)

/-- 'ferryhythelaw1.FragAgain': WHATEVER THE INPUT: true; the input reads as it did. -/
def fragAgainSpec : ChangeSpec := { name := "fragAgain", fn := fun _ => fun
  | [d1, d2, d3, d4] => { results := [.lit (.bool true)], args := [d1, d2, d3, d4] }
  | _ => none }
def fragAgainRow : OpenClaim := { program := "ytbmajajndckfoaa", sum := "eb8d482bcf48e7be0e8fcf3816afe6c26c0efb40aa36c300913b23b26a6b439c", func := "ferryhythe/ferryhythelaw1.FragAgain", spec := "fragAgain", unfollowed := true, recurses := true, apart := false }
def FragAgainSaid : Prop := fragAgainRow.holds Try.pinned (OpenSpec.ofChange fragAgainSpec)

/-- ITS FALSE NEIGHBOUR: 'it returns false'. Refute it at one input. -/
def fragAgainWrong : ChangeSpec := { name := "fragAgain", fn := fun _ => fun
  | [d1, d2, d3, d4] => { results := [.lit (.bool false)], args := [d1, d2, d3, d4] }
  | _ => none }
def FragAgainWrongFalsely : Prop := fragAgainRow.holds Try.pinned (OpenSpec.ofChange fragAgainWrong)

/-- 'ferryhythelaw1.FragOrder': WHATEVER THE INPUT: true; the input reads as it did. -/
def fragOrderSpec : ChangeSpec := { name := "fragOrder", fn := fun _ => fun
  | [d] => { results := [.lit (.bool true)], args := [d] }
  | _ => none }
def fragOrderRow : OpenClaim := { program := "ytbmajajndckfoaa", sum := "eb8d482bcf48e7be0e8fcf3816afe6c26c0efb40aa36c300913b23b26a6b439c", func := "ferryhythe/ferryhythelaw1.FragOrder", spec := "fragOrder", unfollowed := true, recurses := true, apart := false }
def FragOrderSaid : Prop := fragOrderRow.holds Try.pinned (OpenSpec.ofChange fragOrderSpec)

/-- ITS FALSE NEIGHBOUR: 'it returns false'. Refute it at one input. -/
def fragOrderWrong : ChangeSpec := { name := "fragOrder", fn := fun _ => fun
  | [d] => { results := [.lit (.bool false)], args := [d] }
  | _ => none }
def FragOrderWrongFalsely : Prop := fragOrderRow.holds Try.pinned (OpenSpec.ofChange fragOrderWrong)

/-- 'ferryhythetop.TopFrames': WHATEVER THE INPUT: true; the input reads as it did. -/
def topFramesSpec : ChangeSpec := { name := "topFrames", fn := fun _ => fun
  | [d1, d2, d3] => { results := [.lit (.bool true)], args := [d1, d2, d3] }
  | _ => none }
def topFramesRow : OpenClaim := { program := "ytbmajajndckfoaa", sum := "eb8d482bcf48e7be0e8fcf3816afe6c26c0efb40aa36c300913b23b26a6b439c", func := "ferryhythe/ferryhythetop.TopFrames", spec := "topFrames", unfollowed := true, recurses := true, apart := false }
def TopFramesSaid : Prop := topFramesRow.holds Try.pinned (OpenSpec.ofChange topFramesSpec)

/-- ITS FALSE NEIGHBOUR: 'it returns false'. Refute it at one input. -/
def topFramesWrong : ChangeSpec := { name := "topFrames", fn := fun _ => fun
  | [d1, d2, d3] => { results := [.lit (.bool false)], args := [d1, d2, d3] }
  | _ => none }
def TopFramesWrongFalsely : Prop := topFramesRow.holds Try.pinned (OpenSpec.ofChange topFramesWrong)

/- THE SECOND FORM. 'bulk': how many values and letters a reading holds, each counted each time it is reached (what is shared counts as often as it is met; a slice's spare places count too). A statement '..UptoSaid' is the law's where the arguments, and the package variables that the reading takes, are together of bulk at most 1048576: NARROWER than '..Said'. Prove '..Said' where nothing that the law and all that it calls make is longer than what came in: it says more and counts as full. Else prove '..UptoSaid'. A law counts once. -/
mutual
def uptoBulk {H : Type} : DataW H → Nat
  | .lit (.string bytes) => bytes.length + 1
  | .lit _ => 1
  | .nil => 1
  | .ptr d => uptoBulk d + 1
  | .slice elems spare => uptoBulkAll elems + uptoBulkAll spare + 1
  | .agg parts => uptoBulkAll parts + 1
  | .iface _ d => uptoBulk d + 1
  | .map entries => uptoBulkEntries entries + 1
  | .held _ => 1
def uptoBulkAll {H : Type} : List (DataW H) → Nat
  | [] => 0
  | d :: r => uptoBulk d + uptoBulkAll r
def uptoBulkEntries {H : Type} : List (Lit × DataW H) → Nat
  | [] => 0
  | x :: r => uptoBulkEntry x + uptoBulkEntries r
def uptoBulkEntry {H : Type} : Lit × DataW H → Nat
  | (.string bytes, d) => bytes.length + uptoBulk d + 1
  | (_, d) => uptoBulk d + 1
 end
def uptoSmall : (H : Type) → List (DataW H) → Bool := fun _ ds => decide (uptoBulkAll ds ≤ 1048576)
def OpenSpec.upto (s : _root_.Go.ChangeSpec) : _root_.Go.OpenSpec := { _root_.Go.OpenSpec.ofChange s with cond := some uptoSmall }

/-- 'ferryhythelaw1.StuffFlag', WHERE WHAT IT READS IS OF BULK AT MOST 1048576: true; the input reads as it did. -/
def stuffFlagUptoRow : OpenClaim := { program := "ytbmajajndckfoaa", sum := "eb8d482bcf48e7be0e8fcf3816afe6c26c0efb40aa36c300913b23b26a6b439c", func := "ferryhythe/ferryhythelaw1.StuffFlag", spec := "stuffFlag", apart := false, narrowed := true }
def StuffFlagUptoSaid : Prop := stuffFlagUptoRow.holds Try.pinned (OpenSpec.upto stuffFlagSpec)

/-- 'ferryhythelaw1.StuffBack', WHERE WHAT IT READS IS OF BULK AT MOST 1048576: true; the input reads as it did. -/
def stuffBackUptoRow : OpenClaim := { program := "ytbmajajndckfoaa", sum := "eb8d482bcf48e7be0e8fcf3816afe6c26c0efb40aa36c300913b23b26a6b439c", func := "ferryhythe/ferryhythelaw1.StuffBack", spec := "stuffBack", apart := false, narrowed := true }
def StuffBackUptoSaid : Prop := stuffBackUptoRow.holds Try.pinned (OpenSpec.upto stuffBackSpec)

/-- 'ferryhythelaw1.StuffFrames', WHERE WHAT IT READS IS OF BULK AT MOST 1048576: true; the input reads as it did. -/
def stuffFramesUptoRow : OpenClaim := { program := "ytbmajajndckfoaa", sum := "eb8d482bcf48e7be0e8fcf3816afe6c26c0efb40aa36c300913b23b26a6b439c", func := "ferryhythe/ferryhythelaw1.StuffFrames", spec := "stuffFrames", apart := false, narrowed := true }
def StuffFramesUptoSaid : Prop := stuffFramesUptoRow.holds Try.pinned (OpenSpec.upto stuffFramesSpec)

/-- 'ferryhythelaw1.FragJoin', WHERE WHAT IT READS IS OF BULK AT MOST 1048576: true; the input reads as it did. -/
def fragJoinUptoRow : OpenClaim := { program := "ytbmajajndckfoaa", sum := "eb8d482bcf48e7be0e8fcf3816afe6c26c0efb40aa36c300913b23b26a6b439c", func := "ferryhythe/ferryhythelaw1.FragJoin", spec := "fragJoin", unfollowed := true, recurses := true, apart := false, narrowed := true }
def FragJoinUptoSaid : Prop := fragJoinUptoRow.holds Try.pinned (OpenSpec.upto fragJoinSpec)

/-- 'ferryhythelaw1.FragAgain', WHERE WHAT IT READS IS OF BULK AT MOST 1048576: true; the input reads as it did. -/
def fragAgainUptoRow : OpenClaim := { program := "ytbmajajndckfoaa", sum := "eb8d482bcf48e7be0e8fcf3816afe6c26c0efb40aa36c300913b23b26a6b439c", func := "ferryhythe/ferryhythelaw1.FragAgain", spec := "fragAgain", unfollowed := true, recurses := true, apart := false, narrowed := true }
def FragAgainUptoSaid : Prop := fragAgainUptoRow.holds Try.pinned (OpenSpec.upto fragAgainSpec)

/-- 'ferryhythelaw1.FragOrder', WHERE WHAT IT READS IS OF BULK AT MOST 1048576: true; the input reads as it did. -/
def fragOrderUptoRow : OpenClaim := { program := "ytbmajajndckfoaa", sum := "eb8d482bcf48e7be0e8fcf3816afe6c26c0efb40aa36c300913b23b26a6b439c", func := "ferryhythe/ferryhythelaw1.FragOrder", spec := "fragOrder", unfollowed := true, recurses := true, apart := false, narrowed := true }
def FragOrderUptoSaid : Prop := fragOrderUptoRow.holds Try.pinned (OpenSpec.upto fragOrderSpec)

/-- 'ferryhythetop.TopFrames', WHERE WHAT IT READS IS OF BULK AT MOST 1048576: true; the input reads as it did. -/
def topFramesUptoRow : OpenClaim := { program := "ytbmajajndckfoaa", sum := "eb8d482bcf48e7be0e8fcf3816afe6c26c0efb40aa36c300913b23b26a6b439c", func := "ferryhythe/ferryhythetop.TopFrames", spec := "topFrames", unfollowed := true, recurses := true, apart := false, narrowed := true }
def TopFramesUptoSaid : Prop := topFramesUptoRow.holds Try.pinned (OpenSpec.upto topFramesSpec)

end Rows
end Go.Proofs.Ytbmajajndckfoaa
