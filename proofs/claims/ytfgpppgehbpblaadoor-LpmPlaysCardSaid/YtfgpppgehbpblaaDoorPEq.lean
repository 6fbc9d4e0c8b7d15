/- Two prefixes compared with '==' or '!='. -/
import Derived.Test.YtfgpppgehbpblaaDoorPfx
import Derived.Laws.StructEq
namespace Go.Proofs.YtfgpppgehbpblaaDoor
open Go.RowKit
@[go_sem] theorem eqPfx (a b c d : Int) (w : World) : (Op.equalIn 10000 23 (.agg #[.int .i64 a, .int .i64 b]) (.agg #[.int .i64 c, .int .i64 d])).run Tryd.prog w = .ok (a == c && b == d) w := by
  have u3 := Tryd.underlying3
  have hS : Tryd.prog.underlying 23 = some (.struct (Tryd.prog.fieldsOf 23)) := by kernel_rfl
  have hp : Tryd.prog.stoodInHeld 23 = false := by kernel_rfl
  rw [show (10000 : Nat) = 9999 + 1 from rfl, run_equalIn_agg w 9999 23 _ _ hS hp]
  simp only [Program.fieldsOf, Tryd.underlying23]
  go_simp
  by_cases h1 : a = c <;> by_cases h2 : b = d <;> simp [h1, h2]
@[go_sem] theorem guardPfx : Tryd.prog.eqGuardType Tryd.prog.depth 23 = false := by kernel_rfl
end Go.Proofs.YtfgpppgehbpblaaDoor
