/- Two parts compared. -/
import Derived.Test.YtbmajajndckfoaaDoorQSort
import Derived.Laws.StructEq
import Derived.Laws.Strings
import Derived.WideShapes
namespace Go.Proofs.YtbmajajndckfoaaDoor
open Go.RowKit
/-- Whether two parts are the same. -/
def eqPt (x y : Pt) : Bool := decide (x = y)
@[go_sem] theorem eqPart (a b : Int) (m k : Bool) (s t : ByteArray) (w : World) : (Op.equalIn 10000 50 (.agg #[.int .i64 a, .bool m, .string s]) (.agg #[.int .i64 b, .bool k, .string t])).run Tryd.prog w = .ok (eqPt (a, m, s) (b, k, t)) w := by
  have u3 := Tryd.underlying3
  have u4 := Tryd.underlying4
  have u9 := Tryd.underlying9
  have hS : Tryd.prog.underlying 50 = some (.struct (Tryd.prog.fieldsOf 50)) := by kernel_rfl
  have hp : Tryd.prog.stoodInHeld 50 = false := by kernel_rfl
  rw [show (10000 : Nat) = 9999 + 1 from rfl, run_equalIn_agg w 9999 50 _ _ hS hp]
  simp only [Program.fieldsOf, Tryd.underlying50]
  go_simp
  have hst : s.toList = t.toList ↔ s = t := by
    rw [Go.ByteArray.toList_eq, Go.ByteArray.toList_eq]
    exact ⟨fun h => Go.WideShapes.bytes_inj h, fun h => by rw [h]⟩
  by_cases h1 : a = b <;> by_cases h2 : m = k <;> by_cases h3 : s = t <;> simp [eqPt, h1, h2, h3, hst]
@[go_sem] theorem guardPart : Tryd.prog.eqGuardType Tryd.prog.depth 50 = false := by kernel_rfl
theorem eqPt_cases (x y : Pt) : (eqPt x y = true ∧ x.1 = y.1 ∧ x.2.1 = y.2.1 ∧ x.2.2.toList = y.2.2.toList) ∨ (eqPt x y = false ∧ ¬ x.1 = y.1) ∨ (eqPt x y = false ∧ x.1 = y.1 ∧ ¬ x.2.1 = y.2.1) ∨ (eqPt x y = false ∧ x.1 = y.1 ∧ x.2.1 = y.2.1 ∧ ¬ x.2.2.toList = y.2.2.toList) := by
  obtain ⟨a, m, s⟩ := x
  obtain ⟨b, k, t⟩ := y
  have hst : s.toList = t.toList ↔ s = t := by
    rw [Go.ByteArray.toList_eq, Go.ByteArray.toList_eq]
    exact ⟨fun h => Go.WideShapes.bytes_inj h, fun h => by rw [h]⟩
  by_cases h1 : a = b <;> by_cases h2 : m = k <;> by_cases h3 : s = t <;> simp [eqPt, h1, h2, h3, hst]
end Go.Proofs.YtbmajajndckfoaaDoor
