/- An error as a value of its number. -/
import Derived.Test.YtbmajajndckfoaaDoorWords
namespace Go.Proofs.YtbmajajndckfoaaDoor
def errV (k : Int) : Value := if k = 0 then .nilIface else .iface 60 (.int .i64 k)
theorem errV_zero : errV 0 = .nilIface := by unfold errV; rw [if_pos rfl]
theorem errV_ne {k : Int} (h : k ≠ 0) : errV k = .iface 60 (.int .i64 k) := by unfold errV; rw [if_neg h]
end Go.Proofs.YtbmajajndckfoaaDoor
