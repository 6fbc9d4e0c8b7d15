/- The contract of core.Within: for all arguments it returns what its text says, and changes nothing. -/
import Derived.Test.YtbmajajndckfoaaDoorRows
import Derived.Test.YtbmajajndckfoaaDoorWords
import Derived.Deep.DeepFit
namespace Go.Proofs.YtbmajajndckfoaaDoor
open Go.RowKit

def inB (a b c : Int) : Bool := decide (b ≤ a) && decide (a ≤ c)
theorem inB_true {a b c : Int} : inB a b c = true ↔ b ≤ a ∧ a ≤ c := by simp [inB]
theorem inB_false {a b c : Int} : inB a b c = false ↔ a < b ∨ c < a := by
  rw [← Bool.not_eq_true, inB_true]; omega
def allB (xs : List Int) (b c : Int) : Bool := xs.all fun a => inB a b c

theorem within_any (a b c : Int) (w : World) :
    Calls Tryd.prog 29 #[.int .i64 a, .int .i64 b, .int .i64 c] w fun e w' => e = .returned (.bool (inB a b c)) ∧ w = w' := by
  by_cases h : b ≤ a
  · by_cases h2 : a ≤ c
    all_goals
      go_enter Tryd.func29, Tryd.ntmps29
      go_wp2
      go_ret
      exact ⟨by simp [inB, h, h2], rfl⟩
  · go_enter Tryd.func29, Tryd.ntmps29
    go_wp2
    go_ret
    exact ⟨ret_eq (bool_eq (by rw [eq_comm, inB_false]; omega)), rfl⟩

end Go.Proofs.YtbmajajndckfoaaDoor
