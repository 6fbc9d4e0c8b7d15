/- The laws' helper in. -/
import Derived.Test.YtfgpppgehbpblaaDoorWithin
namespace Go.Proofs.YtfgpppgehbpblaaDoor
open Go.RowKit
theorem in_any (a b c : Int) (w : World) :
    Calls Tryd.prog 10 #[.int .i64 a, .int .i64 b, .int .i64 c] w fun e w' => e = .returned (.bool (inB a b c)) ∧ w = w' := by
  by_cases h : b ≤ a
  · by_cases h2 : a ≤ c
    all_goals
      go_enter Tryd.func10, Tryd.ntmps10
      go_wp2
      go_ret
      exact ⟨by simp [inB, h, h2], rfl⟩
  · go_enter Tryd.func10, Tryd.ntmps10
    go_wp2
    go_ret
    exact ⟨ret_eq (bool_eq (by rw [eq_comm, inB_false]; omega)), rfl⟩
end Go.Proofs.YtfgpppgehbpblaaDoor
