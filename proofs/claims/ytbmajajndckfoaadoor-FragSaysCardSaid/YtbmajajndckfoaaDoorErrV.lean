/- ferryhythesame.Error at an error as a value of its number. -/
import Derived.Test.YtbmajajndckfoaaDoorTold
import Derived.Test.YtbmajajndckfoaaDoorErrW
namespace Go.Proofs.YtbmajajndckfoaaDoor
open Go.RowKit
theorem error_errV (k e : Int) (w : World) (hg : LaidW w) : Calls Tryd.prog 10 #[errV k, .int .i64 e] w fun r w' => r = .returned (.bool (k == e)) ∧ Below w.heap.size w w' := by
  by_cases h : k = 0
  · subst h
    rw [errV_zero]
    exact (error_nil e w).mono fun _ _ ⟨h1, h2⟩ => ⟨h1, by subst h2; exact Below.refl _ _⟩
  · rw [errV_ne h]
    exact error_errno k e w hg
theorem error_same (k : Int) (w : World) (hg : LaidW w) : Calls Tryd.prog 10 #[errV k, .int .i64 k] w fun r w' => r = .returned (.bool true) ∧ Below w.heap.size w w' :=
  (error_errV k k w hg).mono fun _ _ ⟨h1, h2⟩ => ⟨by rw [h1, beq_self_eq_true], h2⟩
end Go.Proofs.YtbmajajndckfoaaDoor
