/- The contract of the document's Bytes: what is wrong with some. -/
import Derived.Test.YtalehbhimnhnjaaDoorRefAll
import Derived.Test.YtalehbhimnhnjaaDoorBytes
namespace Go.Proofs.YtalehbhimnhnjaaDoor
open Go.RowKit

theorem refBytes_any (A : Option Addr) (n c : Nat) (xs : List Int) (m : Int) (w : World) (hr : Rds w 1 A n (ic xs)) (hn : n ≤ maxLen) :
    Calls Tryd.prog 23 #[.slice A n c, .int .i64 m] w fun e w' => e = .returned (.int .i64 (bytesE xs m)) ∧ w = w' := by
  have hl := hr.len_int
  have HN := Lib.hid hn
  unfold maxLen at hn
  by_cases h : m < (n : Int)
  · have HE := Lib.hid (show bytesE xs m = 4 from by unfold bytesE; rw [if_pos (by omega)])
    clear hl
    rw [HE.out]
    go_enter Tryd.func23, Tryd.ntmps23
    go_wp2
    go_ret
    exact ⟨rfl, rfl⟩
  · rcases ha : allB xs 0 255 with _ | _
    · have HE := Lib.hid (show bytesE xs m = 1 from by unfold bytesE; rw [if_neg (by omega), if_neg (by rw [ha]; simp)])
      clear hl
      rw [HE.out]
      go_enter Tryd.func23, Tryd.ntmps23
      go_wp2_with (go_at_call 20; refine (refAll_any _ _ _ _ _ _ _ hr HN.out).mono ?_; rintro e w' ⟨rfl, rfl⟩; rw [ha])
      go_ret
      exact ⟨rfl, rfl⟩
    · have HE := Lib.hid (show bytesE xs m = 0 from by unfold bytesE; rw [if_neg (by omega), if_pos ha])
      clear hl
      rw [HE.out]
      go_enter Tryd.func23, Tryd.ntmps23
      go_wp2_with (go_at_call 20; refine (refAll_any _ _ _ _ _ _ _ hr HN.out).mono ?_; rintro e w' ⟨rfl, rfl⟩; rw [ha])
      go_ret
      exact ⟨rfl, rfl⟩
end Go.Proofs.YtalehbhimnhnjaaDoor
