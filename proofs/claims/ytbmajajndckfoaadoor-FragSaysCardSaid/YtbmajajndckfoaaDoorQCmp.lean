/- The order of parts that the program sorts by: cmp.Compare at ints, and the closure of frag.Order. -/
import Derived.Test.YtbmajajndckfoaaDoorGrown
import Derived.Test.YtbmajajndckfoaaDoorPartRow
import Derived.Deep.DrawnRows
namespace Go.Proofs.YtbmajajndckfoaaDoor
open Go.RowKit
attribute [local go_sem ↓] Go.wp_at_zero Go.wp_at_succ
/-- cmp.Compare at ints. -/
def cmpI (x y : Int) : Int := if x < y then -1 else if y < x then 1 else 0
theorem isNaN_any (x : Int) (w : World) : Calls Tryd.prog 53 #[.int .i64 x] w fun e w' => e = .returned (.bool false) ∧ w' = w := by
  go_enter Tryd.func53, Tryd.ntmps53
  go_wp2
  go_ret
  exact ⟨ret_eq (bool_eq (by simp)), rfl⟩
theorem compare_any (x y : Int) (w : World) : Calls Tryd.prog 46 #[.int .i64 x, .int .i64 y] w fun e w' => e = .returned (.int .i64 (cmpI x y)) ∧ w' = w := by
  go_enter Tryd.func46, Tryd.ntmps46
  go_wp2_with (go_at_call 53; refine (isNaN_any _ _).mono ?_; rintro e w' ⟨rfl, rfl⟩)
  · have e : cmpI x y = -1 := by unfold cmpI; rw [if_pos (by assumption)]
    rw [e]
    go_ret
    exact ⟨rfl, rfl⟩
  · have e : cmpI x y = 1 := by unfold cmpI; rw [if_neg (by omega), if_pos (by assumption)]
    rw [e]
    go_ret
    exact ⟨rfl, rfl⟩
  · have e : cmpI x y = 0 := by unfold cmpI; rw [if_neg (by omega), if_neg (by omega)]
    rw [e]
    go_ret
    exact ⟨rfl, rfl⟩
set_option maxHeartbeats 1000000 in
theorem cmpQ_any (p q : Pt) (w : World) :
    Calls Tryd.prog 45 #[.agg #[.int .i64 p.1, .bool p.2.1, .string p.2.2], .agg #[.int .i64 q.1, .bool q.2.1, .string q.2.2]] w fun e w' => e = .returned (.int .i64 (cmpI p.1 q.1)) ∧ Grew w w' := by
  obtain ⟨a, l, s⟩ := p
  obtain ⟨b, m, t⟩ := q
  have HC := Lib.hid (fun w => compare_any a b w)
  simp only
  generalize cmpI a b = c at *
  go_enter Tryd.func45, Tryd.ntmps45
  go_wp2_with (go_at_call 46; with_reducible refine (HC.out _).mono ?_; rintro e w' ⟨rfl, rfl⟩)
  go_ret
  exact ⟨rfl, ((Grew.refl w).alloc _).alloc _⟩
end Go.Proofs.YtbmajajndckfoaaDoor
