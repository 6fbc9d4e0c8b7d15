/- Contracts of package serial: Add, Less, Whole return what the document says. -/
import Derived.Test.YtljdlhahfeipcaaDoorCore
namespace Go.Proofs.YtljdlhahfeipcaaDoor
open Go.RowKit

theorem add_ok (a n : Int) (w : World) (h1 : 0 ≤ a) (h2 : a ≤ 255) (h3 : 0 ≤ n) (h4 : n ≤ 127) :
    Calls Tryd.prog 6 #[.int .i64 a, .int .i64 n] w fun e w' => e = .returned (.tuple #[.int .i64 ((a + n) % 256), .nilIface]) ∧ w = w' := by
  have i1 : inB a 0 255 = true := by rw [inB_true]; omega
  have i2 : inB n 0 127 = true := by rw [inB_true]; omega
  go_enter Tryd.func6, Tryd.ntmps6
  go_wp2_with (go_at_call 13; refine (within_any _ _ _ _).mono ?_; rintro e w' ⟨rfl, rfl⟩)
  go_ret2
  exact ⟨rfl, rfl⟩
theorem add_err (a n : Int) (w : World) (h : inB a 0 255 = false ∨ inB n 0 127 = false) :
    Calls Tryd.prog 6 #[.int .i64 a, .int .i64 n] w fun e w' => e = .returned (.tuple #[.int .i64 0, .iface 34 (.int .i64 1)]) ∧ w = w' := by
  rcases i1 : inB a 0 255 with _ | _
  · clear h
    go_enter Tryd.func6, Tryd.ntmps6
    go_wp2_with (go_at_call 13; refine (within_any _ _ _ _).mono ?_; rintro e w' ⟨rfl, rfl⟩)
    go_ret2
    exact ⟨rfl, rfl⟩
  · have i2 : inB n 0 127 = false := h.resolve_left (by rw [i1]; exact Bool.noConfusion)
    clear h
    go_enter Tryd.func6, Tryd.ntmps6
    go_wp2_with (go_at_call 13; refine (within_any _ _ _ _).mono ?_; rintro e w' ⟨rfl, rfl⟩)
    go_ret2
    exact ⟨rfl, rfl⟩

/-- By how many steps b is ahead of a. -/
def aheadI (a b : Int) : Int := (b - a) % 256

theorem rds_two (w : World) (a b : Int) (t : TypeId) : Rds (w.alloc (.cells #[.int .i64 a, .int .i64 b] t)) 1 (some ⟨w.heap.size, 0, none⟩) 2 (ic [a, b]) := by
  refine ⟨rfl, fun _ => ⟨_, _, rfl, fun j hj => ?_⟩⟩
  rw [Nat.zero_add, World.cell?_alloc_at _ _ _ _ (by simp)]
  match j, hj with
  | 0, _ => rfl
  | 1, _ => rfl

theorem less_ok (a b : Int) (w : World) (h1 : 0 ≤ a) (h2 : a ≤ 255) (h3 : 0 ≤ b) (h4 : b ≤ 255) :
    Calls Tryd.prog 9 #[.int .i64 a, .int .i64 b] w fun e w' =>
      e = .returned (.tuple #[.bool (inB (aheadI a b) 1 127), .bool (aheadI a b != 128), .nilIface]) ∧ Below w.heap.size w w' := by
  have i1 : allB [a, b] 0 255 = true := by simp [allB, inB]; omega
  go_enter Tryd.func9, Tryd.ntmps9
  go_wp2_with (first
    | (go_at_call 15; refine (all_any _ _ _ _ _ _ _ (rds_two w a b _) (by decide)).mono ?_; rintro e w' ⟨rfl, rfl⟩)
    | (go_at_call 13; refine (within_any _ _ _ _).mono ?_; rintro e w' ⟨rfl, rfl⟩))
  go_ret3
  exact ⟨rfl, (Below.refl _ _).alloc (Nat.le_refl _) _⟩
theorem less_err (a b : Int) (w : World) (h : inB a 0 255 = false ∨ inB b 0 255 = false) :
    Calls Tryd.prog 9 #[.int .i64 a, .int .i64 b] w fun e w' =>
      e = .returned (.tuple #[.bool false, .bool false, .iface 34 (.int .i64 1)]) ∧ Below w.heap.size w w' := by
  have i1 : allB [a, b] 0 255 = false := by
    rcases h with h | h <;> simp [allB, h]
  clear h
  go_enter Tryd.func9, Tryd.ntmps9
  go_wp2_with (go_at_call 15; refine (all_any _ _ _ _ _ _ _ (rds_two w a b _) (by decide)).mono ?_; rintro e w' ⟨rfl, rfl⟩)
  go_ret3
  exact ⟨rfl, (Below.refl _ _).alloc (Nat.le_refl _) _⟩

/-- The whole number that a round one tells. -/
def wholeI (a x : Int) : Int :=
  if x - x % 256 + a ≤ x - 128 then x - x % 256 + a + 256
  else if x + 128 < x - x % 256 + a ∧ 256 ≤ x - x % 256 + a then x - x % 256 + a - 256
  else x - x % 256 + a

theorem two_eq {x y : Int} (h : x = y) : Ending.returned (.tuple #[.int .i64 x, .nilIface]) = .returned (.tuple #[.int .i64 y, .nilIface]) := by rw [h]
theorem whole_ok (a x : Int) (w : World) (h1 : 0 ≤ a) (h2 : a ≤ 255) (h3 : 0 ≤ x) (h4 : x ≤ 100000) :
    Calls Tryd.prog 11 #[.int .i64 a, .int .i64 x] w fun e w' => e = .returned (.tuple #[.int .i64 (wholeI a x), .nilIface]) ∧ w = w' := by
  have i1 : inB a 0 255 = true := by rw [inB_true]; omega
  have i2 : inB x 0 100000 = true := by rw [inB_true]; omega
  by_cases c1 : x - x % 256 + a ≤ x - 128
  · go_enter Tryd.func11, Tryd.ntmps11
    go_wp2_with (go_at_call 13; refine (within_any _ _ _ _).mono ?_; rintro e w' ⟨rfl, rfl⟩)
    go_ret2
    exact ⟨two_eq (by unfold wholeI; rw [if_pos c1]), rfl⟩
  · by_cases c2 : x + 128 < x - x % 256 + a
    · by_cases c3 : 256 ≤ x - x % 256 + a
      all_goals
        go_enter Tryd.func11, Tryd.ntmps11
        go_wp2_with (go_at_call 13; refine (within_any _ _ _ _).mono ?_; rintro e w' ⟨rfl, rfl⟩)
        go_ret2
        exact ⟨two_eq (by unfold wholeI; split <;> (try split) <;> omega), rfl⟩
    · go_enter Tryd.func11, Tryd.ntmps11
      go_wp2_with (go_at_call 13; refine (within_any _ _ _ _).mono ?_; rintro e w' ⟨rfl, rfl⟩)
      go_ret2
      exact ⟨two_eq (by unfold wholeI; split <;> (try split) <;> omega), rfl⟩
theorem whole_err (a x : Int) (w : World) (h : inB a 0 255 = false ∨ inB x 0 100000 = false) :
    Calls Tryd.prog 11 #[.int .i64 a, .int .i64 x] w fun e w' => e = .returned (.tuple #[.int .i64 0, .iface 34 (.int .i64 1)]) ∧ w = w' := by
  rcases i1 : inB a 0 255 with _ | _
  · clear h
    go_enter Tryd.func11, Tryd.ntmps11
    go_wp2_with (go_at_call 13; refine (within_any _ _ _ _).mono ?_; rintro e w' ⟨rfl, rfl⟩)
    go_ret2
    exact ⟨rfl, rfl⟩
  · have i2 : inB x 0 100000 = false := h.resolve_left (by rw [i1]; exact Bool.noConfusion)
    clear h
    go_enter Tryd.func11, Tryd.ntmps11
    go_wp2_with (go_at_call 13; refine (within_any _ _ _ _).mono ?_; rintro e w' ⟨rfl, rfl⟩)
    go_ret2
    exact ⟨rfl, rfl⟩
end Go.Proofs.YtljdlhahfeipcaaDoor
