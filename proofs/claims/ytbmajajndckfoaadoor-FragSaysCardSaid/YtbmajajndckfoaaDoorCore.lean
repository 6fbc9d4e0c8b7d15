/- The contract of core.All: for all arguments it returns what its text says, and changes nothing. -/
import Derived.Test.YtbmajajndckfoaaDoorWithin
namespace Go.Proofs.YtbmajajndckfoaaDoor
open Go.RowKit

theorem all_any (A : Option Addr) (n c : Nat) (xs : List Int) (lo hi : Int) (w : World) (hr : Rds w 1 A n (ic xs)) (hn : n ≤ maxLen) :
    Calls Tryd.prog 36 #[.slice A n c, .int .i64 lo, .int .i64 hi] w fun e w' => e = .returned (.bool (allB xs lo hi)) ∧ w = w' := by
  have hl := hr.len_int
  unfold maxLen at hn
  have HL := Lib.hid hl
  clear hl
  go_enter Tryd.func36, Tryd.ntmps36
  go_wp2_with fail
  go_loop [8, 11] (fun _ i => ∃ k : Nat, k ≤ n ∧ i = .int .i64 k ∧ allB (xs.take k) lo hi = true) (fun _ i => n - (intOf i).toNat)
  case atStart => exact ⟨0, Nat.zero_le _, rfl, rfl⟩
  case round =>
    obtain ⟨k, hk, rfl, hall⟩ := hrel
    have HA := Lib.hid hall
    clear hall
    by_cases hlt : k < n
    · obtain ⟨b, off, hk', rfl, hcell⟩ := hr.int hlt
      rcases hin : inB xs[k] lo hi with _ | _
      · have HI := Lib.hid hin
        go_wp2_with (go_at_call 29; refine (within_any _ _ _ _).mono ?_; rintro e w' ⟨rfl, rfl⟩)
        go_ret
        exact ⟨ret_eq (bool_eq (by
          rw [eq_comm]
          unfold allB
          rw [List.all_eq_false]
          exact ⟨xs[k], List.getElem_mem hk', by rw [HI.out]; simp⟩)), rfl⟩
      · go_wp2_with (go_at_call 29; refine (within_any _ _ _ _).mono ?_; rintro e w' ⟨rfl, rfl⟩)
        go_round
        case rel =>
          refine ⟨k + 1, by omega, by go_num, ?_⟩
          have h1 := HA.out
          unfold allB at h1 ⊢
          rw [List.take_succ_eq_append_getElem hk', List.all_append, h1]
          simp [hin]
        case measure => simp [intOf]; omega
    · go_wp2
      go_ret
      have h1 := HA.out
      rw [List.take_of_length_le (by rw [← HL.out]; omega)] at h1
      exact ⟨ret_eq (bool_eq h1.symm), rfl⟩
end Go.Proofs.YtbmajajndckfoaaDoor
