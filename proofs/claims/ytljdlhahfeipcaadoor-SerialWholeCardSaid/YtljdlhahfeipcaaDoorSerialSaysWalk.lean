/- The walks of the laws SerialWhole and SerialSays. -/
import Derived.Test.YtljdlhahfeipcaaDoorSerial
import Derived.Test.YtljdlhahfeipcaaDoorTold
namespace Go.Proofs.YtljdlhahfeipcaaDoor
open Go.RowKit

theorem in_any (a b c : Int) (w : World) :
    Calls Tryd.prog 5 #[.int .i64 a, .int .i64 b, .int .i64 c] w fun e w' => e = .returned (.bool (inB a b c)) ∧ w = w' := by
  by_cases h : b ≤ a
  · by_cases h2 : a ≤ c
    all_goals
      go_enter Tryd.func5, Tryd.ntmps5
      go_wp2
      go_ret
      exact ⟨by simp [inB, h, h2], rfl⟩
  · go_enter Tryd.func5, Tryd.ntmps5
    go_wp2
    go_ret
    exact ⟨ret_eq (bool_eq (by rw [eq_comm, inB_false]; omega)), rfl⟩
theorem serialFact_any (w : World) :
    Calls Tryd.prog 12 #[] w fun e w' => e = .returned (.bool true) ∧ Below w.heap.size w w' := by
  have hB := Below.refl w.heap.size w
  have e1 : inB (aheadI 250 4) 1 127 = true := by decide
  have e2 : (aheadI 250 4 != 128) = true := by decide
  have e3 : wholeI 4 250 = 260 := by decide
  go_enter Tryd.func12, Tryd.ntmps12
  go_wp2_with (first | (go_at_call 6; refine (add_ok _ _ _ (by omega) (by omega) (by omega) (by omega)).mono ?_; rintro e w' ⟨rfl, rfl⟩) | (go_at_call 9; refine (less_ok _ _ _ (by omega) (by omega) (by omega) (by omega)).mono ?_; rintro e w1 ⟨rfl, hb⟩; replace hB := below_call hB hb; clear hb) | (go_at_call 11; refine (whole_ok _ _ _ (by omega) (by omega) (by omega) (by omega)).mono ?_; rintro e w' ⟨rfl, rfl⟩))
  go_ret
  exact ⟨rfl, hB⟩

/-! ### SerialWhole -/
set_option maxHeartbeats 2000000 in
theorem serialWhole_any (n x : Int) (w : World) (hl : LaidW w) :
    Calls Tryd.prog 4 #[.int .i64 n, .int .i64 x] w fun e w' => e = .returned (.bool true) ∧ Below w.heap.size w w' := by
  have hB := Below.refl w.heap.size w
  have i256 : inB 256 0 255 = false := by decide
  have HW := Lib.hid (Or.inl i256 : inB 256 0 255 = false ∨ inB 0 0 100000 = false)
  clear i256
  rcases i1 : inB n 0 100000 with _ | _
  · go_enter Tryd.func4, Tryd.ntmps4
    go_wp2_with (first | (go_at_call 12; refine (serialFact_any _).mono ?_; rintro e w1 ⟨rfl, hb⟩; replace hB := below_call hB hb; clear hb) | (go_at_call 5; refine (in_any _ _ _ _).mono ?_; rintro e w' ⟨rfl, rfl⟩) | (go_at_call 7; refine (error_errno _ _ _ (hl.below hB)).mono ?_; rintro e w1 ⟨rfl, hb⟩; replace hB := below_call hB hb; clear hb) | (go_at_call 11; refine (whole_err _ _ _ HW.out).mono ?_; rintro e w' ⟨rfl, rfl⟩))
    go_ret
    exact ⟨rfl, hB⟩
  rcases i2 : inB x 0 100000 with _ | _
  · go_enter Tryd.func4, Tryd.ntmps4
    go_wp2_with (first | (go_at_call 12; refine (serialFact_any _).mono ?_; rintro e w1 ⟨rfl, hb⟩; replace hB := below_call hB hb; clear hb) | (go_at_call 5; refine (in_any _ _ _ _).mono ?_; rintro e w' ⟨rfl, rfl⟩) | (go_at_call 7; refine (error_errno _ _ _ (hl.below hB)).mono ?_; rintro e w1 ⟨rfl, hb⟩; replace hB := below_call hB hb; clear hb) | (go_at_call 11; refine (whole_err _ _ _ HW.out).mono ?_; rintro e w' ⟨rfl, rfl⟩))
    go_ret
    exact ⟨rfl, hB⟩
  obtain ⟨h1, h2⟩ := inB_true.1 i1
  obtain ⟨h3, h4⟩ := inB_true.1 i2
  have k0 : 0 ≤ wholeI (n % 256) x := by unfold wholeI; split <;> (try split) <;> omega
  have k1 : wholeI (n % 256) x ≤ 200000 := by unfold wholeI; split <;> (try split) <;> omega
  have k2 : (wholeI (n % 256) x % 256 != n % 256) = false := by
    rw [bne_eq_false_iff_eq]; unfold wholeI; split <;> (try split) <;> omega
  have k4 : -128 ≤ wholeI (n % 256) x - x := by unfold wholeI; split <;> (try split) <;> omega
  have k5 : wholeI (n % 256) x - x ≤ 128 ∨ wholeI (n % 256) x < 256 := by unfold wholeI; split <;> (try split) <;> omega
  have k6 : -128 < n - x ∧ n - x < 128 → wholeI (n % 256) x = n := by unfold wholeI; split <;> (try split) <;> omega
  have HC := Lib.hid (fun w => whole_ok (n % 256) x w (by omega) (by omega) h3 h4)
  generalize wholeI (n % 256) x = m at *
  by_cases hn : -128 < n - x ∧ n - x < 128
  · obtain rfl := k6 hn
    obtain ⟨hn1, hn2⟩ := hn
    clear k5 k6 k2
    go_enter Tryd.func4, Tryd.ntmps4
    go_wp2_with (first | (go_at_call 12; refine (serialFact_any _).mono ?_; rintro e w1 ⟨rfl, hb⟩; replace hB := below_call hB hb; clear hb) | (go_at_call 5; refine (in_any _ _ _ _).mono ?_; rintro e w' ⟨rfl, rfl⟩) | (go_at_call 11; refine (HC.out _).mono ?_; rintro e w' ⟨rfl, rfl⟩))
    go_ret
    exact ⟨by simp, hB⟩
  · clear k6
    by_cases h5 : m - x ≤ 128
    · clear k5
      by_cases hn1 : -128 < n - x
      · have hn2 : 128 ≤ n - x := by omega
        clear hn
        go_enter Tryd.func4, Tryd.ntmps4
        go_wp2_with (first | (go_at_call 12; refine (serialFact_any _).mono ?_; rintro e w1 ⟨rfl, hb⟩; replace hB := below_call hB hb; clear hb) | (go_at_call 5; refine (in_any _ _ _ _).mono ?_; rintro e w' ⟨rfl, rfl⟩) | (go_at_call 11; refine (HC.out _).mono ?_; rintro e w' ⟨rfl, rfl⟩))
        go_ret
        exact ⟨rfl, hB⟩
      · have hn2 : n - x ≤ -128 := by omega
        clear hn hn1
        go_enter Tryd.func4, Tryd.ntmps4
        go_wp2_with (first | (go_at_call 12; refine (serialFact_any _).mono ?_; rintro e w1 ⟨rfl, hb⟩; replace hB := below_call hB hb; clear hb) | (go_at_call 5; refine (in_any _ _ _ _).mono ?_; rintro e w' ⟨rfl, rfl⟩) | (go_at_call 11; refine (HC.out _).mono ?_; rintro e w' ⟨rfl, rfl⟩))
        go_ret
        exact ⟨rfl, hB⟩
    · have h6 : m < 256 := by omega
      have h7 : 128 < m - x := by omega
      clear k5 h5
      by_cases hn1 : -128 < n - x
      · have hn2 : 128 ≤ n - x := by omega
        clear hn
        go_enter Tryd.func4, Tryd.ntmps4
        go_wp2_with (first | (go_at_call 12; refine (serialFact_any _).mono ?_; rintro e w1 ⟨rfl, hb⟩; replace hB := below_call hB hb; clear hb) | (go_at_call 5; refine (in_any _ _ _ _).mono ?_; rintro e w' ⟨rfl, rfl⟩) | (go_at_call 11; refine (HC.out _).mono ?_; rintro e w' ⟨rfl, rfl⟩))
        go_ret
        exact ⟨rfl, hB⟩
      · have hn2 : n - x ≤ -128 := by omega
        clear hn hn1
        go_enter Tryd.func4, Tryd.ntmps4
        go_wp2_with (first | (go_at_call 12; refine (serialFact_any _).mono ?_; rintro e w1 ⟨rfl, hb⟩; replace hB := below_call hB hb; clear hb) | (go_at_call 5; refine (in_any _ _ _ _).mono ?_; rintro e w' ⟨rfl, rfl⟩) | (go_at_call 11; refine (HC.out _).mono ?_; rintro e w' ⟨rfl, rfl⟩))
        all_goals go_ret
        all_goals exact ⟨rfl, hB⟩
end Go.Proofs.YtljdlhahfeipcaaDoor
