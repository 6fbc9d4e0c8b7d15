/- The walks of the laws SerialShift, SerialOrder and TopNumbers: each returns true for all arguments, and only makes memory. -/
import Derived.Test.YtljdlhahfeipcaaSerialLaws
namespace Go.Proofs.Ytljdlhahfeipcaa
open Go.RowKit

/-! ### SerialShift -/
theorem shift_same (a b n : Int) : aheadI ((a + n) % 256) ((b + n) % 256) = aheadI a b := by unfold aheadI; omega

set_option maxHeartbeats 2000000 in
theorem serialShift_any (a b n : Int) (w : World) :
    Calls Try.prog 5 #[.int .i64 a, .int .i64 b, .int .i64 n] w fun e w' => e = .returned (.bool true) ∧ Below w.heap.size w w' := by
  have hB := Below.refl w.heap.size w
  by_cases hbad : inB a 0 255 = false ∨ inB b 0 255 = false
  · have H1 := Lib.hid hbad
    rcases i3 : inB n 0 127 with _ | _
    · have H3 := Lib.hid (Or.inr i3 : inB a 0 255 = false ∨ inB n 0 127 = false)
      have H4 := Lib.hid (Or.inr i3 : inB b 0 255 = false ∨ inB n 0 127 = false)
      clear hbad
      go_enter Try.func5, Try.ntmps5
      go_wp2_with (first | (go_at_call 10; refine (serialFact_any _).mono ?_; rintro e w1 ⟨rfl, hb⟩; replace hB := below_call hB hb; clear hb) | (go_at_call 11; refine (less_err _ _ _ H1.out).mono ?_; rintro e w1 ⟨rfl, hb⟩; replace hB := below_call hB hb; clear hb) | (go_at_call 13; refine (add_err _ _ _ (by first | exact H3.out | exact H4.out)).mono ?_; rintro e w' ⟨rfl, rfl⟩) | (go_at_call 12; refine (in_any _ _ _ _).mono ?_; rintro e w' ⟨rfl, rfl⟩))
      go_ret
      exact ⟨rfl, hB⟩
    · obtain ⟨h5, h6⟩ := inB_true.1 i3
      rcases i1 : inB a 0 255 with _ | _
      all_goals rcases i2 : inB b 0 255 with _ | _
      · have H3 := Lib.hid (Or.inl i1 : inB a 0 255 = false ∨ inB n 0 127 = false)
        have H4 := Lib.hid (Or.inl i2 : inB b 0 255 = false ∨ inB n 0 127 = false)
        clear hbad
        go_enter Try.func5, Try.ntmps5
        go_wp2_with (first | (go_at_call 10; refine (serialFact_any _).mono ?_; rintro e w1 ⟨rfl, hb⟩; replace hB := below_call hB hb; clear hb) | (go_at_call 11; refine (less_err _ _ _ H1.out).mono ?_; rintro e w1 ⟨rfl, hb⟩; replace hB := below_call hB hb; clear hb) | (go_at_call 13; refine (add_err _ _ _ (by first | exact H3.out | exact H4.out)).mono ?_; rintro e w' ⟨rfl, rfl⟩) | (go_at_call 12; refine (in_any _ _ _ _).mono ?_; rintro e w' ⟨rfl, rfl⟩))
        go_ret
        exact ⟨rfl, hB⟩
      · have H3 := Lib.hid (Or.inl i1 : inB a 0 255 = false ∨ inB n 0 127 = false)
        obtain ⟨h7, h8⟩ := inB_true.1 i2
        clear hbad
        go_enter Try.func5, Try.ntmps5
        go_wp2_with fail
        (go_at_call 10; refine (serialFact_any _).mono ?_; rintro e w1 ⟨rfl, hb⟩; replace hB := below_call hB hb; clear hb)
        go_wp2_with fail
        (go_at_call 11; refine (less_err _ _ _ H1.out).mono ?_; rintro e w1 ⟨rfl, hb⟩; replace hB := below_call hB hb; clear hb)
        go_wp2_with fail
        (go_at_call 13; refine (add_err _ _ _ H3.out).mono ?_; rintro e w' ⟨rfl, rfl⟩)
        go_wp2_with fail
        (go_at_call 13; refine (add_ok _ _ _ (by omega) (by omega) (by omega) (by omega)).mono ?_; rintro e w' ⟨rfl, rfl⟩)
        go_wp2_with fail
        go_ret
        exact ⟨rfl, hB⟩
      · have H4 := Lib.hid (Or.inl i2 : inB b 0 255 = false ∨ inB n 0 127 = false)
        obtain ⟨h7, h8⟩ := inB_true.1 i1
        clear hbad
        go_enter Try.func5, Try.ntmps5
        go_wp2_with fail
        (go_at_call 10; refine (serialFact_any _).mono ?_; rintro e w1 ⟨rfl, hb⟩; replace hB := below_call hB hb; clear hb)
        go_wp2_with fail
        (go_at_call 11; refine (less_err _ _ _ H1.out).mono ?_; rintro e w1 ⟨rfl, hb⟩; replace hB := below_call hB hb; clear hb)
        go_wp2_with fail
        (go_at_call 13; refine (add_ok _ _ _ (by omega) (by omega) (by omega) (by omega)).mono ?_; rintro e w' ⟨rfl, rfl⟩)
        go_wp2_with fail
        (go_at_call 13; refine (add_err _ _ _ H4.out).mono ?_; rintro e w' ⟨rfl, rfl⟩)
        go_wp2_with fail
        go_ret
        exact ⟨rfl, hB⟩
      · rcases hbad with h | h
        · rw [i1] at h; cases h
        · rw [i2] at h; cases h
  · obtain ⟨h1, h2⟩ := inB_true.1 (by simpa using fun h => hbad (.inl h) : inB a 0 255 = true)
    obtain ⟨h3, h4⟩ := inB_true.1 (by simpa using fun h => hbad (.inr h) : inB b 0 255 = true)
    clear hbad
    rcases i3 : inB n 0 127 with _ | _
    · have H3 := Lib.hid (Or.inr i3 : inB a 0 255 = false ∨ inB n 0 127 = false)
      have H4 := Lib.hid (Or.inr i3 : inB b 0 255 = false ∨ inB n 0 127 = false)
      rcases d1 : inB (aheadI a b) 1 127 with _ | _
      all_goals rcases d2 : (aheadI a b != 128) with _ | _
      all_goals
        go_enter Try.func5, Try.ntmps5
        go_wp2_with (first | (go_at_call 10; refine (serialFact_any _).mono ?_; rintro e w1 ⟨rfl, hb⟩; replace hB := below_call hB hb; clear hb) | (go_at_call 11; refine (less_ok _ _ _ (by omega) (by omega) (by omega) (by omega)).mono ?_; rintro e w1 ⟨rfl, hb⟩; replace hB := below_call hB hb; clear hb) | (go_at_call 13; refine (add_err _ _ _ (by first | exact H3.out | exact H4.out)).mono ?_; rintro e w' ⟨rfl, rfl⟩) | (go_at_call 12; refine (in_any _ _ _ _).mono ?_; rintro e w' ⟨rfl, rfl⟩))
        go_ret
        exact ⟨rfl, hB⟩
    · obtain ⟨h5, h6⟩ := inB_true.1 i3
      clear i3
      have hs := shift_same a b n
      rcases d1 : inB (aheadI a b) 1 127 with _ | _
      all_goals rcases d2 : (aheadI a b != 128) with _ | _
      all_goals
        go_enter Try.func5, Try.ntmps5
        go_wp2_with (first | (go_at_call 10; refine (serialFact_any _).mono ?_; rintro e w1 ⟨rfl, hb⟩; replace hB := below_call hB hb; clear hb) | (go_at_call 11; refine (less_ok _ _ _ (by omega) (by omega) (by omega) (by omega)).mono ?_; rintro e w1 ⟨rfl, hb⟩; replace hB := below_call hB hb; clear hb) | (go_at_call 13; refine (add_ok _ _ _ (by omega) (by omega) (by omega) (by omega)).mono ?_; rintro e w' ⟨rfl, rfl⟩) | (go_at_call 12; refine (in_any _ _ _ _).mono ?_; rintro e w' ⟨rfl, rfl⟩))
        go_ret
        exact ⟨rfl, hB⟩

/-! ### SerialOrder -/
set_option maxHeartbeats 2000000 in
theorem serialOrder_any (a n m : Int) (w : World) :
    Calls Try.prog 6 #[.int .i64 a, .int .i64 n, .int .i64 m] w fun e w' => e = .returned (.bool true) ∧ Below w.heap.size w w' := by
  have hB := Below.refl w.heap.size w
  rcases i1 : inB n 0 127 with _ | _
  · go_enter Try.func6, Try.ntmps6
    go_wp2_with (first | (go_at_call 10; refine (serialFact_any _).mono ?_; rintro e w1 ⟨rfl, hb⟩; replace hB := below_call hB hb; clear hb) | (go_at_call 12; refine (in_any _ _ _ _).mono ?_; rintro e w' ⟨rfl, rfl⟩))
    go_ret
    exact ⟨rfl, hB⟩
  obtain ⟨h1, h2⟩ := inB_true.1 i1
  rcases i2 : inB m 0 (127 - n) with _ | _
  · go_enter Try.func6, Try.ntmps6
    go_wp2_with (first | (go_at_call 10; refine (serialFact_any _).mono ?_; rintro e w1 ⟨rfl, hb⟩; replace hB := below_call hB hb; clear hb) | (go_at_call 12; refine (in_any _ _ _ _).mono ?_; rintro e w' ⟨rfl, rfl⟩))
    go_ret
    exact ⟨rfl, hB⟩
  obtain ⟨h3, h4⟩ := inB_true.1 i2
  rcases i3 : inB a 0 255 with _ | _
  · have H3 := Lib.hid (Or.inl i3 : inB a 0 255 = false ∨ inB n 0 127 = false)
    go_enter Try.func6, Try.ntmps6
    go_wp2_with (first | (go_at_call 10; refine (serialFact_any _).mono ?_; rintro e w1 ⟨rfl, hb⟩; replace hB := below_call hB hb; clear hb) | (go_at_call 13; refine (add_err _ _ _ H3.out).mono ?_; rintro e w' ⟨rfl, rfl⟩) | (go_at_call 12; refine (in_any _ _ _ _).mono ?_; rintro e w' ⟨rfl, rfl⟩))
    go_ret
    exact ⟨rfl, hB⟩
  obtain ⟨h5, h6⟩ := inB_true.1 i3
  have hs : ((a + n + m) % 256 != (a + (n + m)) % 256) = false := by rw [show a + n + m = a + (n + m) from by omega]; simp
  have hd : inB (aheadI ((a + n + m) % 256) a) 1 127 = false := by
    rw [inB_false]; unfold aheadI; omega
  clear i3
  by_cases hp : 0 < n + m
  · have hc : inB (aheadI a ((a + n + m) % 256)) 1 127 = true := by
      rw [inB_true]; unfold aheadI; omega
    go_enter Try.func6, Try.ntmps6
    go_wp2_with (first | (go_at_call 10; refine (serialFact_any _).mono ?_; rintro e w1 ⟨rfl, hb⟩; replace hB := below_call hB hb; clear hb) | (go_at_call 11; refine (less_ok _ _ _ (by omega) (by omega) (by omega) (by omega)).mono ?_; rintro e w1 ⟨rfl, hb⟩; replace hB := below_call hB hb; clear hb) | (go_at_call 13; refine (add_ok _ _ _ (by omega) (by omega) (by omega) (by omega)).mono ?_; rintro e w' ⟨rfl, rfl⟩) | (go_at_call 12; refine (in_any _ _ _ _).mono ?_; rintro e w' ⟨rfl, rfl⟩))
    go_ret
    exact ⟨rfl, hB⟩
  · have hc : inB (aheadI a ((a + n + m) % 256)) 1 127 = false := by
      rw [inB_false]; unfold aheadI; omega
    have hq : decide (0 < n + m) = false := decide_eq_false hp
    go_enter Try.func6, Try.ntmps6
    go_wp2_with (first | (go_at_call 10; refine (serialFact_any _).mono ?_; rintro e w1 ⟨rfl, hb⟩; replace hB := below_call hB hb; clear hb) | (go_at_call 11; refine (less_ok _ _ _ (by omega) (by omega) (by omega) (by omega)).mono ?_; rintro e w1 ⟨rfl, hb⟩; replace hB := below_call hB hb; clear hb) | (go_at_call 13; refine (add_ok _ _ _ (by omega) (by omega) (by omega) (by omega)).mono ?_; rintro e w' ⟨rfl, rfl⟩) | (go_at_call 12; refine (in_any _ _ _ _).mono ?_; rintro e w' ⟨rfl, rfl⟩))
    go_ret
    exact ⟨rfl, hB⟩

/-! ### TopNumbers -/
theorem inTop_any (a b c : Int) (w : World) :
    Calls Try.prog 14 #[.int .i64 a, .int .i64 b, .int .i64 c] w fun e w' => e = .returned (.bool (inB a b c)) ∧ w = w' := by
  by_cases h : b ≤ a
  · by_cases h2 : a ≤ c
    all_goals
      go_enter Try.func14, Try.ntmps14
      go_wp2
      go_ret
      exact ⟨by simp [inB, h, h2], rfl⟩
  · go_enter Try.func14, Try.ntmps14
    go_wp2
    go_ret
    exact ⟨ret_eq (bool_eq (by rw [eq_comm, inB_false]; omega)), rfl⟩

theorem whole_near (x y : Int) (h1 : 0 ≤ x) (h2 : x - y < 128) (h3 : y - x < 128) : wholeI (x % 256) y = x := by
  unfold wholeI; split <;> (try split) <;> omega

set_option maxHeartbeats 2000000 in
theorem topNumbers_any (b0 a b : Int) (w : World) :
    Calls Try.prog 7 #[.int .i64 b0, .int .i64 a, .int .i64 b] w fun e w' => e = .returned (.bool true) ∧ Below w.heap.size w w' := by
  have hB := Below.refl w.heap.size w
  rcases i1 : inB b0 0 90000 with _ | _
  · go_enter Try.func7, Try.ntmps7
    go_wp2_with (first | (go_at_call 13; refine (add_ok _ _ _ (by omega) (by omega) (by omega) (by omega)).mono ?_; rintro e w' ⟨rfl, rfl⟩) | (go_at_call 14; refine (inTop_any _ _ _ _).mono ?_; rintro e w' ⟨rfl, rfl⟩))
    go_ret
    exact ⟨rfl, hB⟩
  obtain ⟨h1, h2⟩ := inB_true.1 i1
  rcases i2 : inB a 0 127 with _ | _
  · go_enter Try.func7, Try.ntmps7
    go_wp2_with (first | (go_at_call 13; refine (add_ok _ _ _ (by omega) (by omega) (by omega) (by omega)).mono ?_; rintro e w' ⟨rfl, rfl⟩) | (go_at_call 14; refine (inTop_any _ _ _ _).mono ?_; rintro e w' ⟨rfl, rfl⟩))
    go_ret
    exact ⟨rfl, hB⟩
  obtain ⟨h3, h4⟩ := inB_true.1 i2
  rcases i3 : inB b 0 127 with _ | _
  · go_enter Try.func7, Try.ntmps7
    go_wp2_with (first | (go_at_call 13; refine (add_ok _ _ _ (by omega) (by omega) (by omega) (by omega)).mono ?_; rintro e w' ⟨rfl, rfl⟩) | (go_at_call 14; refine (inTop_any _ _ _ _).mono ?_; rintro e w' ⟨rfl, rfl⟩))
    go_ret
    exact ⟨rfl, hB⟩
  obtain ⟨h5, h6⟩ := inB_true.1 i3
  have hw := whole_near (b0 + a) (b0 + b) (by omega) (by omega) (by omega)
  have hd : (aheadI ((b0 + a) % 256) ((b0 + b) % 256) != 128) = true := by
    rw [bne_iff_ne]; unfold aheadI; omega
  by_cases hp : a < b
  · have hc : inB (aheadI ((b0 + a) % 256) ((b0 + b) % 256)) 1 127 = true := by
      rw [inB_true]; unfold aheadI; omega
    go_enter Try.func7, Try.ntmps7
    go_wp2_with (first | (go_at_call 13; refine (add_ok _ _ _ (by omega) (by omega) (by omega) (by omega)).mono ?_; rintro e w' ⟨rfl, rfl⟩) | (go_at_call 14; refine (inTop_any _ _ _ _).mono ?_; rintro e w' ⟨rfl, rfl⟩) | (go_at_call 15; refine (whole_ok _ _ _ (by omega) (by omega) (by omega) (by omega)).mono ?_; rintro e w' ⟨rfl, rfl⟩) | (go_at_call 11; refine (less_ok _ _ _ (by omega) (by omega) (by omega) (by omega)).mono ?_; rintro e w1 ⟨rfl, hb⟩; replace hB := below_call hB hb; clear hb))
    go_ret
    exact ⟨rfl, hB⟩
  · have hc : inB (aheadI ((b0 + a) % 256) ((b0 + b) % 256)) 1 127 = false := by
      rw [inB_false]; unfold aheadI; omega
    have hq : decide (a < b) = false := decide_eq_false hp
    go_enter Try.func7, Try.ntmps7
    go_wp2_with (first | (go_at_call 13; refine (add_ok _ _ _ (by omega) (by omega) (by omega) (by omega)).mono ?_; rintro e w' ⟨rfl, rfl⟩) | (go_at_call 14; refine (inTop_any _ _ _ _).mono ?_; rintro e w' ⟨rfl, rfl⟩) | (go_at_call 15; refine (whole_ok _ _ _ (by omega) (by omega) (by omega) (by omega)).mono ?_; rintro e w' ⟨rfl, rfl⟩) | (go_at_call 11; refine (less_ok _ _ _ (by omega) (by omega) (by omega) (by omega)).mono ?_; rintro e w1 ⟨rfl, hb⟩; replace hB := below_call hB hb; clear hb))
    go_ret
    exact ⟨rfl, hB⟩
end Go.Proofs.Ytljdlhahfeipcaa
