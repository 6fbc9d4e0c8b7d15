/- The walks of the laws SerialLess, SerialShift, SerialOrder: each returns true for all arguments, and only makes memory. -/
import Derived.Test.YtljdlhahfeipcaaSerial
namespace Go.Proofs.Ytljdlhahfeipcaa
open Go.RowKit

theorem in_any (a b c : Int) (w : World) :
    Calls Try.prog 12 #[.int .i64 a, .int .i64 b, .int .i64 c] w fun e w' => e = .returned (.bool (inB a b c)) ∧ w = w' := by
  by_cases h : b ≤ a
  · by_cases h2 : a ≤ c
    all_goals
      go_enter Try.func12, Try.ntmps12
      go_wp2
      go_ret
      exact ⟨by simp [inB, h, h2], rfl⟩
  · go_enter Try.func12, Try.ntmps12
    go_wp2
    go_ret
    exact ⟨ret_eq (bool_eq (by rw [eq_comm, inB_false]; omega)), rfl⟩

theorem serialFact_any (w : World) :
    Calls Try.prog 10 #[] w fun e w' => e = .returned (.bool true) ∧ Below w.heap.size w w' := by
  have hB := Below.refl w.heap.size w
  have e1 : inB (aheadI 250 4) 1 127 = true := by decide
  have e2 : (aheadI 250 4 != 128) = true := by decide
  have e3 : wholeI 4 250 = 260 := by decide
  go_enter Try.func10, Try.ntmps10
  go_wp2_with (first
    | (go_at_call 13; refine (add_ok _ _ _ (by decide) (by decide) (by decide) (by decide)).mono ?_; rintro e w' ⟨rfl, rfl⟩)
    | (go_at_call 11; refine (less_ok _ _ _ (by decide) (by decide) (by decide) (by decide)).mono ?_; rintro e w1 ⟨rfl, hb⟩; replace hB := below_call hB hb; clear hb)
    | (go_at_call 15; refine (whole_ok _ _ _ (by decide) (by decide) (by decide) (by decide)).mono ?_; rintro e w' ⟨rfl, rfl⟩))
  go_ret
  exact ⟨rfl, hB⟩

/-! ### SerialLess -/
theorem serialLess_bad (a b n : Int) (w : World) (h : inB a 0 255 = false ∨ inB b 0 255 = false) :
    Calls Try.prog 4 #[.int .i64 a, .int .i64 b, .int .i64 n] w fun e w' => e = .returned (.bool true) ∧ Below w.heap.size w w' := by
  have hB := Below.refl w.heap.size w
  have H1 := Lib.hid h
  have H2 := Lib.hid h.symm
  rcases i1 : inB a 0 255 with _ | _
  · clear h
    go_enter Try.func4, Try.ntmps4
    go_wp2_with (first
      | (go_at_call 10; refine (serialFact_any _).mono ?_; rintro e w1 ⟨rfl, hb⟩; replace hB := below_call hB hb; clear hb)
      | (go_at_call 11; refine (less_err _ _ _ (by first | exact H1.out | exact H2.out)).mono ?_; rintro e w1 ⟨rfl, hb⟩; replace hB := below_call hB hb; clear hb)
      | (go_at_call 12; refine (in_any _ _ _ _).mono ?_; rintro e w' ⟨rfl, rfl⟩))
    go_ret
    exact ⟨rfl, hB⟩
  · have i2 : inB b 0 255 = false := h.resolve_left (by rw [i1]; exact Bool.noConfusion)
    clear h
    go_enter Try.func4, Try.ntmps4
    go_wp2_with (first
      | (go_at_call 10; refine (serialFact_any _).mono ?_; rintro e w1 ⟨rfl, hb⟩; replace hB := below_call hB hb; clear hb)
      | (go_at_call 11; refine (less_err _ _ _ (by first | exact H1.out | exact H2.out)).mono ?_; rintro e w1 ⟨rfl, hb⟩; replace hB := below_call hB hb; clear hb)
      | (go_at_call 12; refine (in_any _ _ _ _).mono ?_; rintro e w' ⟨rfl, rfl⟩))
    go_ret
    exact ⟨rfl, hB⟩

theorem ahead_steps (a n : Int) (_h1 : 0 ≤ a) (_h2 : a ≤ 255) (h3 : 0 ≤ n) (h4 : n ≤ 127) : aheadI a ((a + n) % 256) = n := by unfold aheadI; omega

/-- What the comparisons say, both ways round. -/
theorem less_both (a b : Int) (h1 : 0 ≤ a) (h2 : a ≤ 255) (h3 : 0 ≤ b) (h4 : b ≤ 255) :
    (a = b ∧ inB (aheadI a b) 1 127 = false ∧ inB (aheadI b a) 1 127 = false ∧ (aheadI a b != 128) = true ∧ (aheadI b a != 128) = true) ∨
    ((a == b) = false ∧ (a != b) = true ∧ inB (aheadI a b) 1 127 = false ∧ inB (aheadI b a) 1 127 = false ∧ (aheadI a b != 128) = false ∧ (aheadI b a != 128) = false) ∨
    ((a == b) = false ∧ (a != b) = true ∧ inB (aheadI a b) 1 127 = true ∧ inB (aheadI b a) 1 127 = false ∧ (aheadI a b != 128) = true ∧ (aheadI b a != 128) = true) ∨
    ((a == b) = false ∧ (a != b) = true ∧ inB (aheadI a b) 1 127 = false ∧ inB (aheadI b a) 1 127 = true ∧ (aheadI a b != 128) = true ∧ (aheadI b a != 128) = true) := by
  simp only [inB_true, inB_false, bne_iff_ne, bne_eq_false_iff_eq, beq_eq_false_iff_ne, ne_eq]
  unfold aheadI
  omega

set_option maxHeartbeats 2000000 in
theorem serialLess_any (a b n : Int) (w : World) :
    Calls Try.prog 4 #[.int .i64 a, .int .i64 b, .int .i64 n] w fun e w' => e = .returned (.bool true) ∧ Below w.heap.size w w' := by
  rcases i1 : inB a 0 255 with _ | _
  · exact serialLess_bad a b n w (.inl i1)
  rcases i2 : inB b 0 255 with _ | _
  · exact serialLess_bad a b n w (.inr i2)
  obtain ⟨h1, h2⟩ := inB_true.1 i1
  obtain ⟨h3, h4⟩ := inB_true.1 i2
  have hB := Below.refl w.heap.size w
  have HL := Lib.hid (less_both a b h1 h2 h3 h4)
  have HA := Lib.hid (ahead_steps a n h1 h2)
  clear i1 i2
  rcases i3 : inB n 0 127 with _ | _
  · have H3 := Lib.hid (Or.inr i3 : inB a 0 255 = false ∨ inB n 0 127 = false)
    rcases HL.out with ⟨hab, d1, d2, d3, d4⟩ | ⟨hab, hne, d1, d2, d3, d4⟩ | ⟨hab, hne, d1, d2, d3, d4⟩ | ⟨hab, hne, d1, d2, d3, d4⟩
    · subst hab
      go_enter Try.func4, Try.ntmps4
      go_wp2_with (first
        | (go_at_call 10; refine (serialFact_any _).mono ?_; rintro e w1 ⟨rfl, hb⟩; replace hB := below_call hB hb; clear hb)
        | (go_at_call 11; refine (less_ok _ _ _ (by omega) (by omega) (by omega) (by omega)).mono ?_; rintro e w1 ⟨rfl, hb⟩; replace hB := below_call hB hb; clear hb)
        | (go_at_call 13; refine (add_err _ _ _ H3.out).mono ?_; rintro e w' ⟨rfl, rfl⟩)
        | (go_at_call 12; refine (in_any _ _ _ _).mono ?_; rintro e w' ⟨rfl, rfl⟩))
      go_ret
      exact ⟨rfl, hB⟩
    all_goals
      go_enter Try.func4, Try.ntmps4
      go_wp2_with (first
        | (go_at_call 10; refine (serialFact_any _).mono ?_; rintro e w1 ⟨rfl, hb⟩; replace hB := below_call hB hb; clear hb)
        | (go_at_call 11; refine (less_ok _ _ _ (by omega) (by omega) (by omega) (by omega)).mono ?_; rintro e w1 ⟨rfl, hb⟩; replace hB := below_call hB hb; clear hb)
        | (go_at_call 13; refine (add_err _ _ _ H3.out).mono ?_; rintro e w' ⟨rfl, rfl⟩)
        | (go_at_call 12; refine (in_any _ _ _ _).mono ?_; rintro e w' ⟨rfl, rfl⟩))
      go_ret
      exact ⟨rfl, hB⟩
  · obtain ⟨h5, h6⟩ := inB_true.1 i3
    have hA := HA.out h5 h6
    have e1 : inB (aheadI a ((a + n) % 256)) 1 127 = decide (0 < n) := by
      rw [hA, Bool.eq_iff_iff, inB_true]; simp; omega
    have e2 : (aheadI a ((a + n) % 256) != 128) = true := by rw [hA, bne_iff_ne]; omega
    clear hA HA i3
    rcases HL.out with ⟨hab, d1, d2, d3, d4⟩ | ⟨hab, hne, d1, d2, d3, d4⟩ | ⟨hab, hne, d1, d2, d3, d4⟩ | ⟨hab, hne, d1, d2, d3, d4⟩
    · subst hab
      go_enter Try.func4, Try.ntmps4
      go_wp2_with (first
        | (go_at_call 10; refine (serialFact_any _).mono ?_; rintro e w1 ⟨rfl, hb⟩; replace hB := below_call hB hb; clear hb)
        | (go_at_call 11; refine (less_ok _ _ _ (by omega) (by omega) (by omega) (by omega)).mono ?_; rintro e w1 ⟨rfl, hb⟩; replace hB := below_call hB hb; clear hb)
        | (go_at_call 13; refine (add_ok _ _ _ h1 h2 h5 h6).mono ?_; rintro e w' ⟨rfl, rfl⟩))
      go_ret
      exact ⟨by simp, hB⟩
    all_goals
      go_enter Try.func4, Try.ntmps4
      go_wp2_with (first
        | (go_at_call 10; refine (serialFact_any _).mono ?_; rintro e w1 ⟨rfl, hb⟩; replace hB := below_call hB hb; clear hb)
        | (go_at_call 11; refine (less_ok _ _ _ (by omega) (by omega) (by omega) (by omega)).mono ?_; rintro e w1 ⟨rfl, hb⟩; replace hB := below_call hB hb; clear hb)
        | (go_at_call 13; refine (add_ok _ _ _ h1 h2 h5 h6).mono ?_; rintro e w' ⟨rfl, rfl⟩))
      go_ret
      exact ⟨by simp, hB⟩
end Go.Proofs.Ytljdlhahfeipcaa
