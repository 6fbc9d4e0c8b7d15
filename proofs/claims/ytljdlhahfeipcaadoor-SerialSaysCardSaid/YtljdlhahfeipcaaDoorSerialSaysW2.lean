/- The walk of the law SerialSays. -/
import Derived.Test.YtljdlhahfeipcaaDoorSerialSaysWalk
namespace Go.Proofs.YtljdlhahfeipcaaDoor
open Go.RowKit
/-! ### SerialSays -/
set_option maxHeartbeats 400000 in
theorem serialSays_bad (a b n x : Int) (w : World) (hl : LaidW w) (i1 : inB a 0 255 = false) :
    Calls Tryd.prog 3 #[.int .i64 a, .int .i64 b, .int .i64 n, .int .i64 x] w fun e w' => e = .returned (.bool true) ∧ Below w.heap.size w w' := by
  have hB := Below.refl w.heap.size w
  have i0 : inB 0 1 127 = false := by decide
  have H1 := Lib.hid (Or.inl i1 : inB a 0 255 = false ∨ inB n 0 127 = false)
  have H2 := Lib.hid (Or.inl i1 : inB a 0 255 = false ∨ inB b 0 255 = false)
  have H3 := Lib.hid (Or.inl i1 : inB a 0 255 = false ∨ inB x 0 100000 = false)
  go_enter Tryd.func3, Tryd.ntmps3
  go_wp2_with (first | (go_at_call 5; refine (in_any _ _ _ _).mono ?_; rintro e w' ⟨rfl, rfl⟩) | (go_at_call 6; refine (add_err _ _ _ H1.out).mono ?_; rintro e w' ⟨rfl, rfl⟩) | (go_at_call 9; refine (less_err _ _ _ H2.out).mono ?_; rintro e w1 ⟨rfl, hb⟩; replace hB := below_call hB hb; clear hb) | (go_at_call 11; refine (whole_err _ _ _ H3.out).mono ?_; rintro e w' ⟨rfl, rfl⟩) | (go_at_call 7; ((with_reducible refine (error_errno _ _ _ (hl.below hB)).mono ?_); rintro e w1 ⟨rfl, hb⟩; replace hB := below_call hB hb; clear hb)))
  go_ret
  exact ⟨rfl, hB⟩
set_option maxHeartbeats 4000000 in
theorem serialSays_any (a b n x : Int) (w : World) (hl : LaidW w) :
    Calls Tryd.prog 3 #[.int .i64 a, .int .i64 b, .int .i64 n, .int .i64 x] w fun e w' => e = .returned (.bool true) ∧ Below w.heap.size w w' := by
  rcases i1 : inB a 0 255 with _ | _
  · exact serialSays_bad a b n x w hl i1
  have hB := Below.refl w.heap.size w
  obtain ⟨h1, h2⟩ := inB_true.1 i1
  have i0 : inB 0 1 127 = false := by decide
  rcases i3 : inB n 0 127 with _ | _
  · have H1 := Lib.hid (Or.inr i3 : inB a 0 255 = false ∨ inB n 0 127 = false)
    rcases i2 : inB b 0 255 with _ | _
    · have H2 := Lib.hid (Or.inr i2 : inB a 0 255 = false ∨ inB b 0 255 = false)
      rcases i4 : inB x 0 100000 with _ | _
      · have H3 := Lib.hid (Or.inr i4 : inB a 0 255 = false ∨ inB x 0 100000 = false)
        go_enter Tryd.func3, Tryd.ntmps3
        go_wp2_with (first | (go_at_call 5; refine (in_any _ _ _ _).mono ?_; rintro e w' ⟨rfl, rfl⟩) | (go_at_call 6; refine (add_err _ _ _ H1.out).mono ?_; rintro e w' ⟨rfl, rfl⟩) | (go_at_call 9; refine (less_err _ _ _ H2.out).mono ?_; rintro e w1 ⟨rfl, hb⟩; replace hB := below_call hB hb; clear hb) | (go_at_call 11; refine (whole_err _ _ _ H3.out).mono ?_; rintro e w' ⟨rfl, rfl⟩) | (go_at_call 7; ((with_reducible refine (error_nil _ _).mono ?_); rintro e w' ⟨rfl, rfl⟩)) | (go_at_call 7; ((with_reducible refine (error_errno _ _ _ (hl.below hB)).mono ?_); rintro e w1 ⟨rfl, hb⟩; replace hB := below_call hB hb; clear hb)))
        go_ret
        exact ⟨by simp, hB⟩
      · obtain ⟨h7, h8⟩ := inB_true.1 i4
        go_enter Tryd.func3, Tryd.ntmps3
        go_wp2_with (first | (go_at_call 5; refine (in_any _ _ _ _).mono ?_; rintro e w' ⟨rfl, rfl⟩) | (go_at_call 6; refine (add_err _ _ _ H1.out).mono ?_; rintro e w' ⟨rfl, rfl⟩) | (go_at_call 9; refine (less_err _ _ _ H2.out).mono ?_; rintro e w1 ⟨rfl, hb⟩; replace hB := below_call hB hb; clear hb) | (go_at_call 11; refine (whole_ok _ _ _ (by omega) (by omega) (by omega) (by omega)).mono ?_; rintro e w' ⟨rfl, rfl⟩) | (go_at_call 10; refine (wholeRef_any _ _ _ (by omega) (by omega) (by omega) (by omega)).mono ?_; rintro e w' ⟨rfl, rfl⟩) | (go_at_call 7; ((with_reducible refine (error_nil _ _).mono ?_); rintro e w' ⟨rfl, rfl⟩)) | (go_at_call 7; ((with_reducible refine (error_errno _ _ _ (hl.below hB)).mono ?_); rintro e w1 ⟨rfl, hb⟩; replace hB := below_call hB hb; clear hb)))
        go_ret
        exact ⟨by simp, hB⟩
    · obtain ⟨h3, h4⟩ := inB_true.1 i2
      rcases d1 : inB (aheadI a b) 1 127 with _ | _
      all_goals rcases d2 : (aheadI a b != 128) with _ | _
      all_goals rcases i4 : inB x 0 100000 with _ | _
      all_goals
        have H3 : Hid (inB x 0 100000 = false → inB a 0 255 = false ∨ inB x 0 100000 = false) := Lib.hid .inr
        first
          | (obtain ⟨h7, h8⟩ := inB_true.1 i4
             go_enter Tryd.func3, Tryd.ntmps3
             go_wp2_with (first | (go_at_call 5; refine (in_any _ _ _ _).mono ?_; rintro e w' ⟨rfl, rfl⟩) | (go_at_call 6; refine (add_err _ _ _ H1.out).mono ?_; rintro e w' ⟨rfl, rfl⟩) | (go_at_call 9; refine (less_ok _ _ _ (by omega) (by omega) (by omega) (by omega)).mono ?_; rintro e w1 ⟨rfl, hb⟩; replace hB := below_call hB hb; clear hb) | (go_at_call 8; refine (ahead_any _ _ _ (by omega) (by omega) (by omega) (by omega)).mono ?_; rintro e w' ⟨rfl, rfl⟩) | (go_at_call 11; refine (whole_ok _ _ _ (by omega) (by omega) (by omega) (by omega)).mono ?_; rintro e w' ⟨rfl, rfl⟩) | (go_at_call 10; refine (wholeRef_any _ _ _ (by omega) (by omega) (by omega) (by omega)).mono ?_; rintro e w' ⟨rfl, rfl⟩) | (go_at_call 7; ((with_reducible refine (error_nil _ _).mono ?_); rintro e w' ⟨rfl, rfl⟩)) | (go_at_call 7; ((with_reducible refine (error_errno _ _ _ (hl.below hB)).mono ?_); rintro e w1 ⟨rfl, hb⟩; replace hB := below_call hB hb; clear hb)))
             go_ret
             exact ⟨by simp, hB⟩)
          | (have H4 := Lib.hid (H3.out i4)
             go_enter Tryd.func3, Tryd.ntmps3
             go_wp2_with (first | (go_at_call 5; refine (in_any _ _ _ _).mono ?_; rintro e w' ⟨rfl, rfl⟩) | (go_at_call 6; refine (add_err _ _ _ H1.out).mono ?_; rintro e w' ⟨rfl, rfl⟩) | (go_at_call 9; refine (less_ok _ _ _ (by omega) (by omega) (by omega) (by omega)).mono ?_; rintro e w1 ⟨rfl, hb⟩; replace hB := below_call hB hb; clear hb) | (go_at_call 8; refine (ahead_any _ _ _ (by omega) (by omega) (by omega) (by omega)).mono ?_; rintro e w' ⟨rfl, rfl⟩) | (go_at_call 11; refine (whole_err _ _ _ H4.out).mono ?_; rintro e w' ⟨rfl, rfl⟩) | (go_at_call 7; ((with_reducible refine (error_nil _ _).mono ?_); rintro e w' ⟨rfl, rfl⟩)) | (go_at_call 7; ((with_reducible refine (error_errno _ _ _ (hl.below hB)).mono ?_); rintro e w1 ⟨rfl, hb⟩; replace hB := below_call hB hb; clear hb)))
             go_ret
             exact ⟨by simp, hB⟩)
  · obtain ⟨h5, h6⟩ := inB_true.1 i3
    rcases i2 : inB b 0 255 with _ | _
    · have H2 := Lib.hid (Or.inr i2 : inB a 0 255 = false ∨ inB b 0 255 = false)
      rcases i4 : inB x 0 100000 with _ | _
      · have H3 := Lib.hid (Or.inr i4 : inB a 0 255 = false ∨ inB x 0 100000 = false)
        go_enter Tryd.func3, Tryd.ntmps3
        go_wp2_with (first | (go_at_call 5; refine (in_any _ _ _ _).mono ?_; rintro e w' ⟨rfl, rfl⟩) | (go_at_call 6; refine (add_ok _ _ _ (by omega) (by omega) (by omega) (by omega)).mono ?_; rintro e w' ⟨rfl, rfl⟩) | (go_at_call 9; refine (less_err _ _ _ H2.out).mono ?_; rintro e w1 ⟨rfl, hb⟩; replace hB := below_call hB hb; clear hb) | (go_at_call 11; refine (whole_err _ _ _ H3.out).mono ?_; rintro e w' ⟨rfl, rfl⟩) | (go_at_call 7; ((with_reducible refine (error_nil _ _).mono ?_); rintro e w' ⟨rfl, rfl⟩)) | (go_at_call 7; ((with_reducible refine (error_errno _ _ _ (hl.below hB)).mono ?_); rintro e w1 ⟨rfl, hb⟩; replace hB := below_call hB hb; clear hb)))
        go_ret
        exact ⟨by simp, hB⟩
      · obtain ⟨h7, h8⟩ := inB_true.1 i4
        go_enter Tryd.func3, Tryd.ntmps3
        go_wp2_with (first | (go_at_call 5; refine (in_any _ _ _ _).mono ?_; rintro e w' ⟨rfl, rfl⟩) | (go_at_call 6; refine (add_ok _ _ _ (by omega) (by omega) (by omega) (by omega)).mono ?_; rintro e w' ⟨rfl, rfl⟩) | (go_at_call 9; refine (less_err _ _ _ H2.out).mono ?_; rintro e w1 ⟨rfl, hb⟩; replace hB := below_call hB hb; clear hb) | (go_at_call 11; refine (whole_ok _ _ _ (by omega) (by omega) (by omega) (by omega)).mono ?_; rintro e w' ⟨rfl, rfl⟩) | (go_at_call 10; refine (wholeRef_any _ _ _ (by omega) (by omega) (by omega) (by omega)).mono ?_; rintro e w' ⟨rfl, rfl⟩) | (go_at_call 7; ((with_reducible refine (error_nil _ _).mono ?_); rintro e w' ⟨rfl, rfl⟩)) | (go_at_call 7; ((with_reducible refine (error_errno _ _ _ (hl.below hB)).mono ?_); rintro e w1 ⟨rfl, hb⟩; replace hB := below_call hB hb; clear hb)))
        go_ret
        exact ⟨by simp, hB⟩
    · obtain ⟨h3, h4⟩ := inB_true.1 i2
      rcases d1 : inB (aheadI a b) 1 127 with _ | _
      all_goals rcases d2 : (aheadI a b != 128) with _ | _
      all_goals rcases i4 : inB x 0 100000 with _ | _
      all_goals
        have H3 : Hid (inB x 0 100000 = false → inB a 0 255 = false ∨ inB x 0 100000 = false) := Lib.hid .inr
        first
          | (obtain ⟨h7, h8⟩ := inB_true.1 i4
             go_enter Tryd.func3, Tryd.ntmps3
             go_wp2_with (first | (go_at_call 5; refine (in_any _ _ _ _).mono ?_; rintro e w' ⟨rfl, rfl⟩) | (go_at_call 6; refine (add_ok _ _ _ (by omega) (by omega) (by omega) (by omega)).mono ?_; rintro e w' ⟨rfl, rfl⟩) | (go_at_call 9; refine (less_ok _ _ _ (by omega) (by omega) (by omega) (by omega)).mono ?_; rintro e w1 ⟨rfl, hb⟩; replace hB := below_call hB hb; clear hb) | (go_at_call 8; refine (ahead_any _ _ _ (by omega) (by omega) (by omega) (by omega)).mono ?_; rintro e w' ⟨rfl, rfl⟩) | (go_at_call 11; refine (whole_ok _ _ _ (by omega) (by omega) (by omega) (by omega)).mono ?_; rintro e w' ⟨rfl, rfl⟩) | (go_at_call 10; refine (wholeRef_any _ _ _ (by omega) (by omega) (by omega) (by omega)).mono ?_; rintro e w' ⟨rfl, rfl⟩) | (go_at_call 7; ((with_reducible refine (error_nil _ _).mono ?_); rintro e w' ⟨rfl, rfl⟩)) | (go_at_call 7; ((with_reducible refine (error_errno _ _ _ (hl.below hB)).mono ?_); rintro e w1 ⟨rfl, hb⟩; replace hB := below_call hB hb; clear hb)))
             go_ret
             exact ⟨by simp, hB⟩)
          | (have H4 := Lib.hid (H3.out i4)
             go_enter Tryd.func3, Tryd.ntmps3
             go_wp2_with (first | (go_at_call 5; refine (in_any _ _ _ _).mono ?_; rintro e w' ⟨rfl, rfl⟩) | (go_at_call 6; refine (add_ok _ _ _ (by omega) (by omega) (by omega) (by omega)).mono ?_; rintro e w' ⟨rfl, rfl⟩) | (go_at_call 9; refine (less_ok _ _ _ (by omega) (by omega) (by omega) (by omega)).mono ?_; rintro e w1 ⟨rfl, hb⟩; replace hB := below_call hB hb; clear hb) | (go_at_call 8; refine (ahead_any _ _ _ (by omega) (by omega) (by omega) (by omega)).mono ?_; rintro e w' ⟨rfl, rfl⟩) | (go_at_call 11; refine (whole_err _ _ _ H4.out).mono ?_; rintro e w' ⟨rfl, rfl⟩) | (go_at_call 7; ((with_reducible refine (error_nil _ _).mono ?_); rintro e w' ⟨rfl, rfl⟩)) | (go_at_call 7; ((with_reducible refine (error_errno _ _ _ (hl.below hB)).mono ?_); rintro e w1 ⟨rfl, hb⟩; replace hB := below_call hB hb; clear hb)))
             go_ret
             exact ⟨by simp, hB⟩)
end Go.Proofs.YtljdlhahfeipcaaDoor
