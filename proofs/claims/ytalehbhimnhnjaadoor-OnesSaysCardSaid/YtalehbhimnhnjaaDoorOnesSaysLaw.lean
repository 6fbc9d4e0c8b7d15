/- The walk of the law OnesSays. -/
import Derived.Test.YtalehbhimnhnjaaDoorOnesRef
import Derived.Test.YtalehbhimnhnjaaDoorLawHelp
import Derived.Test.YtalehbhimnhnjaaDoorTold
namespace Go.Proofs.YtalehbhimnhnjaaDoor
open Go.RowKit

set_option maxHeartbeats 4000000 in
theorem onesSays_any (A : Option Addr) (n c : Nat) (xs : List Int) (s p q : Int) (w : World) (hr : Rds w 1 A n (ic xs)) (hnc : n ≤ c) (hc : c ≤ maxLen) (hl : LaidW w) :
    Calls Tryd.prog 7 #[.slice A n c, .int .i64 s, .int .i64 p, .int .i64 q] w fun e w' => e = .returned (.bool true) ∧ Below w.heap.size w w' := by
  have hB := Below.refl w.heap.size w
  have HN := Lib.hid (Nat.le_trans hnc hc)
  have HNC := Lib.hid hnc
  have HC := Lib.hid hc
  have HLX := Lib.hid hr.len_int
  clear hnc hc
  -- what Mend says, whatever the bytes
  have hmend : (Hid ((inB s 0 65535 && inB p 0 65535 && inB q 0 65535) = false)) ∨ ∃ M1 M2, Hid (inB s 0 65535 = true ∧ inB p 0 65535 = true ∧ inB q 0 65535 = true) ∧ Hid (0 ≤ 65535 - s + 65535 - p ∧ 65535 - s + 65535 - p ≤ 1000000000) ∧ Hid (norm (65535 - s + 65535 - p) = M1) ∧ Hid (0 ≤ M1 + q ∧ M1 + q ≤ 1000000000) ∧ Hid (norm (M1 + q) = M2) ∧ Hid (0 ≤ M2 ∧ M2 ≤ 65535) ∧ Hid (mendP s p q = 65535 - M2) := by
    rcases h : (inB s 0 65535 && inB p 0 65535 && inB q 0 65535) with _ | _
    · exact .inl (Lib.hid rfl)
    · right
      simp only [Bool.and_eq_true] at h
      obtain ⟨⟨h1, h2⟩, h3⟩ := h
      have hs := inB_true.1 h1
      have hp := inB_true.1 h2
      have hq := inB_true.1 h3
      have m1 := norm_le (s := 65535 - s + 65535 - p) (by omega)
      have m2 := norm_le (s := norm (65535 - s + 65535 - p) + q) (by omega)
      exact ⟨_, _, Lib.hid ⟨h1, h2, h3⟩, Lib.hid ⟨by omega, by omega⟩, Lib.hid rfl, Lib.hid ⟨by omega, by omega⟩, Lib.hid rfl, Lib.hid m2, Lib.hid (mendP_norm hs hp hq)⟩
  by_cases h : bytesE xs 600 = 0
  · have HE := Lib.hid h
    have hby := byte_range (bytes_of_ok h).1
    have HBY := Lib.hid hby
    have HL : Hid (n ≤ 1000) := Lib.hid (by have := (bytes_of_ok h).2; have := HLX.out; omega)
    have hle : 0 ≤ totalP xs ∧ totalP xs ≤ 65535 := totK_le hby _
    obtain ⟨T, HT⟩ : ∃ T, Hid (totalP xs = T) := ⟨_, Lib.hid rfl⟩
    rw [HT.out] at hle
    obtain ⟨hT0, hT1⟩ := hle
    have HK : Hid (0 = 0) := Lib.hid rfl
    clear h hby
    rcases hmend with HI | ⟨M1, M2, HI3, HR1, HM1, HR2, HM2, HB2, HM⟩
    · rcases i1 : inB s 0 65535 with _ | _
      · go_enter Tryd.func7, Tryd.ntmps7; go_wp2_with (first | (go_at_call 23; refine (refBytes_any _ _ _ _ _ _ (hr.below hB) HN.out).mono ?_; rintro e w' ⟨rfl, rfl⟩; rw [HE.out]) | (go_at_call 24; refine (refTotal_any _ _ _ _ _ (hr.below hB) HL.out HBY.out).mono ?_; rintro e w' ⟨rfl, rfl⟩; rw [HT.out]) | (go_at_call 16; refine (sum_ok _ _ _ _ _ (hr.below hB) HNC.out HC.out HE.out).mono ?_; rintro e w2 ⟨rfl, hb⟩; rw [HT.out]; replace hB := below_call hB hb; clear hb) | (go_at_call 22; refine (good_ok _ _ _ _ _ (hr.below hB) HNC.out HC.out HE.out).mono ?_; rintro e w2 ⟨rfl, hb⟩; rw [HT.out]; replace hB := below_call hB hb; clear hb) | (go_at_call 16; refine (sum_err _ _ _ _ _ _ (hr.below hB) HN.out HE.out HK.out).mono ?_; rintro e w' ⟨rfl, rfl⟩) | (go_at_call 22; refine (good_err _ _ _ _ _ _ (hr.below hB) HN.out HE.out HK.out).mono ?_; rintro e w' ⟨rfl, rfl⟩) | (go_at_call 28; refine (mend_err _ _ _ _ HI.out).mono ?_; rintro e w1 ⟨rfl, hb⟩; replace hB := below_call hB hb; clear hb) | (go_at_call 26; refine (in_any _ _ _ _).mono ?_; rintro e w' ⟨rfl, rfl⟩) | (go_at_call 25; ((with_reducible refine (error_nil _ _).mono ?_); rintro e w' ⟨rfl, rfl⟩)) | (go_at_call 25; ((with_reducible refine (error_errno _ _ _ (hl.below hB)).mono ?_); rintro e w1 ⟨rfl, hb⟩; replace hB := below_call hB hb; clear hb))); go_ret; exact ⟨by simp, hB⟩
      rcases i2 : inB p 0 65535 with _ | _
      · go_enter Tryd.func7, Tryd.ntmps7; go_wp2_with (first | (go_at_call 23; refine (refBytes_any _ _ _ _ _ _ (hr.below hB) HN.out).mono ?_; rintro e w' ⟨rfl, rfl⟩; rw [HE.out]) | (go_at_call 24; refine (refTotal_any _ _ _ _ _ (hr.below hB) HL.out HBY.out).mono ?_; rintro e w' ⟨rfl, rfl⟩; rw [HT.out]) | (go_at_call 16; refine (sum_ok _ _ _ _ _ (hr.below hB) HNC.out HC.out HE.out).mono ?_; rintro e w2 ⟨rfl, hb⟩; rw [HT.out]; replace hB := below_call hB hb; clear hb) | (go_at_call 22; refine (good_ok _ _ _ _ _ (hr.below hB) HNC.out HC.out HE.out).mono ?_; rintro e w2 ⟨rfl, hb⟩; rw [HT.out]; replace hB := below_call hB hb; clear hb) | (go_at_call 16; refine (sum_err _ _ _ _ _ _ (hr.below hB) HN.out HE.out HK.out).mono ?_; rintro e w' ⟨rfl, rfl⟩) | (go_at_call 22; refine (good_err _ _ _ _ _ _ (hr.below hB) HN.out HE.out HK.out).mono ?_; rintro e w' ⟨rfl, rfl⟩) | (go_at_call 28; refine (mend_err _ _ _ _ HI.out).mono ?_; rintro e w1 ⟨rfl, hb⟩; replace hB := below_call hB hb; clear hb) | (go_at_call 26; refine (in_any _ _ _ _).mono ?_; rintro e w' ⟨rfl, rfl⟩) | (go_at_call 25; ((with_reducible refine (error_nil _ _).mono ?_); rintro e w' ⟨rfl, rfl⟩)) | (go_at_call 25; ((with_reducible refine (error_errno _ _ _ (hl.below hB)).mono ?_); rintro e w1 ⟨rfl, hb⟩; replace hB := below_call hB hb; clear hb))); go_ret; exact ⟨by simp, hB⟩
      have i3 : inB q 0 65535 = false := by have := HI.out; rw [i1, i2] at this; simpa using this
      go_enter Tryd.func7, Tryd.ntmps7; go_wp2_with (first | (go_at_call 23; refine (refBytes_any _ _ _ _ _ _ (hr.below hB) HN.out).mono ?_; rintro e w' ⟨rfl, rfl⟩; rw [HE.out]) | (go_at_call 24; refine (refTotal_any _ _ _ _ _ (hr.below hB) HL.out HBY.out).mono ?_; rintro e w' ⟨rfl, rfl⟩; rw [HT.out]) | (go_at_call 16; refine (sum_ok _ _ _ _ _ (hr.below hB) HNC.out HC.out HE.out).mono ?_; rintro e w2 ⟨rfl, hb⟩; rw [HT.out]; replace hB := below_call hB hb; clear hb) | (go_at_call 22; refine (good_ok _ _ _ _ _ (hr.below hB) HNC.out HC.out HE.out).mono ?_; rintro e w2 ⟨rfl, hb⟩; rw [HT.out]; replace hB := below_call hB hb; clear hb) | (go_at_call 16; refine (sum_err _ _ _ _ _ _ (hr.below hB) HN.out HE.out HK.out).mono ?_; rintro e w' ⟨rfl, rfl⟩) | (go_at_call 22; refine (good_err _ _ _ _ _ _ (hr.below hB) HN.out HE.out HK.out).mono ?_; rintro e w' ⟨rfl, rfl⟩) | (go_at_call 28; refine (mend_err _ _ _ _ HI.out).mono ?_; rintro e w1 ⟨rfl, hb⟩; replace hB := below_call hB hb; clear hb) | (go_at_call 26; refine (in_any _ _ _ _).mono ?_; rintro e w' ⟨rfl, rfl⟩) | (go_at_call 25; ((with_reducible refine (error_nil _ _).mono ?_); rintro e w' ⟨rfl, rfl⟩)) | (go_at_call 25; ((with_reducible refine (error_errno _ _ _ (hl.below hB)).mono ?_); rintro e w1 ⟨rfl, hb⟩; replace hB := below_call hB hb; clear hb))); go_ret; exact ⟨by simp, hB⟩
    · obtain ⟨i1, i2, i3⟩ := HI3.out
      have HS := Lib.hid (inB_true.1 i1)
      have HP := Lib.hid (inB_true.1 i2)
      have HQ := Lib.hid (inB_true.1 i3)
      obtain ⟨hs0, hs1⟩ := HS.out
      obtain ⟨hp0, hp1⟩ := HP.out
      obtain ⟨hq0, hq1⟩ := HQ.out
      obtain ⟨hr0, hr1⟩ := HR2.out
      obtain ⟨hm0, hm1⟩ := HB2.out
      go_enter Tryd.func7, Tryd.ntmps7; go_wp2_with (first | (go_at_call 23; refine (refBytes_any _ _ _ _ _ _ (hr.below hB) HN.out).mono ?_; rintro e w' ⟨rfl, rfl⟩; rw [HE.out]) | (go_at_call 24; refine (refTotal_any _ _ _ _ _ (hr.below hB) HL.out HBY.out).mono ?_; rintro e w' ⟨rfl, rfl⟩; rw [HT.out]) | (go_at_call 16; refine (sum_ok _ _ _ _ _ (hr.below hB) HNC.out HC.out HE.out).mono ?_; rintro e w2 ⟨rfl, hb⟩; rw [HT.out]; replace hB := below_call hB hb; clear hb) | (go_at_call 22; refine (good_ok _ _ _ _ _ (hr.below hB) HNC.out HC.out HE.out).mono ?_; rintro e w2 ⟨rfl, hb⟩; rw [HT.out]; replace hB := below_call hB hb; clear hb) | (go_at_call 16; refine (sum_err _ _ _ _ _ _ (hr.below hB) HN.out HE.out HK.out).mono ?_; rintro e w' ⟨rfl, rfl⟩) | (go_at_call 22; refine (good_err _ _ _ _ _ _ (hr.below hB) HN.out HE.out HK.out).mono ?_; rintro e w' ⟨rfl, rfl⟩) | (go_at_call 28; refine (mend_ok _ _ _ _ HS.out HP.out HQ.out).mono ?_; rintro e w2 ⟨rfl, hb⟩; rw [HM.out]; replace hB := below_call hB hb; clear hb) | (go_at_call 26; refine (in_any _ _ _ _).mono ?_; rintro e w' ⟨rfl, rfl⟩) | (go_at_call 27; ((with_reducible refine (round_any (65535 - s + 65535 - p) _ HR1.out.1 HR1.out.2).mono ?_); rintro e w' ⟨rfl, rfl⟩; rw [HM1.out])) | (go_at_call 27; ((with_reducible refine (round_any (M1 + q) _ HR2.out.1 HR2.out.2).mono ?_); rintro e w' ⟨rfl, rfl⟩; rw [HM2.out])) | (go_at_call 25; ((with_reducible refine (error_nil _ _).mono ?_); rintro e w' ⟨rfl, rfl⟩)) | (go_at_call 25; ((with_reducible refine (error_errno _ _ _ (hl.below hB)).mono ?_); rintro e w1 ⟨rfl, hb⟩; replace hB := below_call hB hb; clear hb))); go_ret; exact ⟨by simp, hB⟩
  · have HK := Lib.hid h
    obtain ⟨k, hk⟩ : ∃ k, bytesE xs 600 = k := ⟨_, rfl⟩
    have HE := Lib.hid hk
    rw [hk] at h
    have hk0 : (k == 0) = false := by rw [beq_eq_false_iff_ne]; exact h
    have HK := Lib.hid h
    clear h hk
    rcases hmend with HI | ⟨M1, M2, HI3, HR1, HM1, HR2, HM2, HB2, HM⟩
    · rcases i1 : inB s 0 65535 with _ | _
      · go_enter Tryd.func7, Tryd.ntmps7; go_wp2_with (first | (go_at_call 23; refine (refBytes_any _ _ _ _ _ _ (hr.below hB) HN.out).mono ?_; rintro e w' ⟨rfl, rfl⟩; rw [HE.out]) | (go_at_call 24; refine (refTotal_any _ _ _ _ _ (hr.below hB) HL.out HBY.out).mono ?_; rintro e w' ⟨rfl, rfl⟩; rw [HT.out]) | (go_at_call 16; refine (sum_ok _ _ _ _ _ (hr.below hB) HNC.out HC.out HE.out).mono ?_; rintro e w2 ⟨rfl, hb⟩; rw [HT.out]; replace hB := below_call hB hb; clear hb) | (go_at_call 22; refine (good_ok _ _ _ _ _ (hr.below hB) HNC.out HC.out HE.out).mono ?_; rintro e w2 ⟨rfl, hb⟩; rw [HT.out]; replace hB := below_call hB hb; clear hb) | (go_at_call 16; refine (sum_err _ _ _ _ _ _ (hr.below hB) HN.out HE.out HK.out).mono ?_; rintro e w' ⟨rfl, rfl⟩) | (go_at_call 22; refine (good_err _ _ _ _ _ _ (hr.below hB) HN.out HE.out HK.out).mono ?_; rintro e w' ⟨rfl, rfl⟩) | (go_at_call 28; refine (mend_err _ _ _ _ HI.out).mono ?_; rintro e w1 ⟨rfl, hb⟩; replace hB := below_call hB hb; clear hb) | (go_at_call 26; refine (in_any _ _ _ _).mono ?_; rintro e w' ⟨rfl, rfl⟩) | (go_at_call 25; ((with_reducible refine (error_nil _ _).mono ?_); rintro e w' ⟨rfl, rfl⟩)) | (go_at_call 25; ((with_reducible refine (error_errno _ _ _ (hl.below hB)).mono ?_); rintro e w1 ⟨rfl, hb⟩; replace hB := below_call hB hb; clear hb))); go_ret; exact ⟨by simp, hB⟩
      rcases i2 : inB p 0 65535 with _ | _
      · go_enter Tryd.func7, Tryd.ntmps7; go_wp2_with (first | (go_at_call 23; refine (refBytes_any _ _ _ _ _ _ (hr.below hB) HN.out).mono ?_; rintro e w' ⟨rfl, rfl⟩; rw [HE.out]) | (go_at_call 24; refine (refTotal_any _ _ _ _ _ (hr.below hB) HL.out HBY.out).mono ?_; rintro e w' ⟨rfl, rfl⟩; rw [HT.out]) | (go_at_call 16; refine (sum_ok _ _ _ _ _ (hr.below hB) HNC.out HC.out HE.out).mono ?_; rintro e w2 ⟨rfl, hb⟩; rw [HT.out]; replace hB := below_call hB hb; clear hb) | (go_at_call 22; refine (good_ok _ _ _ _ _ (hr.below hB) HNC.out HC.out HE.out).mono ?_; rintro e w2 ⟨rfl, hb⟩; rw [HT.out]; replace hB := below_call hB hb; clear hb) | (go_at_call 16; refine (sum_err _ _ _ _ _ _ (hr.below hB) HN.out HE.out HK.out).mono ?_; rintro e w' ⟨rfl, rfl⟩) | (go_at_call 22; refine (good_err _ _ _ _ _ _ (hr.below hB) HN.out HE.out HK.out).mono ?_; rintro e w' ⟨rfl, rfl⟩) | (go_at_call 28; refine (mend_err _ _ _ _ HI.out).mono ?_; rintro e w1 ⟨rfl, hb⟩; replace hB := below_call hB hb; clear hb) | (go_at_call 26; refine (in_any _ _ _ _).mono ?_; rintro e w' ⟨rfl, rfl⟩) | (go_at_call 25; ((with_reducible refine (error_nil _ _).mono ?_); rintro e w' ⟨rfl, rfl⟩)) | (go_at_call 25; ((with_reducible refine (error_errno _ _ _ (hl.below hB)).mono ?_); rintro e w1 ⟨rfl, hb⟩; replace hB := below_call hB hb; clear hb))); go_ret; exact ⟨by simp, hB⟩
      have i3 : inB q 0 65535 = false := by have := HI.out; rw [i1, i2] at this; simpa using this
      go_enter Tryd.func7, Tryd.ntmps7; go_wp2_with (first | (go_at_call 23; refine (refBytes_any _ _ _ _ _ _ (hr.below hB) HN.out).mono ?_; rintro e w' ⟨rfl, rfl⟩; rw [HE.out]) | (go_at_call 24; refine (refTotal_any _ _ _ _ _ (hr.below hB) HL.out HBY.out).mono ?_; rintro e w' ⟨rfl, rfl⟩; rw [HT.out]) | (go_at_call 16; refine (sum_ok _ _ _ _ _ (hr.below hB) HNC.out HC.out HE.out).mono ?_; rintro e w2 ⟨rfl, hb⟩; rw [HT.out]; replace hB := below_call hB hb; clear hb) | (go_at_call 22; refine (good_ok _ _ _ _ _ (hr.below hB) HNC.out HC.out HE.out).mono ?_; rintro e w2 ⟨rfl, hb⟩; rw [HT.out]; replace hB := below_call hB hb; clear hb) | (go_at_call 16; refine (sum_err _ _ _ _ _ _ (hr.below hB) HN.out HE.out HK.out).mono ?_; rintro e w' ⟨rfl, rfl⟩) | (go_at_call 22; refine (good_err _ _ _ _ _ _ (hr.below hB) HN.out HE.out HK.out).mono ?_; rintro e w' ⟨rfl, rfl⟩) | (go_at_call 28; refine (mend_err _ _ _ _ HI.out).mono ?_; rintro e w1 ⟨rfl, hb⟩; replace hB := below_call hB hb; clear hb) | (go_at_call 26; refine (in_any _ _ _ _).mono ?_; rintro e w' ⟨rfl, rfl⟩) | (go_at_call 25; ((with_reducible refine (error_nil _ _).mono ?_); rintro e w' ⟨rfl, rfl⟩)) | (go_at_call 25; ((with_reducible refine (error_errno _ _ _ (hl.below hB)).mono ?_); rintro e w1 ⟨rfl, hb⟩; replace hB := below_call hB hb; clear hb))); go_ret; exact ⟨by simp, hB⟩
    · obtain ⟨i1, i2, i3⟩ := HI3.out
      have HS := Lib.hid (inB_true.1 i1)
      have HP := Lib.hid (inB_true.1 i2)
      have HQ := Lib.hid (inB_true.1 i3)
      obtain ⟨hs0, hs1⟩ := HS.out
      obtain ⟨hp0, hp1⟩ := HP.out
      obtain ⟨hq0, hq1⟩ := HQ.out
      obtain ⟨hr0, hr1⟩ := HR2.out
      obtain ⟨hm0, hm1⟩ := HB2.out
      go_enter Tryd.func7, Tryd.ntmps7; go_wp2_with (first | (go_at_call 23; refine (refBytes_any _ _ _ _ _ _ (hr.below hB) HN.out).mono ?_; rintro e w' ⟨rfl, rfl⟩; rw [HE.out]) | (go_at_call 24; refine (refTotal_any _ _ _ _ _ (hr.below hB) HL.out HBY.out).mono ?_; rintro e w' ⟨rfl, rfl⟩; rw [HT.out]) | (go_at_call 16; refine (sum_ok _ _ _ _ _ (hr.below hB) HNC.out HC.out HE.out).mono ?_; rintro e w2 ⟨rfl, hb⟩; rw [HT.out]; replace hB := below_call hB hb; clear hb) | (go_at_call 22; refine (good_ok _ _ _ _ _ (hr.below hB) HNC.out HC.out HE.out).mono ?_; rintro e w2 ⟨rfl, hb⟩; rw [HT.out]; replace hB := below_call hB hb; clear hb) | (go_at_call 16; refine (sum_err _ _ _ _ _ _ (hr.below hB) HN.out HE.out HK.out).mono ?_; rintro e w' ⟨rfl, rfl⟩) | (go_at_call 22; refine (good_err _ _ _ _ _ _ (hr.below hB) HN.out HE.out HK.out).mono ?_; rintro e w' ⟨rfl, rfl⟩) | (go_at_call 28; refine (mend_ok _ _ _ _ HS.out HP.out HQ.out).mono ?_; rintro e w2 ⟨rfl, hb⟩; rw [HM.out]; replace hB := below_call hB hb; clear hb) | (go_at_call 26; refine (in_any _ _ _ _).mono ?_; rintro e w' ⟨rfl, rfl⟩) | (go_at_call 27; ((with_reducible refine (round_any (65535 - s + 65535 - p) _ HR1.out.1 HR1.out.2).mono ?_); rintro e w' ⟨rfl, rfl⟩; rw [HM1.out])) | (go_at_call 27; ((with_reducible refine (round_any (M1 + q) _ HR2.out.1 HR2.out.2).mono ?_); rintro e w' ⟨rfl, rfl⟩; rw [HM2.out])) | (go_at_call 25; ((with_reducible refine (error_nil _ _).mono ?_); rintro e w' ⟨rfl, rfl⟩)) | (go_at_call 25; ((with_reducible refine (error_errno _ _ _ (hl.below hB)).mono ?_); rintro e w1 ⟨rfl, hb⟩; replace hB := below_call hB hb; clear hb))); go_ret; exact ⟨by simp, hB⟩
end Go.Proofs.YtalehbhimnhnjaaDoor
