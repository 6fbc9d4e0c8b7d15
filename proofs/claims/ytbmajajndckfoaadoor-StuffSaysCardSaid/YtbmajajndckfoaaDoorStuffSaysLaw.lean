/- The walk of the law StuffSays. -/
import Derived.Test.YtbmajajndckfoaaDoorStuffRefFrames
import Derived.Test.YtbmajajndckfoaaDoorTold
import Derived.Test.YtbmajajndckfoaaDoorInts
namespace Go.Proofs.YtbmajajndckfoaaDoor
open Go.RowKit
theorem flags_any (w : World) (q : Nat) :
    Calls Tryd.prog 16 #[.slice (some ⟨w.heap.size, 0, none⟩) 8 8, .slice (some ⟨w.heap.size + 1, 0, none⟩) 8 8] (((w.drewN q).alloc (.cells #[.int .i64 0, .int .i64 1, .int .i64 1, .int .i64 1, .int .i64 1, .int .i64 1, .int .i64 1, .int .i64 0] 3)).alloc (.cells #[.int .i64 0, .int .i64 1, .int .i64 1, .int .i64 1, .int .i64 1, .int .i64 1, .int .i64 1, .int .i64 0] 3)) fun e w' => e = .returned (.bool true) ∧ ∃ k, w' = (((w.drewN q).alloc (.cells #[.int .i64 0, .int .i64 1, .int .i64 1, .int .i64 1, .int .i64 1, .int .i64 1, .int .i64 1, .int .i64 0] 3)).alloc (.cells #[.int .i64 0, .int .i64 1, .int .i64 1, .int .i64 1, .int .i64 1, .int .i64 1, .int .i64 1, .int .i64 0] 3)).drewN k := by
  have h1 : Rds (((w.drewN q).alloc (.cells #[.int .i64 0, .int .i64 1, .int .i64 1, .int .i64 1, .int .i64 1, .int .i64 1, .int .i64 1, .int .i64 0] 3)).alloc (.cells #[.int .i64 0, .int .i64 1, .int .i64 1, .int .i64 1, .int .i64 1, .int .i64 1, .int .i64 1, .int .i64 0] 3)) 1 (some ⟨w.heap.size, 0, none⟩) 8 (ic flagL) := (rds_flag (w.drewN q)).alloc _
  have h2 : Rds (((w.drewN q).alloc (.cells #[.int .i64 0, .int .i64 1, .int .i64 1, .int .i64 1, .int .i64 1, .int .i64 1, .int .i64 1, .int .i64 0] 3)).alloc (.cells #[.int .i64 0, .int .i64 1, .int .i64 1, .int .i64 1, .int .i64 1, .int .i64 1, .int .i64 1, .int .i64 0] 3)) 1 (some ⟨w.heap.size + 1, 0, none⟩) 8 (ic flagL) := by
    have := rds_flag ((w.drewN q).alloc (.cells #[.int .i64 0, .int .i64 1, .int .i64 1, .int .i64 1, .int .i64 1, .int .i64 1, .int .i64 1, .int .i64 0] 3))
    simpa using this
  refine (ints_any _ _ 8 8 8 8 flagL flagL _ h1 h2 (by unfold maxLen; omega) (by unfold maxLen; omega)).mono ?_
  rintro e w' ⟨rfl, k, rfl⟩
  exact ⟨by simp, k, rfl⟩
theorem RowsW.nil_ (w : World) : RowsW w none 0 [] := ⟨rfl, fun i h => absurd h (by simp)⟩
theorem framesL_len (xs : List Int) : (framesL xs).length ≤ xs.length := by
  have step : ∀ (n i : Nat) (fr : Option Nat), i ≤ xs.length → (frmN xs n i fr).length + i ≤ xs.length := by
    intro n
    induction n with
    | zero => intro i fr hi; simpa [frmN] using hi
    | succ n ih =>
      intro i fr hi
      rw [frmN]
      by_cases h8 : i + 8 ≤ xs.length
      · rw [if_pos h8]
        have hp : (pieceL xs fr i).length ≤ 1 := by
          unfold pieceL
          rcases fr with _ | f
          · simp
          · simp only
            split
            · rcases unL (cutL xs f i) with _ | l <;> simp [optL]
            · simp
        by_cases hf : flagAt xs i = true
        · rw [if_pos hf, List.length_append]
          have := ih (i + 8) (some (i + 8)) h8
          omega
        · rw [if_neg hf]
          have := ih (i + 1) fr (by omega)
          omega
      · rw [if_neg h8]; simpa using hi
  exact step (xs.length + 1) 0 none (Nat.zero_le _)
set_option maxRecDepth 100000 in
set_option maxHeartbeats 4000000 in
theorem stuffSays_any (A : Option Addr) (n c : Nat) (xs : List Int) (w : World) (hr : Rds w 1 A n (ic xs)) (hnc : n ≤ c) (hc : c ≤ maxLen) (hl : LaidW w) :
    Calls Tryd.prog 4 #[.slice A n c] w fun e w' => e = .returned (.bool true) ∧ Below w.heap.size w w' := by
  have hB := Below.refl w.heap.size w
  have HN := Lib.hid (Nat.le_trans hnc hc)
  have HNC := Lib.hid hnc
  have HC := Lib.hid hc
  obtain rfl : n = xs.length := hr.len_int
  clear hnc hc
  by_cases h : bitsE xs = 0
  · have HE := Lib.hid h
    obtain ⟨hbi, hl2⟩ := bits_of_ok h
    have hsl := stuffL_len xs hbi
    have hsm : (stuffL xs).length ≤ maxLen := by unfold maxLen; omega
    have HSM := Lib.hid hsm
    have HBI := Lib.hid hbi
    have HL2 := Lib.hid hl2
    have HFM : Hid ((framesL xs).length ≤ maxLen) := Lib.hid (by have := framesL_len xs; unfold maxLen; omega)
    have HDM : Hid ((dropSt xs).1.length ≤ maxLen) := Lib.hid (by have := (drop_count xs hbi).2.2.1; unfold maxLen; omega)
    have HUR := Lib.hid (unL_ref xs hbi)
    clear h hsm hsl hbi
    go_enter Tryd.func4, Tryd.ntmps4
    go_wp2_with (first
      | (go_at_call 11; ((with_reducible refine (refBits_any _ _ _ _ _ (hr.below hB) HN.out).mono ?_); rintro e w' ⟨rfl, rfl⟩; rw [HE.out]))
      | (go_at_call 12; ((with_reducible refine (check_ok _ _ _ _ _ (hr.below hB) HN.out HE.out).mono ?_); rintro e w' ⟨rfl, rfl⟩))
      | (go_at_call 10; ((with_reducible refine (error_nil _ _).mono ?_); rintro e w' ⟨rfl, rfl⟩)))
    (with_reducible refine (refStuff_any _ _ _ _ _ (hr.below hB) HL2.out HBI.out).mono ?_)
    rintro e w1 ⟨A1, c1, rfl, ho1, hc1, hc2, hb⟩
    replace hB := below_call hB hb
    have hr1 := ho1.rds
    clear hb ho1
    go_wp2_with fail
    (with_reducible refine (refFrames_any _ _ _ _ _ (hr.below hB) HNC.out HC.out HE.out).mono ?_)
    rintro e w2 ⟨A2, c2, rfl, ho2, hb⟩
    replace hB := below_call hB hb
    replace hr1 := hr1.below hb
    clear hb
    go_wp2_with fail
    (with_reducible refine (stuff_ok _ _ _ _ _ (hr.below hB) HN.out HE.out).mono ?_)
    rintro e w3 ⟨A3, c3, rfl, ho3, hc3, hc4, hb⟩
    replace hB := below_call hB hb
    replace hr1 := hr1.below hb
    replace ho2 := ho2.below hb
    have hr3 := ho3.rds
    clear hb ho3
    generalize stuffL xs = st at *
    go_wp2_with (go_at_call 10; ((with_reducible refine (error_nil _ _).mono ?_); rintro e w' ⟨rfl, rfl⟩))
    (with_reducible refine (ints_any _ _ _ _ _ _ (st) (st) _ hr3 hr1 HSM.out HSM.out).mono ?_); rintro e wi ⟨rfl, qi, rfl⟩; replace hB := below_drewN hB qi
    replace ho2 := ho2.below (below_drewN (Below.refl _ _) qi)
    clear hr3 hr1
    go_wp2_with fail
    (with_reducible refine (frames_ok _ _ _ _ _ (hr.below hB) HNC.out HC.out HE.out).mono ?_)
    rintro e w4 ⟨A4, c4, rfl, ho4, hb⟩
    replace hB := below_call hB hb
    replace ho2 := ho2.below hb
    clear hb
    generalize framesL xs = fr at *
    go_wp2_with (go_at_call 10; ((with_reducible refine (error_nil _ _).mono ?_); rintro e w' ⟨rfl, rfl⟩))
    (with_reducible refine (rows_any _ _ _ _ _ _ (fr) (fr) _ ho4.rows ho2.rows HFM.out).mono ?_); rintro e wi ⟨rfl, qi, rfl⟩; replace hB := below_drewN hB qi
    clear ho4 ho2
    go_wp2_with fail
    (with_reducible refine (refUnstuff_any _ _ _ _ _ (hr.below hB) HL2.out HBI.out).mono ?_)
    rintro e w5 ⟨A5, c5, rfl, ho5, hc5, hc6, hb⟩
    replace hB := below_call hB hb
    have hr5 := ho5.rds
    clear hb ho5
    generalize (dropSt xs).1 = l at *
    by_cases hsd : stuffL l = xs
    · have hdd : decide (stuffL l = xs) = true := decide_eq_true hsd
      have HU : Hid (unL xs = some l) := Lib.hid (by rw [HUR.out, if_pos hsd])
      rw [hdd]
      clear hsd hdd HUR
      go_wp2_with fail
      (with_reducible refine (unstuffGo_ok _ _ _ _ l _ (hr.below hB) HN.out HE.out HU.out).mono ?_)
      rintro e w6 ⟨A6, c6, rfl, ho6, hc7, hc8, hb⟩
      replace hB := below_call hB hb
      replace hr5 := hr5.below hb
      have hr6 := ho6.rds
      clear hb ho6
      go_wp2_with (go_at_call 10; ((with_reducible refine (error_nil _ _).mono ?_); rintro e w' ⟨rfl, rfl⟩))
      (with_reducible refine (ints_any _ _ _ _ _ _ (l) (l) _ hr6 hr5 HDM.out HDM.out).mono ?_); rintro e wi ⟨rfl, qi, rfl⟩; replace hB := below_drewN hB qi
      go_wp2_with (first | (go_at_call 21; ((with_reducible refine (flag_any _).mono ?_); rintro e w' ⟨rfl, rfl⟩; have hBf := hB.alloc hB.size (.cells #[.int .i64 0, .int .i64 1, .int .i64 1, .int .i64 1, .int .i64 1, .int .i64 1, .int .i64 1, .int .i64 0] 3); clear hB)) | (go_at_call 22; ((with_reducible refine (refFlag_any _).mono ?_); rintro e w' ⟨rfl, rfl⟩; have hB := hBf.alloc hBf.size (.cells #[.int .i64 0, .int .i64 1, .int .i64 1, .int .i64 1, .int .i64 1, .int .i64 1, .int .i64 1, .int .i64 0] 3); clear hBf)) | (go_at_call 16; ((with_reducible refine (flags_any _ _).mono ?_); rintro e wi ⟨rfl, qj, rfl⟩; replace hB := below_drewN hB qj)))
      go_ret
      exact ⟨by simp, hB⟩
    · have hdd : decide (stuffL l = xs) = false := decide_eq_false hsd
      have HU : Hid (unL xs = none) := Lib.hid (by rw [HUR.out, if_neg hsd])
      rw [hdd]
      clear hsd hdd HUR
      go_wp2_with fail
      (with_reducible refine (unstuffGo_bad _ _ _ _ _ (hr.below hB) HN.out HE.out HU.out).mono ?_)
      rintro e w6 ⟨rfl, hb⟩
      replace hB := below_call hB hb
      clear hb
      go_wp2_with (go_at_call 10; ((with_reducible refine (error_errno _ _ _ (hl.below hB)).mono ?_); rintro e w1 ⟨rfl, hb⟩; replace hB := below_call hB hb; clear hb))
      (with_reducible refine (ints_any _ _ _ _ _ _ ([]) ([]) _ Rds.nil_ Rds.nil_ (Nat.zero_le _) (Nat.zero_le _)).mono ?_); rintro e wi ⟨rfl, qi, rfl⟩; replace hB := below_drewN hB qi
      go_wp2_with (first | (go_at_call 21; ((with_reducible refine (flag_any _).mono ?_); rintro e w' ⟨rfl, rfl⟩; have hBf := hB.alloc hB.size (.cells #[.int .i64 0, .int .i64 1, .int .i64 1, .int .i64 1, .int .i64 1, .int .i64 1, .int .i64 1, .int .i64 0] 3); clear hB)) | (go_at_call 22; ((with_reducible refine (refFlag_any _).mono ?_); rintro e w' ⟨rfl, rfl⟩; have hB := hBf.alloc hBf.size (.cells #[.int .i64 0, .int .i64 1, .int .i64 1, .int .i64 1, .int .i64 1, .int .i64 1, .int .i64 1, .int .i64 0] 3); clear hBf)) | (go_at_call 16; ((with_reducible refine (flags_any _ _).mono ?_); rintro e wi ⟨rfl, qj, rfl⟩; replace hB := below_drewN hB qj)))
      go_ret
      exact ⟨by simp, hB⟩
  · obtain ⟨k, hk⟩ : ∃ k, bitsE xs = k := ⟨_, rfl⟩
    have HE := Lib.hid hk
    rw [hk] at h
    have hk0 : (k == 0) = false := by rw [beq_eq_false_iff_ne]; exact h
    have HK := Lib.hid h
    clear h hk
    go_enter Tryd.func4, Tryd.ntmps4
    go_wp2_with (first
      | (go_at_call 11; ((with_reducible refine (refBits_any _ _ _ _ _ (hr.below hB) HN.out).mono ?_); rintro e w' ⟨rfl, rfl⟩; rw [HE.out]))
      | (go_at_call 12; ((with_reducible refine (check_err _ _ _ _ _ _ (hr.below hB) HN.out HE.out HK.out).mono ?_); rintro e w' ⟨rfl, rfl⟩))
      | (go_at_call 15; ((with_reducible refine (stuff_err _ _ _ _ _ _ (hr.below hB) HN.out HE.out HK.out).mono ?_); rintro e w' ⟨rfl, rfl⟩))
      | (go_at_call 10; ((with_reducible refine (error_errno _ _ _ (hl.below hB)).mono ?_); rintro e w1 ⟨rfl, hb⟩; replace hB := below_call hB hb; clear hb)))
    (with_reducible refine (ints_any _ _ _ _ _ _ ([]) ([]) _ Rds.nil_ Rds.nil_ (Nat.zero_le _) (Nat.zero_le _)).mono ?_); rintro e wi ⟨rfl, qi, rfl⟩; replace hB := below_drewN hB qi
    go_wp2_with (first
      | (go_at_call 17; ((with_reducible refine (frames_err _ _ _ _ _ _ (hr.below hB) HN.out HE.out HK.out).mono ?_); rintro e w' ⟨rfl, rfl⟩))
      | (go_at_call 10; ((with_reducible refine (error_errno _ _ _ (hl.below hB)).mono ?_); rintro e w1 ⟨rfl, hb⟩; replace hB := below_call hB hb; clear hb)))
    (with_reducible refine (rows_any _ _ _ _ _ _ ([]) ([]) _ (RowsW.nil_ _) (RowsW.nil_ _) (Nat.zero_le _)).mono ?_); rintro e wi ⟨rfl, qi, rfl⟩; replace hB := below_drewN hB qi
    go_wp2_with (first
      | (go_at_call 20; ((with_reducible refine (unstuffGo_err _ _ _ _ _ _ (hr.below hB) HN.out HE.out HK.out).mono ?_); rintro e w' ⟨rfl, rfl⟩))
      | (go_at_call 10; ((with_reducible refine (error_errno _ _ _ (hl.below hB)).mono ?_); rintro e w1 ⟨rfl, hb⟩; replace hB := below_call hB hb; clear hb)))
    (with_reducible refine (ints_any _ _ _ _ _ _ ([]) ([]) _ Rds.nil_ Rds.nil_ (Nat.zero_le _) (Nat.zero_le _)).mono ?_); rintro e wi ⟨rfl, qi, rfl⟩; replace hB := below_drewN hB qi
    go_wp2_with (first | (go_at_call 21; ((with_reducible refine (flag_any _).mono ?_); rintro e w' ⟨rfl, rfl⟩; have hBf := hB.alloc hB.size (.cells #[.int .i64 0, .int .i64 1, .int .i64 1, .int .i64 1, .int .i64 1, .int .i64 1, .int .i64 1, .int .i64 0] 3); clear hB)) | (go_at_call 22; ((with_reducible refine (refFlag_any _).mono ?_); rintro e w' ⟨rfl, rfl⟩; have hB := hBf.alloc hBf.size (.cells #[.int .i64 0, .int .i64 1, .int .i64 1, .int .i64 1, .int .i64 1, .int .i64 1, .int .i64 1, .int .i64 0] 3); clear hBf)) | (go_at_call 16; ((with_reducible refine (flags_any _ _).mono ?_); rintro e wi ⟨rfl, qj, rfl⟩; replace hB := below_drewN hB qj)))
    go_ret
    exact ⟨by simp, hB⟩
end Go.Proofs.YtbmajajndckfoaaDoor
