/- The walk of the law CobsSays. -/
import Derived.Test.YtalehbhimnhnjaaDoorCobsRef
import Derived.Test.YtalehbhimnhnjaaDoorTold
import Derived.Test.YtalehbhimnhnjaaDoorInts
namespace Go.Proofs.YtalehbhimnhnjaaDoor
open Go.RowKit

theorem readR_len {xs o : List Int} (h : readR xs = (0, o)) : o.length ≤ 600 := by
  unfold readR at h
  split at h
  · simp only [Prod.mk.injEq] at h; rw [← h.2]; simp
  · split at h
    · simp only [Prod.mk.injEq] at h; rw [← h.2]; simp
    · unfold readM at h
      split at h
      · simp only [Prod.mk.injEq] at h; rw [← h.2]; simp
      · split at h
        · simp only [Prod.mk.injEq] at h; rw [← h.2]; simp
        · simp only [Prod.mk.injEq] at h; rw [← h.2]; omega

set_option maxHeartbeats 4000000 in
theorem cobsSays_any (A : Option Addr) (n c : Nat) (xs : List Int) (w : World) (hr : Rds w 1 A n (ic xs)) (hnc : n ≤ c) (hc : c ≤ maxLen) (hl : LaidW w) :
    Calls Tryd.prog 8 #[.slice A n c] w fun e w' => e = .returned (.bool true) ∧ Below w.heap.size w w' := by
  have hB := Below.refl w.heap.size w
  have HN := Lib.hid (Nat.le_trans hnc hc)
  have HNC := Lib.hid hnc
  have HC := Lib.hid hc
  obtain rfl : n = xs.length := hr.len_int
  clear hnc hc
  by_cases h : bytesE xs 600 = 0
  · have HE := Lib.hid h
    have hl6 : xs.length ≤ 600 := by have := (bytes_of_ok h).2; omega
    have HL6 := Lib.hid hl6
    have hcl : (cobsL xs).length ≤ maxLen := by
      obtain ⟨_, _, _, h4⟩ := cobs_all xs.length xs (Nat.le_refl _) (byte_range (bytes_of_ok h).1)
      unfold maxLen
      omega
    have HCL := Lib.hid hcl
    clear h hcl
    go_enter Tryd.func8, Tryd.ntmps8
    go_wp2_with (go_at_call 23; refine (refBytes_any _ _ _ _ _ _ (hr.below hB) HN.out).mono ?_; rintro e w' ⟨rfl, rfl⟩; rw [HE.out])
    (with_reducible refine (cobsRef_any _ _ _ _ _ (hr.below hB) HNC.out HL6.out).mono ?_)
    rintro e w1 ⟨A1, c1, rfl, ho1, hc1, hc2, hb⟩
    replace hB := below_call hB hb
    clear hb
    have hr1 := ho1.rds
    clear ho1
    generalize hcb : cobsL xs = cb at *
    have HCB := Lib.hid hcb
    clear hcb
    go_wp2_with fail
    (with_reducible refine (write_ok _ _ _ _ _ (hr.below hB) HN.out HNC.out HE.out).mono ?_)
    rintro e w2 ⟨A2, c2, rfl, ho2, hc3, hc4, hb⟩
    replace hB := below_call hB hb
    replace hr1 := hr1.below hb
    clear hb
    have hr2 := ho2.rds
    clear ho2
    rw [HCB.out] at hr2 hc3 ⊢
    go_wp2_with (go_at_call 25; ((with_reducible refine (error_nil _ _).mono ?_); rintro e w' ⟨rfl, rfl⟩))
    (with_reducible refine (ints_any _ _ _ _ _ _ (cb) (cb) _ hr2 hr1 HCL.out HCL.out).mono ?_); rintro e wi ⟨rfl, qi, rfl⟩; replace hB := below_drewN hB qi
    (obtain ⟨ro, rk, HRR⟩ : ∃ ro rk, Hid (readR xs = (rk, ro)) := ⟨_, _, Lib.hid rfl⟩); go_wp2_with fail; (with_reducible refine (uncobs_any _ _ _ _ _ (hr.below hB) HN.out).mono ?_); rintro e wu ⟨hu1, hu2⟩; (by_cases hk : rk = 0); (focus (have HR0 : Hid (readR xs = (0, ro)) := Lib.hid (by rw [HRR.out, hk]); have HRL : Hid (ro.length ≤ maxLen) := Lib.hid (by have h6 := readR_len HR0.out; unfold maxLen; omega); obtain ⟨Au, cu, rfl, hou, hcu, hcu2, hb⟩ := hu1 _ HR0.out; replace hB := below_call hB hb; clear hb hu1 hu2; have hru := hou.rds; clear hou; go_wp2_with fail; (with_reducible refine (read_any _ _ _ _ _ (hr.below hB) HN.out HNC.out).mono ?_); rintro e wv ⟨hv1, hv2⟩; obtain ⟨Av, cv, rfl, hov, hcv, hcv2, hb⟩ := hv1 _ HR0.out; replace hB := below_call hB hb; replace hru := hru.below hb; clear hb hv1 hv2; have hrv := hov.rds; clear hov; go_wp2_with (go_at_call 25; ((with_reducible refine (error_nil _ _).mono ?_); rintro e w' ⟨rfl, rfl⟩)); (with_reducible refine (ints_any _ _ _ _ _ _ (ro) (ro) _ hrv hru HRL.out HRL.out).mono ?_); rintro e wi ⟨rfl, qi, rfl⟩; replace hB := below_drewN hB qi; go_wp2; go_ret; exact ⟨by simp, hB⟩)); (focus (obtain ⟨rfl, hb⟩ := hu2 rk (by rw [HRR.out]) hk; replace hB := below_call hB hb; clear hb hu1 hu2; go_wp2_with fail; (with_reducible refine (read_any _ _ _ _ _ (hr.below hB) HN.out HNC.out).mono ?_); rintro e wv ⟨hv1, hv2⟩; obtain ⟨rfl, hb⟩ := hv2 rk (by rw [HRR.out]) hk; replace hB := below_call hB hb; clear hb hv1 hv2; go_wp2_with (go_at_call 25; ((with_reducible refine (error_errno _ _ _ (hl.below hB)).mono ?_); rintro e w1 ⟨rfl, hb⟩; replace hB := below_call hB hb; clear hb)); (with_reducible refine (ints_any _ _ _ _ _ _ ([]) ([]) _ Rds.nil_ Rds.nil_ (Nat.zero_le _) (Nat.zero_le _)).mono ?_); rintro e wi ⟨rfl, qi, rfl⟩; replace hB := below_drewN hB qi; go_wp2; go_ret; exact ⟨by simp, hB⟩))
  · obtain ⟨k, hk⟩ : ∃ k, bytesE xs 600 = k := ⟨_, rfl⟩
    have HE := Lib.hid hk
    rw [hk] at h
    have hk0 : (k == 0) = false := by rw [beq_eq_false_iff_ne]; exact h
    have HK := Lib.hid h
    clear h hk
    go_enter Tryd.func8, Tryd.ntmps8
    go_wp2_with (first
      | (go_at_call 23; refine (refBytes_any _ _ _ _ _ _ (hr.below hB) HN.out).mono ?_; rintro e w' ⟨rfl, rfl⟩; rw [HE.out])
      | (go_at_call 19; refine (write_err _ _ _ _ _ _ (hr.below hB) HN.out HE.out HK.out).mono ?_; rintro e w' ⟨rfl, rfl⟩)
      | (go_at_call 25; ((with_reducible refine (error_errno _ _ _ (hl.below hB)).mono ?_); rintro e w1 ⟨rfl, hb⟩; replace hB := below_call hB hb; clear hb)))
    (with_reducible refine (ints_any _ _ _ _ _ _ ([]) ([]) _ Rds.nil_ Rds.nil_ (Nat.zero_le _) (Nat.zero_le _)).mono ?_); rintro e wi ⟨rfl, qi, rfl⟩; replace hB := below_drewN hB qi
    (obtain ⟨ro, rk, HRR⟩ : ∃ ro rk, Hid (readR xs = (rk, ro)) := ⟨_, _, Lib.hid rfl⟩); go_wp2_with fail; (with_reducible refine (uncobs_any _ _ _ _ _ (hr.below hB) HN.out).mono ?_); rintro e wu ⟨hu1, hu2⟩; (by_cases hk : rk = 0); (focus (have HR0 : Hid (readR xs = (0, ro)) := Lib.hid (by rw [HRR.out, hk]); have HRL : Hid (ro.length ≤ maxLen) := Lib.hid (by have h6 := readR_len HR0.out; unfold maxLen; omega); obtain ⟨Au, cu, rfl, hou, hcu, hcu2, hb⟩ := hu1 _ HR0.out; replace hB := below_call hB hb; clear hb hu1 hu2; have hru := hou.rds; clear hou; go_wp2_with fail; (with_reducible refine (read_any _ _ _ _ _ (hr.below hB) HN.out HNC.out).mono ?_); rintro e wv ⟨hv1, hv2⟩; obtain ⟨Av, cv, rfl, hov, hcv, hcv2, hb⟩ := hv1 _ HR0.out; replace hB := below_call hB hb; replace hru := hru.below hb; clear hb hv1 hv2; have hrv := hov.rds; clear hov; go_wp2_with (go_at_call 25; ((with_reducible refine (error_nil _ _).mono ?_); rintro e w' ⟨rfl, rfl⟩)); (with_reducible refine (ints_any _ _ _ _ _ _ (ro) (ro) _ hrv hru HRL.out HRL.out).mono ?_); rintro e wi ⟨rfl, qi, rfl⟩; replace hB := below_drewN hB qi; go_wp2; go_ret; exact ⟨by simp, hB⟩)); (focus (obtain ⟨rfl, hb⟩ := hu2 rk (by rw [HRR.out]) hk; replace hB := below_call hB hb; clear hb hu1 hu2; go_wp2_with fail; (with_reducible refine (read_any _ _ _ _ _ (hr.below hB) HN.out HNC.out).mono ?_); rintro e wv ⟨hv1, hv2⟩; obtain ⟨rfl, hb⟩ := hv2 rk (by rw [HRR.out]) hk; replace hB := below_call hB hb; clear hb hv1 hv2; go_wp2_with (go_at_call 25; ((with_reducible refine (error_errno _ _ _ (hl.below hB)).mono ?_); rintro e w1 ⟨rfl, hb⟩; replace hB := below_call hB hb; clear hb)); (with_reducible refine (ints_any _ _ _ _ _ _ ([]) ([]) _ Rds.nil_ Rds.nil_ (Nat.zero_le _) (Nat.zero_le _)).mono ?_); rintro e wi ⟨rfl, qi, rfl⟩; replace hB := below_drewN hB qi; go_wp2; go_ret; exact ⟨by simp, hB⟩))
end Go.Proofs.YtalehbhimnhnjaaDoor
