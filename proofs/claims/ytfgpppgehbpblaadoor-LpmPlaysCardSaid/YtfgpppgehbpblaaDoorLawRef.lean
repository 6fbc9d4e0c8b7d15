/- The document's in, Power, Prefix, In. -/
import Derived.Test.YtfgpppgehbpblaaDoorCidrIn
import Derived.Deep.QuietTactic
import Derived.BigQuiet
namespace Go.Proofs.YtfgpppgehbpblaaDoor
open Go.RowKit
theorem refIn_any (a b c : Int) (w : World) :
    Calls Tryd.prog 29 #[.int .i64 a, .int .i64 b, .int .i64 c] w fun e w' => e = .returned (.bool (inB a b c)) ∧ w = w' := by
  by_cases h : b ≤ a
  · by_cases h2 : a ≤ c
    all_goals
      go_enter Tryd.func29, Tryd.ntmps29
      go_wp2
      go_ret
      exact ⟨by simp [inB, h, h2], rfl⟩
  · go_enter Tryd.func29, Tryd.ntmps29
    go_wp2
    go_ret
    exact ⟨ret_eq (bool_eq (by rw [eq_comm, inB_false]; omega)), rfl⟩
theorem powN_any (n : Nat) (w : World) (hn : n ≤ 16) :
    Calls Tryd.prog 16 #[.int .i64 n] w fun e w' => e = .returned (.int .i64 (szI (16 - n))) ∧ w = w' := by
  have HZ : Hid (szI (16 - (n : Int)) = ((2 ^ n : Nat) : Int)) := Lib.hid (by unfold szI; rw [show 16 - (16 - (n : Int)).toNat = n from by omega])
  go_enter Tryd.func16, Tryd.ntmps16
  go_wp2_with fail
  go_loop [3, 4] (fun p i => ∃ k : Nat, k ≤ n ∧ i = .int .i64 k ∧ p = .int .i64 ((2 ^ k : Nat) : Int)) (fun _ i => n - (intOf i).toNat)
  case atStart => exact ⟨0, Nat.zero_le _, rfl, rfl⟩
  case round =>
    obtain ⟨k, hk, rfl, rfl⟩ := hrel
    have hp : 2 ^ k ≤ 65536 := Nat.pow_le_pow_right (n := 2) (by omega) (show k ≤ 16 by omega)
    have HP := Lib.hid (show 2 ^ (k + 1) = 2 * 2 ^ k from by rw [Nat.pow_succ, Nat.mul_comm])
    by_cases hlt : k < n
    · generalize 2 ^ k = P at *
      go_wp2
      go_round
      case rel => exact ⟨k + 1, by omega, by go_num, by rw [HP.out]; go_num⟩
      case measure => simp [intOf]; omega
    · obtain rfl : k = n := by omega
      generalize 2 ^ k = P at *
      go_wp2
      go_ret
      exact ⟨by rw [HZ.out]; rfl, rfl⟩
theorem power_any (z : Int) (w : World) (h0 : 0 ≤ z) (h1 : z ≤ 16) :
    Calls Tryd.prog 16 #[.int .i64 z] w fun e w' => e = .returned (.int .i64 (szI (16 - z))) ∧ w = w' := by
  obtain ⟨n, rfl⟩ := Int.eq_ofNat_of_zero_le h0
  exact powN_any n w (by omega)
theorem powerL_any (l : Int) (w : World) (h0 : 0 ≤ l) (h1 : l ≤ 16) :
    Calls Tryd.prog 16 #[.int .i64 (16 - l)] w fun e w' => e = .returned (.int .i64 (szI l)) ∧ w = w' := by
  have := power_any (16 - l) w (by omega) (by omega)
  rwa [show 16 - (16 - l) = l from by omega] at this
set_option maxHeartbeats 1000000 in
theorem refPrefix_any (a l : Int) (w : World) :
    Calls Tryd.prog 7 #[.agg #[.int .i64 a, .int .i64 l]] w fun e w' => e = .returned (.int .i64 (checkE a l)) ∧ Grew w w' := by
  rcases i1 : inB a 0 65535 with _ | _
  · have HE := Lib.hid (show checkE a l = 1 from by unfold checkE; rw [i1]; rfl)
    go_enter Tryd.func7, Tryd.ntmps7
    go_wp2_with (go_at_call 29; refine (refIn_any _ _ _ _).mono ?_; rintro e w' ⟨rfl, rfl⟩)
    go_ret
    exact ⟨by rw [HE.out]; rfl, (Grew.refl w).alloc _⟩
  rcases i2 : inB l 0 16 with _ | _
  · have HE := Lib.hid (show checkE a l = 1 from by unfold checkE; rw [i2, Bool.and_false]; rfl)
    go_enter Tryd.func7, Tryd.ntmps7
    go_wp2_with (go_at_call 29; refine (refIn_any _ _ _ _).mono ?_; rintro e w' ⟨rfl, rfl⟩)
    go_ret
    exact ⟨by rw [HE.out]; rfl, (Grew.refl w).alloc _⟩
  have HC := Lib.hid (show checkE a l = if a % szI l = 0 then 0 else 3 from by unfold checkE; rw [i1, i2]; rfl)
  obtain ⟨h1, h2⟩ := inB_true.1 i1
  obtain ⟨h3, h4⟩ := inB_true.1 i2
  have HS := Lib.hid (fun w => (powerL_any l w h3 h4).mono fun e w' (h : e = .returned (.int .i64 (szI l)) ∧ w = w') => (⟨h.1, h.2.symm⟩ : e = .returned (.int .i64 (szI l)) ∧ w' = w))
  have hs1 := szI_pos l
  have hs2 := szI_le l
  generalize szI l = s at *
  have hs0 : (s == 0) = false := by rw [beq_eq_false_iff_ne]; omega
  have hs3 : ¬ s = 0 := by omega
  have htm : a.tmod s = a % s := Int.tmod_eq_emod_of_nonneg h1
  have hw16 : IntKind.i64.wrap (16 - l) = 16 - l := IntWalk.i64_in _ (by constructor <;> omega)
  by_cases hm : a % s = 0
  · have hm' : (a % s != 0) = false := by rw [bne_eq_false_iff_eq]; exact hm
    have HM := Lib.hid (show checkE a l = 0 from by rw [HC.out, if_pos hm])
    clear hm
    go_enter Tryd.func7, Tryd.ntmps7
    go_wp2_with (go_at_call 29; refine (refIn_any _ _ _ _).mono ?_; rintro e w' ⟨rfl, rfl⟩)
    go_quiet ((go_at_call 16; exact Calls.quiet_of_same (HS.out _)))
    go_wp2
    go_ret
    exact ⟨by rw [HM.out]; rfl, ((Grew.refl w).alloc _).drewN _⟩
  · have hm' : (a % s != 0) = true := by rw [bne_iff_ne]; exact hm
    have HM := Lib.hid (show checkE a l = 3 from by rw [HC.out, if_neg hm])
    clear hm
    go_enter Tryd.func7, Tryd.ntmps7
    go_wp2_with (go_at_call 29; refine (refIn_any _ _ _ _).mono ?_; rintro e w' ⟨rfl, rfl⟩)
    go_quiet ((go_at_call 16; exact Calls.quiet_of_same (HS.out _)))
    go_wp2
    go_ret
    exact ⟨by rw [HM.out]; rfl, ((Grew.refl w).alloc _).drewN _⟩
end Go.Proofs.YtfgpppgehbpblaaDoor
