/- The walks of the laws SerialWhole and SerialSays. -/
import Derived.Test.YtljdlhahfeipcaaDoorSerial
import Derived.Test.YtljdlhahfeipcaaDoorTold
namespace Go.Proofs.YtljdlhahfeipcaaDoor
open Go.RowKit

theorem in_any (a b c : Int) (w : World) :
    Calls Tryd.prog 5 #[.int .i64 a, .int .i64 b, .int .i64 c] w fun e w' => e = .returned (.bool (inB a b c)) ∧ w = w' := by
  by_cases h : b ≤ a
  · by_cases h2 : a ≤ c
    all_goals
      go_enter Tryd.func5, Tryd.ntmps5
      go_wp2
      go_ret
      exact ⟨by simp [inB, h, h2], rfl⟩
  · go_enter Tryd.func5, Tryd.ntmps5
    go_wp2
    go_ret
    exact ⟨ret_eq (bool_eq (by rw [eq_comm, inB_false]; omega)), rfl⟩
theorem serialFact_any (w : World) :
    Calls Tryd.prog 12 #[] w fun e w' => e = .returned (.bool true) ∧ Below w.heap.size w w' := by
  have hB := Below.refl w.heap.size w
  have e1 : inB (aheadI 250 4) 1 127 = true := by decide
  have e2 : (aheadI 250 4 != 128) = true := by decide
  have e3 : wholeI 4 250 = 260 := by decide
  go_enter Tryd.func12, Tryd.ntmps12
  go_wp2_with (first | (go_at_call 6; refine (add_ok _ _ _ (by omega) (by omega) (by omega) (by omega)).mono ?_; rintro e w' ⟨rfl, rfl⟩) | (go_at_call 9; refine (less_ok _ _ _ (by omega) (by omega) (by omega) (by omega)).mono ?_; rintro e w1 ⟨rfl, hb⟩; replace hB := below_call hB hb; clear hb) | (go_at_call 11; refine (whole_ok _ _ _ (by omega) (by omega) (by omega) (by omega)).mono ?_; rintro e w' ⟨rfl, rfl⟩))
  go_ret
  exact ⟨rfl, hB⟩

/-! ### SerialWhole -/
set_option maxHeartbeats 2000000 in
theorem serialWhole_any (n x : Int) (w : World) (hl : LaidW w) :
    Calls Tryd.prog 4 #[.int .i64 n, .int .i64 x] w fun e w' => e = .returned (.bool true) ∧ Below w.heap.size w w' := by
  have hB := Below.refl w.heap.size w
  have i256 : inB 256 0 255 = false := by decide
  have HW := Lib.hid (Or.inl i256 : inB 256 0 255 = false ∨ inB 0 0 100000 = false)
  clear i256
  rcases i1 : inB n 0 100000 with _ | _
  · go_enter Tryd.func4, Tryd.ntmps4
    go_wp2_with (first | (go_at_call 12; refine (serialFact_any _).mono ?_; rintro e w1 ⟨rfl, hb⟩; replace hB := below_call hB hb; clear hb) | (go_at_call 5; refine (in_any _ _ _ _).mono ?_; rintro e w' ⟨rfl, rfl⟩) | (go_at_call 7; refine (error_errno _ _ _ (hl.below hB)).mono ?_; rintro e w1 ⟨rfl, hb⟩; replace hB := below_call hB hb; clear hb) | (go_at_call 11; refine (whole_err _ _ _ HW.out).mono ?_; rintro e w' ⟨rfl, rfl⟩))
    go_ret
    exact ⟨rfl, hB⟩
  rcases i2 : inB x 0 100000 with _ | _
  · go_enter Tryd.func4, Tryd.ntmps4
    go_wp2_with (first | (go_at_call 12; refine (serialFact_any _).mono ?_; rintro e w1 ⟨rfl, hb⟩; replace hB := below_call hB hb; clear hb) | (go_at_call 5; refine (in_any _ _ _ _).mono ?_; rintro e w' ⟨rfl, rfl⟩) | (go_at_call 7; refine (error_errno _ _ _ (hl.below hB)).mono ?_; rintro e w1 ⟨rfl, hb⟩; replace hB := below_call hB hb; clear hb) | (go_at_call 11; refine (whole_err _ _ _ HW.out).mono ?_; rintro e w' ⟨rfl, rfl⟩))
    go_ret
    exact ⟨rfl, hB⟩
  obtain ⟨h1, h2⟩ := inB_true.1 i1
  obtain ⟨h3, h4⟩ := inB_true.1 i2
  have k0 : 0 ≤ wholeI (n % 256) x := by unfold wholeI; split <;> (try split) <;> omega
  have k1 : wholeI (n % 256) x ≤ 200000 := by unfold wholeI; split <;> (try split) <;> omega
  have k2 : (wholeI (n % 256) x % 256 != n % 256) = false := by
    rw [bne_eq_false_iff_eq]; unfold wholeI; split <;> (try split) <;> omega
  have k4 : -128 ≤ wholeI (n % 256) x - x := by unfold wholeI; split <;> (try split) <;> omega
  have k5 : wholeI (n % 256) x - x ≤ 128 ∨ wholeI (n % 256) x < 256 := by unfold wholeI; split <;> (try split) <;> omega
  have k6 : -128 < n - x ∧ n - x < 128 → wholeI (n % 256) x = n := by unfold wholeI; split <;> (try split) <;> omega
  have HC := Lib.hid (fun w => whole_ok (n % 256) x w (by omega) (by omega) h3 h4)
  generalize wholeI (n % 256) x = m at *
  by_cases hn : -128 < n - x ∧ n - x < 128
  · obtain rfl := k6 hn
    obtain ⟨hn1, hn2⟩ := hn
    clear k5 k6 k2
    go_enter Tryd.func4, Tryd.ntmps4
    go_wp2_with (first | (go_at_call 12; refine (serialFact_any _).mono ?_; rintro e w1 ⟨rfl, hb⟩; replace hB := below_call hB hb; clear hb) | (go_at_call 5; refine (in_any _ _ _ _).mono ?_; rintro e w' ⟨rfl, rfl⟩) | (go_at_call 11; refine (HC.out _).mono ?_; rintro e w' ⟨rfl, rfl⟩))
    go_ret
    exact ⟨by simp, hB⟩
  · clear k6
    by_cases h5 : m - x ≤ 128
    · clear k5
      by_cases hn1 : -128 < n - x
      · have hn2 : 128 ≤ n - x := by omega
        clear hn
        go_enter Tryd.func4, Tryd.ntmps4
        go_wp2_with (first | (go_at_call 12; refine (serialFact_any _).mono ?_; rintro e w1 ⟨rfl, hb⟩; replace hB := below_call hB hb; clear hb) | (go_at_call 5; refine (in_any _ _ _ _).mono ?_; rintro e w' ⟨rfl, rfl⟩) | (go_at_call 11; refine (HC.out _).mono ?_; rintro e w' ⟨rfl, rfl⟩))
        go_ret
        exact ⟨rfl, hB⟩
      · have hn2 : n - x ≤ -128 := by omega
        clear hn hn1
        go_enter Tryd.func4, Tryd.ntmps4
        go_wp2_with (first | (go_at_call 12; refine (serialFact_any _).mono ?_; rintro e w1 ⟨rfl, hb⟩; replace hB := below_call hB hb; clear hb) | (go_at_call 5; refine (in_any _ _ _ _).mono ?_; rintro e w' ⟨rfl, rfl⟩) | (go_at_call 11; refine (HC.out _).mono ?_; rintro e w' ⟨rfl, rfl⟩))
        go_ret
        exact ⟨rfl, hB⟩
    · have h6 : m < 256 := by omega
      have h7 : 128 < m - x := by omega
      clear k5 h5
      by_cases hn1 : -128 < n - x
      · have hn2 : 128 ≤ n - x := by omega
        clear hn
        go_enter Tryd.func4, Tryd.ntmps4
        go_wp2_with (first | (go_at_call 12; refine (serialFact_any _).mono ?_; rintro e w1 ⟨rfl, hb⟩; replace hB := below_call hB hb; clear hb) | (go_at_call 5; refine (in_any _ _ _ _).mono ?_; rintro e w' ⟨rfl, rfl⟩) | (go_at_call 11; refine (HC.out _).mono ?_; rintro e w' ⟨rfl, rfl⟩))
        go_ret
        exact ⟨rfl, hB⟩
      · have hn2 : n - x ≤ -128 := by omega
        clear hn hn1
        go_enter Tryd.func4, Tryd.ntmps4
        go_wp2_with (first | (go_at_call 12; refine (serialFact_any _).mono ?_; rintro e w1 ⟨rfl, hb⟩; replace hB := below_call hB hb; clear hb) | (go_at_call 5; refine (in_any _ _ _ _).mono ?_; rintro e w' ⟨rfl, rfl⟩) | (go_at_call 11; refine (HC.out _).mono ?_; rintro e w' ⟨rfl, rfl⟩))
        all_goals go_ret
        all_goals exact ⟨rfl, hB⟩

/-! ### The document's answers -/
theorem ahead_any (a b : Int) (w : World) (h1 : 0 ≤ a) (h2 : a ≤ 255) (h3 : 0 ≤ b) (h4 : b ≤ 255) :
    Calls Tryd.prog 8 #[.int .i64 a, .int .i64 b] w fun e w' => e = .returned (.int .i64 (aheadI a b)) ∧ w = w' := by
  have hd0 : 0 ≤ aheadI a b := by unfold aheadI; omega
  have hd1 : aheadI a b ≤ 255 := by unfold aheadI; omega
  have hd : aheadI a b = (b - a) % 256 := rfl
  have HD := Lib.hid hd
  clear hd
  generalize aheadI a b = d at *
  go_enter Tryd.func8, Tryd.ntmps8
  go_wp2_with fail
  go_loop [5] (fun i => ∃ k : Int, 0 ≤ k ∧ k ≤ d ∧ i = .int .i64 k) (fun i => (d - intOf i).toNat)
  case atStart => exact ⟨0, by omega, by omega, rfl⟩
  case round =>
    obtain ⟨k, hk0, hk, rfl⟩ := hrel
    by_cases hlt : k = d
    · subst hlt
      have he : ((a + k) % 256 != b) = false := by rw [bne_eq_false_iff_eq]; have := HD.out; omega
      go_wp2
      go_ret
      exact ⟨rfl, rfl⟩
    · have hlt' : k < d := by omega
      have he : ((a + k) % 256 != b) = true := by rw [bne_iff_ne]; have := HD.out; omega
      clear hlt
      go_wp2
      go_round
      case rel => exact ⟨k + 1, by omega, by omega, rfl⟩
      case measure => simp [intOf]; omega

def absI (v : Int) : Int := if v < 0 then -v else v
theorem abs_any (v : Int) (w : World) (h1 : -1000000 ≤ v) (h2 : v ≤ 1000000) :
    Calls Tryd.prog 16 #[.int .i64 v] w fun e w' => e = .returned (.int .i64 (absI v)) ∧ w = w' := by
  by_cases h : v < 0
  all_goals
    go_enter Tryd.func16, Tryd.ntmps16
    go_wp2
    go_ret
    exact ⟨ret_int (by unfold absI; split <;> omega), rfl⟩

/-- What holds of the best number so far. -/
def Best (a x T n best : Int) : Prop :=
  a ≤ n ∧ n ≤ x + 512 ∧ n % 256 = a ∧ a ≤ best ∧ best ≤ x + 512 ∧
  ((n = a ∧ best = a) ∨ (a < n ∧ n - 256 < x - 300 ∧ best = a) ∨ (a < n ∧ x - 300 ≤ n - 256 ∧ (n - 256 ≤ T ∧ best = n - 256 ∨ T ≤ n - 256 ∧ best = T)))
theorem best_step (a x T n best : Int) (h1 : 0 ≤ a) (h2 : a ≤ 255) (_h3 : 0 ≤ x) (hT0 : a ≤ T) (hT1 : T ≤ x + 128 ∨ T = a) (hT2 : x - 128 < T) (hT3 : T % 256 = a) (hn : n ≤ x + 256) (hB : Best a x T n best) :
    Best a x T (n + 256) (if x - 300 ≤ n ∧ absI (n - x) ≤ absI (best - x) then n else best) := by
  obtain ⟨b1, b2, b3, b4, b5, b6⟩ := hB
  by_cases h : x - 300 ≤ n ∧ absI (n - x) ≤ absI (best - x)
  · rw [if_pos h]
    obtain ⟨h5, h6⟩ := h
    unfold absI at h6
    refine ⟨by omega, by omega, by omega, by omega, by omega, .inr (.inr ⟨by omega, by omega, ?_⟩)⟩
    have e : n + 256 - 256 = n := by omega
    rw [e]
    by_cases hnT : n ≤ T
    · exact .inl ⟨hnT, rfl⟩
    · right
      refine ⟨by omega, ?_⟩
      split at h6 <;> split at h6 <;> omega
  · rw [if_neg h]
    refine ⟨by omega, by omega, by omega, by omega, by omega, ?_⟩
    by_cases h5 : x - 300 ≤ n
    · right; right
      have h6 : ¬ absI (n - x) ≤ absI (best - x) := fun h6 => h ⟨h5, h6⟩
      unfold absI at h6
      refine ⟨by omega, by omega, ?_⟩
      have e : n + 256 - 256 = n := by omega
      rw [e]
      by_cases hnT : n ≤ T
      · left
        refine ⟨hnT, ?_⟩
        split at h6 <;> split at h6 <;> omega
      · right
        refine ⟨by omega, ?_⟩
        split at h6 <;> split at h6 <;> omega
    · right; left
      refine ⟨by omega, by omega, ?_⟩
      omega
theorem best_end (a x T n best : Int) (h2 : a ≤ 255) (h3 : 0 ≤ x) (hT1 : T ≤ x + 128 ∨ T = a) (hT3 : T % 256 = a) (hn : x + 256 < n) (hB : Best a x T n best) : best = T := by
  obtain ⟨b1, b2, b3, b4, b5, b6⟩ := hB
  omega

set_option maxHeartbeats 1000000 in
theorem wholeRef_any (a x : Int) (w : World) (h1 : 0 ≤ a) (h2 : a ≤ 255) (h3 : 0 ≤ x) (h4 : x ≤ 100000) :
    Calls Tryd.prog 10 #[.int .i64 a, .int .i64 x] w fun e w' => e = .returned (.int .i64 (wholeI a x)) ∧ w = w' := by
  have hT0 : a ≤ wholeI a x := by unfold wholeI; split <;> (try split) <;> omega
  have hT1 : wholeI a x ≤ x + 128 ∨ wholeI a x = a := by unfold wholeI; split <;> (try split) <;> omega
  have hT2 : x - 128 < wholeI a x := by unfold wholeI; split <;> (try split) <;> omega
  have hT3 : wholeI a x % 256 = a := by unfold wholeI; split <;> (try split) <;> omega
  have HS := Lib.hid (fun n best => best_step a x (wholeI a x) n best h1 h2 h3 hT0 hT1 hT2 hT3)
  have HE := Lib.hid (fun n best => best_end a x (wholeI a x) n best h2 h3 hT1 hT3)
  have HI : Hid (Best a x (wholeI a x) a a) := Lib.hid ⟨by omega, by omega, by omega, by omega, by omega, .inl ⟨rfl, rfl⟩⟩
  clear hT0 hT1 hT2 hT3
  generalize wholeI a x = T at *
  go_enter Tryd.func10, Tryd.ntmps10
  go_wp2_with fail
  go_loop [5, 6] (fun b i => ∃ n best : Int, i = .int .i64 n ∧ b = .int .i64 best ∧ Best a x T n best) (fun _ i => (x + 600 - intOf i).toNat)
  case atStart => exact ⟨a, a, rfl, rfl, HI.out⟩
  case round =>
    obtain ⟨n, best, rfl, rfl, hb⟩ := hrel
    have HB := Lib.hid hb
    obtain ⟨b1, b2, _, b4, b5, _⟩ := hb
    by_cases hn : n ≤ x + 256
    · have HN := Lib.hid (HS.out n best hn HB.out)
      by_cases h5 : x - 300 ≤ n
      · by_cases h6 : absI (n - x) ≤ absI (best - x)
        · have HN2 : Hid (Best a x T (n + 256) n) := Lib.hid (by have := HN.out; rwa [if_pos ⟨h5, h6⟩] at this)
          go_wp2_with (go_at_call 16; refine (abs_any _ _ (by omega) (by omega)).mono ?_; rintro e w' ⟨rfl, rfl⟩)
          go_round
          case rel => exact ⟨n + 256, n, rfl, rfl, HN2.out⟩
          case measure => simp [intOf]; omega
        · have HN2 : Hid (Best a x T (n + 256) best) := Lib.hid (by have := HN.out; rwa [if_neg (fun h => h6 h.2)] at this)
          have h6' : decide (absI (n - x) ≤ absI (best - x)) = false := decide_eq_false h6
          clear h6
          go_wp2_with (go_at_call 16; refine (abs_any _ _ (by omega) (by omega)).mono ?_; rintro e w' ⟨rfl, rfl⟩)
          go_round
          case rel => exact ⟨n + 256, best, rfl, rfl, HN2.out⟩
          case measure => simp [intOf]; omega
      · have HN2 : Hid (Best a x T (n + 256) best) := Lib.hid (by have := HN.out; rwa [if_neg (fun h => h5 h.1)] at this)
        have h5' : decide (x - 300 ≤ n) = false := decide_eq_false h5
        clear h5
        go_wp2_with (go_at_call 16; refine (abs_any _ _ (by omega) (by omega)).mono ?_; rintro e w' ⟨rfl, rfl⟩)
        go_round
        case rel => exact ⟨n + 256, best, rfl, rfl, HN2.out⟩
        case measure => simp [intOf]; omega
    · have hn' : x + 256 < n := by omega
      have HEE := Lib.hid (HE.out n best hn' HB.out)
      clear hn
      go_wp2
      go_ret
      exact ⟨ret_int HEE.out, rfl⟩

end Go.Proofs.YtljdlhahfeipcaaDoor
