/- The walk of the law OnesMend. -/
import Derived.Deep.RegionWith
import Derived.Test.YtalehbhimnhnjaaOnesLaws
namespace Go.Proofs.Ytalehbhimnhnjaa
open Go.RowKit

theorem norm_wrap {s : Int} (hs : 0 < s) : norm (s + 65535) = norm s := by
  unfold norm
  rw [if_neg (by omega), if_neg (by omega)]
  omega
theorem mend_norm {s a b : Int} (hs : 0 ≤ s) (ha : 0 ≤ a ∧ a ≤ 65535) (hb : 0 ≤ b ∧ b ≤ 65535) :
    mendP (65535 - norm s) a b = 65535 - norm (s + (65535 - a) + b) := by
  unfold mendP
  rw [show (65535 : Int) - (65535 - norm s) = norm s from by omega, addW_norm hs (by omega) (by omega), addW_norm (by omega) hb.1 hb.2]

/-- The list in which the word at i is another one. -/
def nextL (xs : List Int) (i : Nat) (v : Int) : List Int := (xs.set (2 * i) (v / 256)).set (2 * i + 1) (v % 256)
theorem nextL_bytes {xs : List Int} (hb : ∀ x ∈ xs, 0 ≤ x ∧ x ≤ 255) {i : Nat} {v : Int} (hv : 0 ≤ v ∧ v ≤ 65535) : ∀ x ∈ nextL xs i v, 0 ≤ x ∧ x ≤ 255 :=
  set_bytes (set_bytes hb (by omega)) (by omega)
theorem nextL_wsum {xs : List Int} {i : Nat} (h : 2 * i + 1 < xs.length) (v : Int) : wsum (nextL xs i v) = wsum xs + v - (256 * xs[2 * i] + xs[2 * i + 1]) := by
  unfold nextL
  rw [wsum_set _ _ _ (by rw [List.length_set]; exact h), wsum_set _ _ _ (by omega), List.getElem_set_ne (by omega)]
  rw [if_pos (by omega), if_neg (by omega)]
  omega
theorem mend_law {xs : List Int} (hb : ∀ x ∈ xs, 0 ≤ x ∧ x ≤ 255) {i : Nat} (h : 2 * i + 1 < xs.length) {v : Int} (hv : 0 ≤ v ∧ v ≤ 65535) :
    ((nextL xs i v).sum = 0 → 65535 - totalP (nextL xs i v) = 65535 ∧ mendP (65535 - totalP xs) (256 * xs[2 * i] + xs[2 * i + 1]) v = 0) ∧
    ((nextL xs i v).sum ≠ 0 → 65535 - totalP (nextL xs i v) = mendP (65535 - totalP xs) (256 * xs[2 * i] + xs[2 * i + 1]) v) := by
  have hx := hb xs[2 * i] (List.getElem_mem _)
  have hy := hb xs[2 * i + 1] (List.getElem_mem _)
  have hb2 := nextL_bytes hb hv (i := i)
  have h0 := wsum_nonneg hb2
  have hz := wsum_zero hb2
  have hw := nextL_wsum h v
  rw [totalP_norm hb2, totalP_norm hb, mend_norm (wsum_nonneg hb) (by omega) hv]
  rw [show wsum xs + (65535 - (256 * xs[2 * i] + xs[2 * i + 1])) + v = wsum (nextL xs i v) + 65535 from by omega]
  constructor
  · intro hs
    rw [hz.2 hs]
    simp [norm]
  · intro hs
    rw [norm_wrap (by have : ¬ wsum (nextL xs i v) = 0 := fun e => hs (hz.1 e); omega)]

set_option maxHeartbeats 2000000 in
theorem onesMend_any (A : Option Addr) (n c : Nat) (xs : List Int) (at_ is : Int) (w : World) (hr : Rds w 1 A n (ic xs)) (hnc : n ≤ c) (hc : c ≤ maxLen) :
    Calls Try.prog 5 #[.slice A n c, .int .i64 at_, .int .i64 is] w fun e w' => e = .returned (.bool true) ∧ Below w.heap.size w w' := by
  have hB := Below.refl w.heap.size w
  obtain rfl : n = xs.length := hr.len_int
  have HN := Lib.hid (Nat.le_trans hnc hc)
  by_cases h : bytesE xs 600 = 0
  · have HE := Lib.hid h
    have hby := byte_range (bytes_of_ok h).1
    have hle := norm_le (wsum_nonneg hby)
    rw [← totalP_norm hby] at hle
    have hl := (bytes_of_ok h).2
    obtain ⟨N, HT⟩ : ∃ N, Hid (65535 - totalP xs = N) := ⟨_, Lib.hid rfl⟩
    have hN : 0 ≤ N ∧ N ≤ 65535 := by have := HT.out; omega
    clear h hle
    have hq : IntKind.i64.wrap ((xs.length : Int).tdiv 2) = (xs.length : Int) / 2 := IntWalk.i64_quo _ 2 (by omega)
    have hq2 : IntKind.i64.wrap ((xs.length : Int) / 2 - 1) = (xs.length : Int) / 2 - 1 := IntWalk.i64_in _ (by omega)
    rcases hi1 : inB at_ 0 ((xs.length : Int) / 2 - 1) with _ | _
    · go_enter Try.func5, Try.ntmps5
      go_wp2_with (first | (go_at_call 8; refine (onesFact_any _).mono ?_; rintro e w1 ⟨rfl, hb⟩; replace hB := below_call hB hb; clear hb) | (go_at_call 9; refine (sum_ok _ _ _ _ _ (hr.below hB) hnc hc HE.out).mono ?_; rintro e w2 ⟨rfl, hb⟩; rw [HT.out]; replace hB := below_call hB hb; clear hb) | (go_at_call 10; refine (in_any _ _ _ _).mono ?_; rintro e w' ⟨rfl, rfl⟩))
      go_ret
      exact ⟨rfl, hB⟩
    rcases hi2 : inB is 0 65535 with _ | _
    · go_enter Try.func5, Try.ntmps5
      go_wp2_with (first | (go_at_call 8; refine (onesFact_any _).mono ?_; rintro e w1 ⟨rfl, hb⟩; replace hB := below_call hB hb; clear hb) | (go_at_call 9; refine (sum_ok _ _ _ _ _ (hr.below hB) hnc hc HE.out).mono ?_; rintro e w2 ⟨rfl, hb⟩; rw [HT.out]; replace hB := below_call hB hb; clear hb) | (go_at_call 10; refine (in_any _ _ _ _).mono ?_; rintro e w' ⟨rfl, rfl⟩))
      go_ret
      exact ⟨rfl, hB⟩
    obtain ⟨hi3, hi4⟩ := inB_true.1 hi1
    obtain ⟨i, rfl⟩ : ∃ i : Nat, at_ = i := ⟨at_.toNat, by omega⟩
    have hi5 : 2 * i + 1 < xs.length := by omega
    have hv := inB_true.1 hi2
    have HM := Lib.hid (mend_law hby hi5 hv)
    have HNB := Lib.hid (nextL_bytes hby hv (i := i))
    rw [HT.out] at HM
    have hx := hby xs[2 * i] (List.getElem_mem _)
    have hy := hby xs[2 * i + 1] (List.getElem_mem _)
    obtain ⟨j, hj⟩ : ∃ j, 2 * i = j := ⟨_, rfl⟩
    obtain ⟨k, hk⟩ : ∃ k, j + 1 = k := ⟨_, rfl⟩
    have hw1 : IntKind.i64.wrap (2 * (i : Int)) = (j : Int) := by rw [← hj]; exact IntWalk.i64_in _ (by omega)
    have hw2 : IntKind.i64.wrap ((j : Int) + 1) = (k : Int) := by rw [← hk]; exact IntWalk.i64_in _ (by omega)
    have hq3 : IntKind.i64.wrap (is.tdiv 256) = is / 256 := IntWalk.i64_quo _ 256 (by omega)
    have HQ : Hid (nextL xs i is = (xs.set j (is / 256)).set k (is % 256)) := Lib.hid (by rw [nextL, hj, hk])
    have hjl : j < xs.length := by omega
    have hkl : k < xs.length := by omega
    simp only [hj, hk] at HM hx hy
    obtain ⟨b, off, _, rfl, hcx⟩ := hr.int hjl
    obtain ⟨b', off', _, hA, hcy⟩ := hr.int hkl
    obtain ⟨rfl, rfl⟩ : b = b' ∧ off = off' := by simpa using hA
    obtain ⟨x, hxj⟩ : ∃ x, xs[j] = x := ⟨_, rfl⟩
    obtain ⟨y, hyk⟩ : ∃ y, xs[k] = y := ⟨_, rfl⟩
    rw [hxj] at hx hcx HM
    rw [hyk] at hy hcy HM
    obtain ⟨ms, hms⟩ : ∃ ms, nextL xs i is = ms := ⟨_, rfl⟩
    have hml : ms.length = xs.length := by rw [← hms, nextL]; simp
    rw [hms] at HM HNB HQ
    have HE2 : Hid (bytesE ms 600 = 0) := Lib.hid (bytesE_ok HNB.out (by omega))
    clear hby hi3 hi4 hv hxj hyk hms hA hi5
    have HJ := Lib.hid hj
    have HK := Lib.hid hk
    clear hj hk
    go_enter Try.func5, Try.ntmps5
    go_wp2_with (first | (go_at_call 8; refine (onesFact_any _).mono ?_; rintro e w1 ⟨rfl, hb⟩; replace hB := below_call hB hb; clear hb) | (go_at_call 9; refine (sum_ok _ _ _ _ _ (hr.below hB) hnc hc HE.out).mono ?_; rintro e w2 ⟨rfl, hb⟩; rw [HT.out]; replace hB := below_call hB hb; clear hb) | (go_at_call 10; refine (in_any _ _ _ _).mono ?_; rintro e w' ⟨rfl, rfl⟩))
    have hbq : 0 ≤ is / 256 := by have := inB_true.1 hi2; omega
    refine (set_any _ _ _ _ _ _ _ (hr.below hB) (by omega) hjl).mono ?_
    rintro e w3 ⟨A1, c1, rfl, ho1, _, _, hb⟩
    replace hB := below_call hB hb
    have hr1 := ho1.rds
    clear hb ho1
    have HL1 := Lib.hid (show (xs.set j (is / 256)).length = xs.length by rw [List.length_set])
    generalize xs.set j (is / 256) = xs1 at hr1 HL1 HQ ⊢
    obtain ⟨l1, hl1⟩ : ∃ l1, xs1.length = l1 := ⟨_, rfl⟩
    rw [hl1] at hr1 HL1 ⊢
    have hl6 : l1 ≤ 600 := by have := HL1.out; omega
    have hkl1 : k < l1 := by rw [HL1.out]; exact hkl
    clear hl1
    go_wp2_with fail
    refine (set_any _ _ _ _ _ _ _ hr1 (by omega) hkl1).mono ?_
    rintro e w4 ⟨A2, c2, rfl, ho2, hd2, hd3, hb⟩
    replace hB := below_call hB hb
    rw [← HQ.out] at ho2 hd2 ⊢
    have hr2 := ho2.rds
    clear hb ho2
    obtain ⟨m, hm⟩ : ∃ m, ms.length = m := ⟨_, rfl⟩
    rw [hm] at hr2 hd2 hml ⊢
    have hm6 : m ≤ 600 := by omega
    clear hm hml
    go_wp2_with fail
    refine (sum_ok _ _ _ _ _ hr2 hd2 hd3 HE2.out).mono ?_
    rintro e w5 ⟨rfl, hb⟩
    replace hB := below_call hB hb
    replace hr2 := hr2.below hb
    clear hb
    go_wp2_with fail
    have hcx5 := (hB.cell (p := ⟨b, off + j, none⟩) (cell_lt hcx)).trans hcx
    have hcy5 := (hB.cell (p := ⟨b, off + k, none⟩) (cell_lt hcy)).trans hcy
    have hw3 : IntKind.i64.wrap (256 * x) = 256 * x := IntWalk.i64_in _ (by omega)
    have hw4 : IntKind.i64.wrap (256 * x + y) = 256 * x + y := IntWalk.i64_in _ (by omega)
    have HMV := Lib.hid (inB_true.1 hi2)
    have hB6 : Below w.heap.size w w5.drew := below_drewN hB 1
    have hr6 : Rds w5.drew 1 A2 m (ic ms) := hr2.drewN 1
    obtain ⟨S, HS⟩ : ∃ S, Hid (ms.sum = S) := ⟨_, Lib.hid rfl⟩
    obtain ⟨T, HT2⟩ : ∃ T, Hid (mendP N (256 * x + y) is = T) := ⟨_, Lib.hid rfl⟩
    obtain ⟨U, HU⟩ : ∃ U, Hid (65535 - totalP ms = U) := ⟨_, Lib.hid rfl⟩
    have hcase : (S = 0 ∧ U = 65535 ∧ T = 0) ∨ (0 < S ∧ U = T) := by
      have h1 := HM.out
      have h2 := sum_nonneg HNB.out
      rw [HS.out, HT2.out, HU.out] at h1
      rw [HS.out] at h2
      by_cases hs : S = 0
      · exact .inl ⟨hs, h1.1 hs⟩
      · exact .inr ⟨by omega, h1.2 hs⟩
    have HC := Lib.hid hcase
    clear hcase HM
    rw [HU.out]
    clear hr2 hd2 hd3 HE2 HQ HL1 hr1 hl6 hkl1
    go_region_with ((go_at_call 14; refine (mend_ok _ _ _ _ hN (by omega) HMV.out).mono ?_; rintro e w7 ⟨rfl, hb⟩; rw [HT2.out]))
    all_goals (replace hB := below_call hB6 hb; replace hr6 := hr6.below hb; clear hb hB6 hcx5 hcy5 hw3 hw4)
    all_goals rcases HC.out with ⟨rfl, rfl, rfl⟩ | ⟨hs, rfl⟩
    all_goals go_wp2_with (go_at_call 15; refine (sameSum_any _ _ _ _ _ hr6 (by omega) HNB.out).mono ?_; rintro e w' ⟨rfl, rfl⟩; rw [HS.out])
    all_goals go_ret
    all_goals exact ⟨rfl, hB⟩
  · have HE := Lib.hid h
    go_enter Try.func5, Try.ntmps5
    go_wp2_with (first | (go_at_call 8; refine (onesFact_any _).mono ?_; rintro e w1 ⟨rfl, hb⟩; replace hB := below_call hB hb; clear hb) | (go_at_call 9; refine (sum_err _ _ _ _ _ _ (hr.below hB) HN.out rfl HE.out).mono ?_; rintro e w' ⟨rfl, rfl⟩))
    go_ret
    exact ⟨rfl, hB⟩
end Go.Proofs.Ytalehbhimnhnjaa
