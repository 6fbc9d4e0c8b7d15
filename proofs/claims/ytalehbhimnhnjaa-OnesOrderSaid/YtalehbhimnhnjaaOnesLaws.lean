/- The walks of the laws OnesGood, OnesOrder, OnesMend. -/
import Derived.Test.YtalehbhimnhnjaaOnesHelp
namespace Go.Proofs.Ytalehbhimnhnjaa
open Go.RowKit

theorem onesFact_any (w : World) :
    Calls Try.prog 8 #[] w fun e w' => e = .returned (.bool true) ∧ Below w.heap.size w w' := by
  have hs := sum_ok (some ⟨w.heap.size, 0, none⟩) 3 3 [1, 2, 3] (w.alloc (.cells #[.int .i64 1, .int .i64 2, .int .i64 3] 3)) (rds_lit w [1, 2, 3] _) (by decide) (by decide) (by decide)
  rw [show totalP [1, 2, 3] = 1026 from by decide] at hs
  have HS := Lib.hid hs
  clear hs
  go_enter Try.func8, Try.ntmps8
  go_wp2_with fail
  refine HS.out.mono ?_
  rintro e w1 ⟨rfl, hB1⟩
  have hB : Below w.heap.size w w1 := below_call ((Below.refl _ _).alloc (Nat.le_refl _) _) hB1
  have hg := good_ok (some ⟨w1.heap.size, 0, none⟩) 4 4 [1, 2, 254, 253] (w1.alloc (.cells #[.int .i64 1, .int .i64 2, .int .i64 254, .int .i64 253] 3)) (rds_lit w1 [1, 2, 254, 253] _) (by decide) (by decide) (by decide)
  rw [show totalP [1, 2, 254, 253] = 65535 from by decide] at hg
  have HG := Lib.hid hg
  clear hg hB1
  go_wp2_with fail
  refine HG.out.mono ?_
  rintro e w2 ⟨rfl, hB2⟩
  replace hB := below_call (hB.alloc hB.size _) hB2
  clear hB2
  go_wp2
  go_ret
  exact ⟨rfl, hB⟩


/-! plain words -/
theorem norm_top {s : Int} (hs : 0 ≤ s) : norm (s + (65535 - norm s)) = 65535 := by
  unfold norm; by_cases h : s = 0
  · subst h; simp
  · rw [if_neg h]; split <;> omega
theorem norm_other {s d : Int} (h : norm s = 65535) (hd : d ≠ 0) (h1 : -65280 ≤ d) (h2 : d ≤ 65280) (hsd : 0 ≤ s + d) : norm (s + d) ≠ 65535 := by
  unfold norm at h ⊢
  split at h
  · omega
  · split
    · omega
    · omega
theorem good_all {xs : List Int} (hb : ∀ x ∈ xs, 0 ≤ x ∧ x ≤ 255) (he : xs.length % 2 = 0) :
    totalP (xs ++ [(65535 - totalP xs) / 256] ++ [(65535 - totalP xs) % 256]) = 65535 := by
  have hn := norm_le (wsum_nonneg hb)
  rw [← totalP_norm hb] at hn
  have hb' : ∀ x ∈ xs ++ [(65535 - totalP xs) / 256] ++ [(65535 - totalP xs) % 256], 0 ≤ x ∧ x ≤ 255 := by
    intro x hx
    simp only [List.append_assoc, List.mem_append, List.mem_singleton] at hx
    rcases hx with h | h | h
    · exact hb x h
    · omega
    · omega
  rw [totalP_norm hb', List.append_assoc, wsum_append he]
  have e : wsum ([(65535 - totalP xs) / 256] ++ [(65535 - totalP xs) % 256]) = 65535 - norm (wsum xs) := by
    rw [totalP_norm hb] at hn ⊢
    simp only [List.cons_append, List.nil_append, wsum]; omega
  rw [e, norm_top (wsum_nonneg hb)]
theorem set_bytes {xs : List Int} (hb : ∀ x ∈ xs, 0 ≤ x ∧ x ≤ 255) {i : Nat} {v : Int} (hv : 0 ≤ v ∧ v ≤ 255) : ∀ x ∈ xs.set i v, 0 ≤ x ∧ x ≤ 255 := by
  intro x hx
  rcases List.mem_or_eq_of_mem_set hx with h | rfl
  · exact hb x h
  · exact hv
theorem bad_set {xs : List Int} (hb : ∀ x ∈ xs, 0 ≤ x ∧ x ≤ 255) (h : totalP xs = 65535) {i : Nat} (hi : i < xs.length) {v : Int} (hv : 0 ≤ v ∧ v ≤ 255) (hne : xs[i] ≠ v) : totalP (xs.set i v) ≠ 65535 := by
  have hx := hb xs[i] (List.getElem_mem _)
  rw [totalP_norm (set_bytes hb hv), wsum_set _ _ _ hi]
  rw [totalP_norm hb] at h
  have h0 := wsum_nonneg (set_bytes hb hv (i := i))
  rw [wsum_set _ _ _ hi] at h0
  refine norm_other h ?_ ?_ ?_ h0 <;> split <;> omega

set_option maxHeartbeats 2000000 in
theorem onesGood_any (A : Option Addr) (n c : Nat) (xs : List Int) (at_ is : Int) (w : World) (hr : Rds w 1 A n (ic xs)) (hnc : n ≤ c) (hc : c ≤ maxLen) :
    Calls Try.prog 3 #[.slice A n c, .int .i64 at_, .int .i64 is] w fun e w' => e = .returned (.bool true) ∧ Below w.heap.size w w' := by
  have hB := Below.refl w.heap.size w
  obtain rfl : n = xs.length := hr.len_int
  have HN := Lib.hid (Nat.le_trans hnc hc)
  by_cases h : bytesE xs 600 = 0
  · have HE := Lib.hid h
    have hby := byte_range (bytes_of_ok h).1
    have hle := norm_le (wsum_nonneg hby)
    rw [← totalP_norm hby] at hle
    have hl := (bytes_of_ok h).2
    obtain ⟨N, HT⟩ : ∃ N, Hid (65535 - totalP xs = N) := ⟨_, Lib.hid rfl⟩
    have hN : 0 ≤ N ∧ N ≤ 65535 := by have := HT.out; omega
    have hin : inB N 0 65535 = true := inB_true.2 hN
    clear h hle
    by_cases hodd : xs.length % 2 = 1
    · have hodd' : ((xs.length : Nat) : Int) % 2 = 1 := by omega
      clear hby
      go_enter Try.func3, Try.ntmps3
      go_wp2_with (first | (go_at_call 8; refine (onesFact_any _).mono ?_; rintro e w1 ⟨rfl, hb⟩; replace hB := below_call hB hb; clear hb) | (go_at_call 9; refine (sum_ok _ _ _ _ _ (hr.below hB) hnc hc HE.out).mono ?_; rintro e w2 ⟨rfl, hb⟩; rw [HT.out]; replace hB := below_call hB hb; clear hb))
      go_ret
      exact ⟨rfl, hB⟩
    have hev : ((xs.length : Nat) : Int) % 2 = 0 := by omega
    by_cases hlong : 598 < xs.length
    · have hlong' : (598 : Int) < (xs.length : Int) := by omega
      clear hby
      go_enter Try.func3, Try.ntmps3
      go_wp2_with (first | (go_at_call 8; refine (onesFact_any _).mono ?_; rintro e w1 ⟨rfl, hb⟩; replace hB := below_call hB hb; clear hb) | (go_at_call 9; refine (sum_ok _ _ _ _ _ (hr.below hB) hnc hc HE.out).mono ?_; rintro e w2 ⟨rfl, hb⟩; rw [HT.out]; replace hB := below_call hB hb; clear hb))
      go_ret
      exact ⟨rfl, hB⟩
    have hlen : xs.length ≤ 598 := by omega
    have hlen' : (xs.length : Int) ≤ 598 := by omega
    have hq : IntKind.i64.wrap (N.tdiv 256) = N / 256 := IntWalk.i64_quo N 256 (by omega)
    have HG := Lib.hid (good_all hby (by omega))
    rw [HT.out] at HG
    have HB : Hid (∀ x ∈ xs ++ [N / 256] ++ [N % 256], 0 ≤ x ∧ x ≤ 255) := Lib.hid (by
      intro x hx
      simp only [List.append_assoc, List.mem_append, List.mem_singleton] at hx
      rcases hx with h | h | h
      · exact hby x h
      · omega
      · omega)
    obtain ⟨zs, hz⟩ : ∃ zs, xs ++ [N / 256] ++ [N % 256] = zs := ⟨_, rfl⟩
    have hzl : zs.length = xs.length + 2 := by rw [← hz]; simp
    have HZ := Lib.hid hz
    rw [hz] at HG HB
    have HE2 : Hid (bytesE zs 600 = 0) := Lib.hid (bytesE_ok HB.out (by omega))
    clear hby hz
    go_enter Try.func3, Try.ntmps3
    go_wp2_with (first | (go_at_call 8; refine (onesFact_any _).mono ?_; rintro e w1 ⟨rfl, hb⟩; replace hB := below_call hB hb; clear hb) | (go_at_call 9; refine (sum_ok _ _ _ _ _ (hr.below hB) hnc hc HE.out).mono ?_; rintro e w2 ⟨rfl, hb⟩; rw [HT.out]; replace hB := below_call hB hb; clear hb) | (go_at_call 10; refine (in_any _ _ _ _).mono ?_; rintro e w' ⟨rfl, rfl⟩))
    refine (behind_any _ _ _ _ _ _ (hr.below hB) (by omega)).mono ?_
    rintro e w3 ⟨A1, c1, rfl, ho1, _, _, hb⟩
    replace hB := below_call hB hb
    clear hb
    have hr1 := ho1.rds
    clear ho1
    have hl1 : (xs ++ [N / 256]).length ≤ 1000 := by simp; omega
    generalize (xs ++ [N / 256]).length = l1 at hr1 hl1 ⊢
    go_wp2_with fail
    refine (behind_any _ _ _ _ _ _ hr1 hl1).mono ?_
    rintro e w4 ⟨A2, c2, rfl, ho2, hd2, hd3, hb⟩
    replace hB := below_call hB hb
    rw [HZ.out] at ho2 hd2 ⊢
    have hr2 := ho2.rds
    clear hb ho2 hr1 hl1
    obtain ⟨m, hm⟩ : ∃ m, zs.length = m := ⟨_, rfl⟩
    rw [hm] at hr2 hd2 hzl ⊢
    have HM := Lib.hid hm
    have hm6 : m ≤ 600 := by omega
    clear hm hzl
    go_wp2_with fail
    refine (good_ok _ _ _ _ _ hr2 hd2 hd3 HE2.out).mono ?_
    rintro e w5 ⟨rfl, hb⟩
    rw [show (totalP zs == 65535) = true from by rw [HG.out]; rfl]
    replace hB := below_call hB hb
    replace hr2 := hr2.below hb
    clear hb
    have hwm : IntKind.i64.wrap ((m : Int) - 1) = (m : Int) - 1 := IntWalk.i64_in _ (by omega)
    rcases hi1 : inB at_ 0 ((m : Int) - 1) with _ | _
    · go_wp2_with (go_at_call 10; refine (in_any _ _ _ _).mono ?_; rintro e w' ⟨rfl, rfl⟩)
      go_ret
      exact ⟨rfl, hB⟩
    rcases hi2 : inB is 0 255 with _ | _
    · go_wp2_with (go_at_call 10; refine (in_any _ _ _ _).mono ?_; rintro e w' ⟨rfl, rfl⟩)
      go_ret
      exact ⟨rfl, hB⟩
    obtain ⟨hi3, hi4⟩ := inB_true.1 hi1
    obtain ⟨i, rfl⟩ : ∃ i : Nat, at_ = i := ⟨at_.toNat, by omega⟩
    have him : i < m := by omega
    obtain ⟨b, off, hk', rfl, hcell⟩ := hr2.int him
    by_cases he : zs[i] = is
    · go_wp2_with (go_at_call 10; refine (in_any _ _ _ _).mono ?_; rintro e w' ⟨rfl, rfl⟩)
      go_ret
      exact ⟨rfl, hB⟩
    · have HBad := Lib.hid (bad_set HB.out HG.out hk' (inB_true.1 hi2) he)
      have he2 : (zs[i] == is) = false := by simpa using he
      have HSB : Hid (bytesE (zs.set i is) 600 = 0) := Lib.hid (bytesE_ok (set_bytes HB.out (inB_true.1 hi2)) (by rw [List.length_set, HM.out]; omega))
      go_wp2_with (go_at_call 10; refine (in_any _ _ _ _).mono ?_; rintro e w' ⟨rfl, rfl⟩)
      refine (set_any _ _ _ _ _ _ _ hr2 (by omega) him).mono ?_
      rintro e w6 ⟨A3, c3, rfl, ho3, hd4, hd5, hb⟩
      replace hB := below_call hB hb
      have hr3 := ho3.rds
      clear hb ho3
      have hl3 : (zs.set i is).length ≤ 600 := by rw [List.length_set, HM.out]; omega
      generalize (zs.set i is).length = l3 at hr3 hd4 hl3 ⊢
      go_wp2_with fail
      refine (good_ok _ _ _ _ _ hr3 hd4 hd5 HSB.out).mono ?_
      rintro e w7 ⟨rfl, hb⟩
      rw [show (totalP (zs.set i is) == 65535) = false from by simpa using HBad.out]
      replace hB := below_call hB hb
      clear hb
      go_wp2
      go_ret
      exact ⟨rfl, hB⟩
  · have HE := Lib.hid h
    go_enter Try.func3, Try.ntmps3
    go_wp2_with (first | (go_at_call 8; refine (onesFact_any _).mono ?_; rintro e w1 ⟨rfl, hb⟩; replace hB := below_call hB hb; clear hb) | (go_at_call 9; refine (sum_err _ _ _ _ _ _ (hr.below hB) HN.out rfl HE.out).mono ?_; rintro e w' ⟨rfl, rfl⟩))
    go_ret
    exact ⟨rfl, hB⟩
end Go.Proofs.Ytalehbhimnhnjaa
