/- The walk of the law TopWire. -/
import Derived.Test.YtalehbhimnhnjaaDoorLineBackLaw
import Derived.Test.YtalehbhimnhnjaaDoorCobsRead
import Derived.Test.YtalehbhimnhnjaaDoorOnesCon
import Derived.Test.YtalehbhimnhnjaaDoorOnesPlain2
import Derived.Test.YtalehbhimnhnjaaDoorRefAll
import Derived.Test.YtalehbhimnhnjaaDoorLawHelp
namespace Go.Proofs.YtalehbhimnhnjaaDoor
open Go.RowKit

/-! ### plain lists -/
def halfL (w : List Int) : List Int := w.flatMap fun x => [x / 16, x % 16]
theorem halfL_len (w : List Int) : (halfL w).length = 2 * w.length := by
  induction w with
  | nil => rfl
  | cons x t ih => simp only [halfL, List.flatMap_cons, List.length_append, List.length_cons, List.length_nil] at ih ⊢; omega
theorem halfL_snoc (w : List Int) (k : Nat) (h : k < w.length) : halfL (w.take (k + 1)) = halfL (w.take k) ++ [w[k] / 16] ++ [w[k] % 16] := by
  unfold halfL; rw [List.take_succ_eq_append_getElem h, List.flatMap_append, List.flatMap_singleton]; simp
theorem halfL_mem {w : List Int} (h : ∀ x ∈ w, 0 ≤ x ∧ x ≤ 255) : ∀ x ∈ halfL w, 0 ≤ x ∧ x ≤ 15 := by
  intro x hx
  simp only [halfL, List.mem_flatMap] at hx
  obtain ⟨y, hy, hx⟩ := hx
  have := h y hy
  simp only [List.mem_cons, List.not_mem_nil, or_false] at hx
  omega
theorem halfL_at : ∀ (w : List Int) (k : Nat) (h : k < w.length), (halfL w)[2 * k]? = some (w[k] / 16) ∧ (halfL w)[2 * k + 1]? = some (w[k] % 16)
  | x :: t, 0, _ => by simp [halfL]
  | x :: t, k + 1, h => by
    have := halfL_at t k (by simpa using h)
    have e : halfL (x :: t) = x / 16 :: x % 16 :: halfL t := by simp [halfL]
    rw [e, show 2 * (k + 1) = 2 * k + 1 + 1 from by omega]
    simpa using this
theorem fiveE_ok {xs : List Int} (h : ∀ x ∈ xs, 0 ≤ x ∧ x ≤ 15) (hl : xs.length ≤ 40) : fiveE xs = 0 := by
  unfold fiveE
  rw [if_neg (by omega), if_pos]
  unfold allB
  rw [List.all_eq_true]
  exact fun x hx => inB_true.2 (h x hx)

theorem inTop_any (a b c : Int) (w : World) :
    Calls Tryd.prog 17 #[.int .i64 a, .int .i64 b, .int .i64 c] w fun e w' => e = .returned (.bool (inB a b c)) ∧ w = w' := by
  by_cases h : b ≤ a
  · by_cases h2 : a ≤ c
    all_goals
      go_enter Tryd.func17, Tryd.ntmps17
      go_wp2
      go_ret
      exact ⟨by simp [inB, h, h2], rfl⟩
  · go_enter Tryd.func17, Tryd.ntmps17
    go_wp2
    go_ret
    exact ⟨ret_eq (bool_eq (by rw [eq_comm, inB_false]; omega)), rfl⟩

set_option maxRecDepth 100000 in
set_option maxHeartbeats 2000000 in
theorem topWire_any (A : Option Addr) (n c : Nat) (xs : List Int) (w : World) (hr : Rds w 1 A n (ic xs)) (hnc : n ≤ c) (hc : c ≤ maxLen) (hl : CodesW w) :
    Calls Tryd.prog 6 #[.slice A n c] w fun e w' => e = .returned (.bool true) ∧ Below w.heap.size w w' := by
  obtain rfl : n = xs.length := hr.len_int
  have HN := Lib.hid (Nat.le_trans hnc hc)
  have HNC := Lib.hid hnc
  have HC := Lib.hid hc
  have hB0 : Below w.heap.size w (w.alloc (.cells #[.int .i64 15] 3)) := (Below.refl _ _).alloc (Nat.le_refl _) _
  have hs5 := five_ok (some ⟨w.heap.size, 0, none⟩) 1 1 [15] (w.alloc (.cells #[.int .i64 15] 3)) (hl.below hB0) (rds_lit w [15] _) (by decide) (by decide)
  rw [show fiveL [15] = [1, 1, 1, 0, 1] from by decide] at hs5
  have HS5 := Lib.hid hs5
  have hlm : xs.length ≤ 9223372036854775807 := by have := HN.out; unfold maxLen at this; omega
  clear hs5 hnc hc
  go_enter Tryd.func6, Tryd.ntmps6
  go_wp2_with fail
  (go_at_call 11; refine HS5.out.mono ?_; rintro e w1 ⟨A1, c1, rfl, ho1, hc1, hc2, hb1⟩; have hB1 := below_call hB0 hb1; clear hb1)
  have hr1 := ho1.rds
  have HI5 := Lib.hid (ints_any A1 (some ⟨w1.heap.size, 0, none⟩) 5 c1 5 5 [1, 1, 1, 0, 1] [1, 1, 1, 0, 1] (w1.alloc (.cells #[.int .i64 1, .int .i64 1, .int .i64 1, .int .i64 0, .int .i64 1] 3)) (hr1.alloc _) (rds_lit w1 [1, 1, 1, 0, 1] _) (by decide) (by decide))
  clear ho1 hr1
  go_wp2_with fail
  refine HI5.out.mono ?_
  rintro e w2 ⟨rfl, q, rfl⟩
  have hB := below_drewN (hB1.alloc hB1.size (.cells #[.int .i64 1, .int .i64 1, .int .i64 1, .int .i64 0, .int .i64 1] 3)) q
  generalize (w1.alloc (.cells #[.int .i64 1, .int .i64 1, .int .i64 1, .int .i64 0, .int .i64 1] 3)).drewN q = w2 at *
  clear hB0 hB1 hc1 hc2
  by_cases h : bytesE xs 600 = 0
  · have HE := Lib.hid h
    have hby := byte_range (bytes_of_ok h).1
    have hle := norm_le (wsum_nonneg hby)
    rw [← totalP_norm hby] at hle
    have HBY := Lib.hid hby
    obtain ⟨N, HT⟩ : ∃ N, Hid (65535 - totalP xs = N) := ⟨_, Lib.hid rfl⟩
    have hN : 0 ≤ N ∧ N ≤ 65535 := by have := HT.out; omega
    obtain ⟨hN0, hN1⟩ := hN
    have HI := Lib.hid (show inB N 0 65535 = true from inB_true.2 ⟨hN0, hN1⟩)
    clear h hle hby
    by_cases h16 : 16 < xs.length
    · go_wp2_with (first | (go_at_call 16; refine (sum_ok _ _ _ _ _ (hr.below hB) HNC.out HC.out HE.out).mono ?_; rintro e w3 ⟨rfl, hb⟩; rw [HT.out]; replace hB := below_call hB hb; clear hb) | (go_at_call 17; refine (inTop_any _ _ _ _).mono ?_; rintro e w' ⟨rfl, rfl⟩; rw [HI.out]))
      go_ret
      exact ⟨rfl, hB⟩
    have h16' : xs.length ≤ 16 := by omega
    clear h16
    by_cases hodd : xs.length % 2 = 1
    · have ho : ((xs.length : Int) % 2 == 1) = true := by rw [beq_iff_eq]; omega
      clear hodd
      go_wp2_with (first | (go_at_call 16; refine (sum_ok _ _ _ _ _ (hr.below hB) HNC.out HC.out HE.out).mono ?_; rintro e w3 ⟨rfl, hb⟩; rw [HT.out]; replace hB := below_call hB hb; clear hb) | (go_at_call 17; refine (inTop_any _ _ _ _).mono ?_; rintro e w' ⟨rfl, rfl⟩; rw [HI.out]))
      go_ret
      exact ⟨rfl, hB⟩
    have ho : ((xs.length : Int) % 2 == 1) = false := by rw [beq_eq_false_iff_ne]; omega
    have HG := Lib.hid (good_all HBY.out (by omega))
    rw [HT.out] at HG
    clear hodd
    have hd0 : 0 ≤ N / 256 := by omega
    have hd1 : N / 256 ≤ 255 := by omega
    have hd2 : 0 ≤ N % 256 := by omega
    have hd3 : N % 256 ≤ 255 := by omega
    go_wp2_with (first | (go_at_call 16; refine (sum_ok _ _ _ _ _ (hr.below hB) HNC.out HC.out HE.out).mono ?_; rintro e w3 ⟨rfl, hb⟩; rw [HT.out]; replace hB := below_call hB hb; clear hb) | (go_at_call 17; refine (inTop_any _ _ _ _).mono ?_; rintro e w' ⟨rfl, rfl⟩; rw [HI.out]))
    refine (behind_any _ _ _ _ _ _ (hr.below hB) (by omega)).mono ?_
    rintro e w4 ⟨A2, c2, rfl, ho2, hc1, hc2, hb⟩
    replace hB := below_call hB hb
    clear hb
    have hr2 := ho2.rds
    clear ho2
    have hl2 : (xs ++ [N / 256]).length ≤ 17 := by simp; omega
    generalize hg : xs ++ [N / 256] = y1 at *
    have HY1 := Lib.hid hg
    have hl3 : y1.length ≤ 1000 := by omega
    clear hg
    go_wp2_with fail
    (with_reducible refine (behind_any _ _ _ _ _ _ hr2 hl3).mono ?_)
    rintro e w5 ⟨A3, c3, rfl, ho3, hc3, hc4, hb⟩
    replace hB := below_call hB hb
    clear hb hr2
    have hr3 := ho3.rds
    clear ho3
    have HG2 : Hid (totalP (xs ++ [N / 256] ++ [N % 256]) = 65535) := Lib.hid (by rw [HY1.out]; exact HG.out)
    clear HG
    rw [← HY1.out] at *
    have HAB : Hid (∀ x ∈ xs ++ [N / 256] ++ [N % 256], 0 ≤ x ∧ x ≤ 255) := Lib.hid (by
      intro x hx
      simp only [List.append_assoc, List.mem_append, List.mem_singleton] at hx
      rcases hx with h | h | h
      · exact HBY.out x h
      · omega
      · omega)
    have HAL : Hid ((xs ++ [N / 256] ++ [N % 256]).length ≤ 18) := Lib.hid (by simp; omega)
    clear hd0 hd1 hd2 hd3 hl2 HY1
    generalize xs ++ [N / 256] ++ [N % 256] = al at *
    have HEA := Lib.hid (bytesE_ok (m := 600) HAB.out (by have := HAL.out; omega))
    have HALN : Hid (al.length ≤ maxLen) := Lib.hid (by have := HAL.out; unfold maxLen; omega)
    obtain ⟨hq1, hq2, hq3, hq4⟩ := cobs_all al.length al (Nat.le_refl _) HAB.out
    have HQ1 := Lib.hid hq1
    have HQ2 := Lib.hid hq2
    have hwl : (cobsL al).length ≤ 19 := by have := HAL.out; omega
    have hwl0 : 0 < (cobsL al).length := by omega
    clear hq1 hq2 hq3 hq4
    go_wp2_with fail
    (with_reducible refine (write_ok _ _ _ _ _ hr3 HALN.out hc3 HEA.out).mono ?_)
    rintro e w6 ⟨A4, c4, rfl, ho4, hc5, hc6, hb⟩
    replace hB := below_call hB hb
    replace hr3 := hr3.below hb
    clear hb
    have hr4 := ho4.rds
    clear ho4
    generalize cobsL al = ws at *
    have HWL : Hid (ws.length ≤ maxLen) := Lib.hid (by unfold maxLen; omega)
    have HWA : Hid (allB ws 1 255 = true) := Lib.hid (by unfold allB; rw [List.all_eq_true]; exact fun x hx => inB_true.2 (HQ2.out x hx))
    have HW0 : Hid (∀ x ∈ ws, 0 ≤ x ∧ x ≤ 255) := Lib.hid (fun x hx => by have := HQ2.out x hx; omega)
    have HR := Lib.hid (Own.nil_ w6 w6.heap.size)
    have HB6 := Lib.hid (Below.refl w6.heap.size w6)
    have HBO := Lib.hid hB
    clear hB
    go_wp2_with (go_at_call 20; refine (refAll_any _ _ _ _ _ _ _ hr4 HWL.out).mono ?_; rintro e w' ⟨rfl, rfl⟩; rw [HWA.out])
    go_loopw [9, 10] (fun v i wr => ∃ (k : Nat) (A5 : Option Addr) (c5 : Nat), k ≤ ws.length ∧ i = .int .i64 k ∧ v = .slice A5 (2 * k) c5 ∧ Own wr w6.heap.size (.slice A5 (2 * k) c5) (halfL (ws.take k)) ∧ 2 * k ≤ c5 ∧ c5 ≤ maxLen ∧ Below w6.heap.size w6 wr) (fun _ i _ => ws.length - (intOf i).toNat)
    case atStart => exact ⟨0, none, 0, Nat.zero_le _, rfl, rfl, HR.out, by omega, by unfold maxLen; omega, HB6.out⟩
    case round =>
      obtain ⟨k, A5, c5, hk, rfl, rfl, hown, hc7, hc8, hB⟩ := hrel
      have hkl : (ws.take k).length = k := by rw [List.length_take]; omega
      have HKL : Hid ((halfL (ws.take k)).length = 2 * k) := Lib.hid (by rw [halfL_len, hkl])
      clear hkl
      by_cases hlt : k < ws.length
      · obtain ⟨b, off, _, rfl, hcx0⟩ := hr4.int hlt
        have HCX := Lib.hid hcx0
        have hcx := (hB.cell (p := ⟨b, off + k, none⟩) (cell_lt hcx0)).trans hcx0
        have HQ := Lib.hid (halfL_snoc ws k hlt)
        obtain ⟨hx0, hx1⟩ := HW0.out _ (List.getElem_mem hlt)
        generalize ws[k] = x at *
        generalize halfL (ws.take k) = h0 at *
        clear hcx0
        go_wp2_with (first
          | (at_builtin; refine wp_append_int wr rfl (.tmp 90) _ rfl w6 w6.heap.size (.slice A5 (2 * k) c5) h0 rfl hown (x / 16) rfl (by rw [HKL.out]; omega) hB.size hB ?_; intro A6 c6 w7 ho6 hc9 hc10 hB7 _ _; have hcx' := (hB7.cell (p := ⟨b, off + k, none⟩) (cell_lt HCX.out)).trans HCX.out)
          | (at_builtin; refine wp_append_int w7 rfl (.tmp 98) _ rfl w6 w6.heap.size (.slice A6 (h0.length + 1) c6) (h0 ++ [x / 16]) rfl ho6 (x % 16) rfl (by simp; have := HKL.out; omega) hB7.size hB7 ?_; intro A7 c7 w8 ho7 hc11 hc12 hB8 _ _))
        go_roundw
        case rel => exact ⟨k + 1, A7, c7, by omega, by go_num, slice_eq (by have := HKL.out; first | omega | (simp; omega)), by rw [HQ.out]; (have := HKL.out; rwa [show (h0 ++ [x / 16]).length + 1 = 2 * (k + 1) from by simp; omega] at ho7), by have := HKL.out; simp at hc11; omega, hc12, hB8⟩
        case measure => simp [intOf]; omega
      · obtain rfl : k = ws.length := by omega
        rw [List.take_length] at hown HKL
        have hrh := hown.rds
        rw [HKL.out] at hrh
        replace hr4 := hr4.below hB
        replace hr3 := hr3.below hB
        replace hB := below_call HBO.out hB
        clear hown
        have HHB := Lib.hid (halfL_mem HW0.out)
        have hhl : 2 * ws.length ≤ 40 := by omega
        generalize hH : halfL ws = H at *
        have HHe := Lib.hid hH
        have HE5 := Lib.hid (fiveE_ok HHB.out (by rw [HKL.out]; exact hhl))
        obtain ⟨h4a, h4b⟩ := four_five HHB.out
        have HF4 := Lib.hid h4a
        have HF5 := Lib.hid h4b
        have HFB := Lib.hid (fiveL_bits H)
        have HFM := Lib.hid (show (fiveL H).length = 10 * ws.length by rw [fiveL_len, HKL.out]; omega)
        have H2N : Hid (2 * ws.length ≤ maxLen) := Lib.hid (by unfold maxLen; omega)
        clear h4a h4b hH
        go_wp2_with fail
        (with_reducible refine (five_ok _ _ _ _ _ (hl.below hB) hrh H2N.out HE5.out).mono ?_)
        rintro e wa ⟨Aa, ca, rfl, hoa, hca, hca2, hb⟩
        replace hB := below_call hB hb
        replace hr3 := hr3.below hb
        replace hr4 := hr4.below hb
        clear hb hrh
        have hra := hoa.rds
        clear hoa
        have hF2 : (fiveL H).length ≤ 200 := by have := HFM.out; omega
        have HEF := Lib.hid (bitsE_ok HFB.out hF2)
        have HF5m : Hid ((fiveL H).length % 5 = 0) := Lib.hid (by have := HFM.out; omega)
        have HFL : Hid ((fiveL H).length ≤ maxLen) := Lib.hid (by unfold maxLen; omega)
        have HTL := Lib.hid (turn_all (fiveL H)).1
        have HTB := Lib.hid (turn_all (fiveL H)).2.1
        have HBK := Lib.hid (show backL (turnL (fiveL H)) = fiveL H from by unfold backL; rw [turn_back _ HFB.out])
        clear HFB HFM
        generalize fiveL H = F at *
        have HET := Lib.hid (bitsE_ok HTB.out (by rw [HTL.out]; exact hF2))
        obtain ⟨L, hLe⟩ : ∃ L, F.length = L := ⟨_, rfl⟩
        have HLE := Lib.hid hLe
        rw [hLe] at HF5m HFL HTL hF2 hra hca ⊢
        clear hLe HTB
        go_wp2_with fail
        (with_reducible refine (turns_ok _ _ _ _ _ hra HFL.out HEF.out).mono ?_)
        rintro e wb ⟨Ab, cb, rfl, hob, hcb, hcb2, hb⟩
        replace hB := below_call hB hb
        replace hr3 := hr3.below hb
        replace hr4 := hr4.below hb
        clear hb hra
        have hrb := hob.rds
        clear hob
        rw [HTL.out] at hrb hcb ⊢
        generalize turnL F = T at *
        go_wp2_with fail
        (with_reducible refine (bitsGo_ok _ _ _ _ _ hrb HFL.out HET.out).mono ?_)
        rintro e wd ⟨Ad, cd, rfl, hod, hcd, hcd2, hb⟩
        replace hB := below_call hB hb
        replace hr3 := hr3.below hb
        replace hr4 := hr4.below hb
        clear hb hrb
        have hrd := hod.rds
        clear hod
        rw [HBK.out, HLE.out] at hrd hcd ⊢
        go_wp2_with fail
        (with_reducible refine (four_ok _ _ _ _ _ (hl.below hB) hrd hcd hcd2 HEF.out HF5m.out H HF4.out HF5.out).mono ?_)
        rintro e we ⟨Ae, ce, rfl, hoe, hce, hce2, hb⟩
        replace hB := below_call hB hb
        replace hr3 := hr3.below hb
        replace hr4 := hr4.below hb
        clear hb hrd
        have hre := hoe.rds
        clear hoe
        rw [HKL.out] at hre hce ⊢
        clear HF4 HF5 HEF HET HBK HTL HLE HF5m HFL hca hca2 hcb hcb2 hcd hcd2 hF2 hr4
        have HR2 := Lib.hid (Own.nil_ we we.heap.size)
        have HB2 := Lib.hid (Below.refl we.heap.size we)
        have HBO2 := Lib.hid hB
        have hne : (2 * (ws.length : Int) != 2 * (ws.length : Int)) = false := by rw [bne_eq_false_iff_eq]
        clear hB
        go_wp2_with fail
        obtain ⟨wo, rfl⟩ : ∃ wo : World, wo = wr := ⟨_, rfl⟩
        go_loopw [19, 20] (fun v i wr => ∃ (j : Nat) (iv : Int) (A8 : Option Addr) (c8 : Nat), j ≤ ws.length ∧ i = .int .i64 iv ∧ iv = 2 * (j : Int) ∧ v = .slice A8 j c8 ∧ Own wr we.heap.size (.slice A8 j c8) (ws.take j) ∧ j ≤ c8 ∧ c8 ≤ maxLen ∧ Below we.heap.size we wr) (fun _ i _ => 2 * ws.length - (intOf i).toNat)
        case atStart => exact ⟨0, 0, none, 0, Nat.zero_le _, rfl, rfl, rfl, HR2.out, by omega, by unfold maxLen; omega, HB2.out⟩
        case round =>
          obtain ⟨j, iv, A8, c8, hj, rfl, hiv, rfl, hown, hc9, hc10, hB⟩ := hrel
          by_cases hlt : j < ws.length
          · obtain ⟨i, rfl⟩ : ∃ i : Nat, iv = i := ⟨iv.toNat, by omega⟩
            have hi2 : i = 2 * j := by omega
            obtain ⟨g1, g2⟩ := halfL_at ws j hlt
            rw [HHe.out, ← hi2] at g1 g2
            have hi3 : i < 2 * ws.length := by omega
            have hi4 : i + 1 < 2 * ws.length := by omega
            have hHl := HKL.out
            obtain ⟨b, off, hk1, rfl, hcx⟩ := hre.int hi3
            obtain ⟨b', off', hk2, hA, hcy⟩ := hre.int hi4
            obtain ⟨rfl, rfl⟩ : b = b' ∧ off = off' := by simpa using hA
            rw [List.getElem?_eq_getElem hk1] at g1
            rw [List.getElem?_eq_getElem hk2] at g2
            rw [Option.some.inj g1] at hcx
            rw [Option.some.inj g2] at hcy
            have hcx' := (hB.cell (p := ⟨b, off + i, none⟩) (cell_lt hcx)).trans hcx
            have hcy' := (hB.cell (p := ⟨b, off + (i + 1), none⟩) (cell_lt hcy)).trans hcy
            obtain ⟨hx0, hx1⟩ := HW0.out _ (List.getElem_mem hlt)
            have HQ : Hid (ws.take (j + 1) = ws.take j ++ [ws[j]]) := Lib.hid (List.take_succ_eq_append_getElem hlt)
            have HTK : Hid ((ws.take j).length = j) := Lib.hid (by rw [List.length_take]; omega)
            have hw1 : IntKind.i64.wrap (16 * (ws[j] / 16)) = 16 * (ws[j] / 16) := IntWalk.i64_in _ (by omega)
            have hw2 : IntKind.i64.wrap (16 * (ws[j] / 16) + ws[j] % 16) = 16 * (ws[j] / 16) + ws[j] % 16 := IntWalk.i64_in _ (by omega)
            have hw3 : IntKind.i64.wrap ((i : Int) + 1) = ((i : Int) + 1) := IntWalk.i64_in _ (by omega)
            have hw4 : (0 : Int) ≤ (i : Int) + 1 := by omega
            have hw5 : (i : Int) + 1 < 2 * (ws.length : Int) := by omega
            have hw6 : ((i : Int) + 1).toNat = i + 1 := by omega
            have hw7 : (i : Int) < 2 * (ws.length : Int) := by omega
            have HIV := Lib.hid hi2
            have HX : Hid (16 * (ws[j] / 16) + ws[j] % 16 = ws[j]) := Lib.hid (by omega)
            generalize ws[j] = x at *
            generalize ws.take j = t0 at *
            clear hiv hi2 hcx hcy g1 g2 hk1 hk2 hA hHl
            go_wp2_with fail
            go_region_law ((refine step_append_ints _ rfl (.tmp 158) (.tmp 170) rfl we we.heap.size (.slice A8 j c8) t0 rfl (own_below hown (((Below.refl _ _).alloc (Nat.le_refl _) _).drew)) (some ⟨wr.heap.size, 0, none⟩) 1 1 [16 * (x / 16) + x % 16] rfl (Rds.drew (rds_one wr _ _)) (by have := HTK.out; simp; omega) (by have := hB.size; simp; omega) ((hB.alloc hB.size _).drew) ?_; intro A9 c9 w9 ho9 hc11 hc12 hB9 _ _))
            all_goals
             clear hw1 hw2 hw3 hw4 hw5 hw6
             go_wp2
             go_roundw
             case rel => exact ⟨j + 1, _, A9, c9, by omega, rfl, by have := HIV.out; omega, slice_eq (by rw [HTK.out]), by rw [HQ.out, ← HX.out]; (have := HTK.out; rwa [this] at ho9), by have := HTK.out; omega, hc12, hB9⟩
             case measure => have := HIV.out; simp [intOf]; omega
          · obtain rfl : j = ws.length := by omega
            obtain rfl : iv = 2 * (ws.length : Int) := hiv
            rw [List.take_length] at hown
            have hrg := hown.rds
            replace hr3 := hr3.below hB
            have hB := below_call HBO2.out hB
            have HRD : Hid (readR ws = (0, al)) := Lib.hid (by
              unfold readR
              rw [if_neg (by rw [bytesE_ok HW0.out (by omega)]; simp), if_neg (by rintro rfl; simp at hwl0), HQ1.out]
              show (if 600 < al.length then ((4 : Int), ([] : List Int)) else (0, al)) = (0, al)
              rw [if_neg (by have := HAL.out; omega)])
            clear hown
            go_wp2_with fail
            (with_reducible refine (read_any _ _ _ _ _ hrg HWL.out hc9).mono ?_)
            rintro e wf ⟨hrd1, _⟩
            obtain ⟨Af, cf, rfl, hof, hcf, hcf2, hb⟩ := hrd1 _ HRD.out
            replace hB := below_call hB hb
            replace hr3 := hr3.below hb
            clear hb hrg hrd1
            have hrf := hof.rds
            clear hof
            go_wp2_with fail
            (with_reducible refine (ints_any _ _ _ _ _ _ al al _ hrf hr3 HALN.out HALN.out).mono ?_)
            rintro e wg ⟨rfl, q9, rfl⟩
            replace hB := below_drewN hB q9
            replace hrf := hrf.drewN q9
            generalize wf.drewN q9 = wg at *
            go_wp2_with fail
            (with_reducible refine (good_ok _ _ _ _ _ hrf hcf hcf2 HEA.out).mono ?_)
            rintro e wh ⟨rfl, hb⟩
            rw [HG2.out]
            replace hB := below_call hB hb
            clear hb hrf hr3
            go_wp2
            go_ret
            exact ⟨rfl, hB⟩
  · have HE := Lib.hid h
    clear h
    go_wp2_with (go_at_call 16; refine (sum_err _ _ _ _ _ _ (hr.below hB) HN.out rfl HE.out).mono ?_; rintro e w' ⟨rfl, rfl⟩)
    go_ret
    exact ⟨rfl, hB⟩
end Go.Proofs.YtalehbhimnhnjaaDoor
