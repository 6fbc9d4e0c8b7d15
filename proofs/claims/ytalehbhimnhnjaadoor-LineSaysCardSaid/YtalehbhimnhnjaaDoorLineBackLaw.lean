/- The walk of the law LineBack; Four's errors; what Four reads of what Five wrote. -/
import Derived.Test.YtalehbhimnhnjaaDoorFour
import Derived.Test.YtalehbhimnhnjaaDoorLineLaws
namespace Go.Proofs.YtalehbhimnhnjaaDoor
open Go.RowKit

theorem four_err1 (A : Option Addr) (n c : Nat) (xs : List Int) (k : Int) (w : World) (hr : Rds w 1 A n (ic xs)) (hn : n ≤ maxLen) (h : bitsE xs = k) (hk : k ≠ 0) :
    Calls Tryd.prog 15 #[.slice A n c] w fun e w' => e = .returned (.tuple #[.slice none 0 0, .iface 47 (.int .i64 k)]) ∧ Below w.heap.size w w' := by
  have HN := Lib.hid hn
  have HE := Lib.hid h
  have HK := Lib.hid hk
  have hB := ((Below.refl w.heap.size w).alloc (Nat.le_refl _) (.cells #[.slice none 0 0] 22)).alloc (by simp) (.cells #[.nilIface] 25)
  have HR := Lib.hid (hr.below hB)
  clear hn h hk
  go_enter Tryd.func15, Tryd.ntmps15
  go_wp2_with (go_at_call 35; refine (check_err _ _ _ _ _ _ HR.out HN.out HE.out HK.out).mono ?_; rintro e w' ⟨rfl, rfl⟩)
  refine bodyPost_ret (v := .tuple #[.slice none 0 0, .iface 47 (.int .i64 k)]) (by simp [results, Tryd.f15, go_sem]) rfl ⟨rfl, ((Below.refl w.heap.size w).alloc (Nat.le_refl _) _).alloc (by simp) _⟩
theorem four_err3 (A : Option Addr) (n c : Nat) (xs : List Int) (w : World) (hr : Rds w 1 A n (ic xs)) (hn : n ≤ maxLen) (h : bitsE xs = 0) (h5 : ((n : Int) % 5 != 0) = true) :
    Calls Tryd.prog 15 #[.slice A n c] w fun e w' => e = .returned (.tuple #[.slice none 0 0, .iface 47 (.int .i64 3)]) ∧ Below w.heap.size w w' := by
  have HN := Lib.hid hn
  have HE := Lib.hid h
  have hB := ((Below.refl w.heap.size w).alloc (Nat.le_refl _) (.cells #[.slice none 0 0] 22)).alloc (by simp) (.cells #[.nilIface] 25)
  have HR := Lib.hid (hr.below hB)
  clear hn h
  go_enter Tryd.func15, Tryd.ntmps15
  go_wp2_with (go_at_call 35; refine (check_ok _ _ _ _ _ HR.out HN.out HE.out).mono ?_; rintro e w' ⟨rfl, rfl⟩)
  refine bodyPost_ret (v := .tuple #[.slice none 0 0, .iface 47 (.int .i64 3)]) (by simp [results, Tryd.f15, go_sem]) rfl ⟨rfl, ((Below.refl w.heap.size w).alloc (Nat.le_refl _) _).alloc (by simp) _⟩

/-! ### What is read of what was written -/
theorem dec_code : ∀ m : Nat, m < 16 → idxI (num5 (five (m : Int))) codesL = (m : Int) := by decide +kernel
theorem fiveL_drop : ∀ (xs : List Int) (k : Nat) (h : k < xs.length), ((fiveL xs).drop (k * 5)).take 5 = five xs[k]
  | x :: t, 0, _ => by
    rw [Nat.zero_mul, List.drop_zero]
    have e : fiveL (x :: t) = five x ++ fiveL t := by simp [fiveL]
    rw [e]
    exact List.take_left' rfl
  | x :: t, k + 1, h => by
    have e : fiveL (x :: t) = five x ++ fiveL t := by simp [fiveL]
    have := fiveL_drop t k (by simpa using h)
    rw [e, show (k + 1) * 5 = (five x).length + k * 5 from by simp [five]; omega, List.drop_append, List.drop_eq_nil_of_le (by omega)]
    simpa using this
theorem chunks_fiveL (xs : List Int) : chunks 5 (fiveL xs).length = xs.length := by rw [fiveL_len]; unfold chunks; omega
theorem dec_five {xs : List Int} (hx : ∀ x ∈ xs, 0 ≤ x ∧ x ≤ 15) (k : Nat) (h : k < xs.length) : decI (fiveL xs) k = xs[k] := by
  unfold decI
  rw [fiveL_drop xs k h]
  obtain ⟨h0, h1⟩ := hx _ (List.getElem_mem h)
  generalize xs[k] = x at *
  obtain ⟨m, rfl⟩ := Int.eq_ofNat_of_zero_le h0
  exact dec_code m (by omega)
theorem four_five {xs : List Int} (hx : ∀ x ∈ xs, 0 ≤ x ∧ x ≤ 15) : fourL (fiveL xs) (chunks 5 (fiveL xs).length) = xs ∧ fourOk (fiveL xs) (chunks 5 (fiveL xs).length) := by
  rw [chunks_fiveL]
  constructor
  · refine List.ext_getElem (by rw [fourL_len]) fun k h1 h2 => ?_
    simp only [fourL, List.getElem_map, List.getElem_range]
    exact dec_five hx k h2
  · intro k hk
    rw [dec_five hx k hk]
    exact (hx _ (List.getElem_mem hk)).1

theorem four_ok (A : Option Addr) (n c : Nat) (xs : List Int) (w : World) (hcw : CodesW w) (hr : Rds w 1 A n (ic xs)) (hn : n ≤ c) (hc : c ≤ maxLen) (h : bitsE xs = 0) (h5 : n % 5 = 0) (l : List Int) (hl : fourL xs (chunks 5 xs.length) = l) (hok : fourOk xs (chunks 5 xs.length)) :
    Calls Tryd.prog 15 #[.slice A n c] w (RetOwn w l .nilIface) := by
  refine (four_any A n c xs w hcw hr hn hc h h5).mono ?_
  rintro e w' (⟨_, h2⟩ | ⟨h1, _⟩)
  · rwa [hl] at h2
  · exact absurd hok h1

set_option maxHeartbeats 4000000 in
theorem lineBack_any (A : Option Addr) (n c : Nat) (xs : List Int) (B : Option Addr) (m d : Nat) (ys : List Int) (w : World) (hr : Rds w 1 A n (ic xs)) (hn : n ≤ maxLen) (hs : Rds w 1 B m (ic ys)) (hm : m ≤ maxLen) (hl : CodesW w) :
    Calls Tryd.prog 5 #[.slice A n c, .slice B m d] w fun e w' => e = .returned (.bool true) ∧ Below w.heap.size w w' := by
  have hB := Below.refl w.heap.size w
  have HN := Lib.hid hn
  have HM := Lib.hid hm
  have HXL := Lib.hid hr.len_int
  have HYL0 := Lib.hid hs.len_int
  clear hn hm
  by_cases h : fiveE xs = 0
  · obtain ⟨hb, hlen, _⟩ := five_of_ok h
    have HE := Lib.hid h
    obtain ⟨h4a, h4b⟩ := four_five hb
    have HF4 := Lib.hid h4a
    have HF5 := Lib.hid h4b
    have HFB := Lib.hid (fiveL_bits xs)
    have HFM := Lib.hid (fiveL_len xs)
    clear h hb h4a h4b
    go_enter Tryd.func5, Tryd.ntmps5
    go_wp2_with fail
    (go_at_call 10; refine (lineFact_any _ (hl.below hB)).mono ?_; rintro e w1 ⟨rfl, hb⟩; replace hB := below_call hB hb; clear hb)
    go_wp2_with fail
    refine (five_ok _ _ _ _ _ (hl.below hB) (hr.below hB) HN.out HE.out).mono ?_
    rintro e w2 ⟨A1, c1, rfl, ho1, hc1, hc2, hb⟩
    replace hB := below_call hB hb
    clear hb
    have hr1 := ho1.rds
    clear ho1
    have hF2 : (fiveL xs).length ≤ 200 := by have := HFM.out; omega
    have HEF := Lib.hid (bitsE_ok HFB.out hF2)
    have HF5m : Hid ((fiveL xs).length % 5 = 0) := Lib.hid (by have := HFM.out; omega)
    have HFL : Hid ((fiveL xs).length ≤ maxLen) := Lib.hid (by unfold maxLen; omega)
    have HTL := Lib.hid (turn_all (fiveL xs)).1
    have HTB := Lib.hid (turn_all (fiveL xs)).2.1
    have HBK := Lib.hid (show backL (turnL (fiveL xs)) = fiveL xs from by unfold backL; rw [turn_back _ HFB.out])
    clear HFB HFM
    generalize fiveL xs = F at *
    have HET := Lib.hid (bitsE_ok HTB.out (by rw [HTL.out]; exact hF2))
    obtain ⟨L, hLe⟩ : ∃ L, F.length = L := ⟨_, rfl⟩
    have HLE := Lib.hid hLe
    rw [hLe] at HF5m HFL HTL hF2 hr1 hc1 ⊢
    clear hLe HTB
    go_wp2_with fail
    refine (turns_ok _ _ _ _ _ hr1 HFL.out HEF.out).mono ?_
    rintro e w3 ⟨A2, c2, rfl, ho2, hc3, hc4, hb⟩
    replace hB := below_call hB hb
    replace hr1 := hr1.below hb
    clear hb
    have hr2 := ho2.rds
    clear ho2
    rw [HTL.out] at hr2 hc3 ⊢
    generalize turnL F = T at *
    go_wp2_with fail
    refine (bitsGo_ok _ _ _ _ _ hr2 HFL.out HET.out).mono ?_
    rintro e w4 ⟨A3, c3, rfl, ho3, hc5, hc6, hb⟩
    replace hB := below_call hB hb
    replace hr1 := hr1.below hb
    clear hb hr2
    have hr3 := ho3.rds
    clear ho3
    rw [HBK.out, HLE.out] at hr3 hc5 ⊢
    go_wp2_with fail
    refine (four_ok _ _ _ _ _ (hl.below hB) hr3 hc5 hc6 HEF.out HF5m.out xs HF4.out HF5.out).mono ?_
    rintro e w5 ⟨A4, c4, rfl, ho4, hc7, hc8, hb⟩
    replace hB := below_call hB hb
    replace hr1 := hr1.below hb
    replace hr3 := hr3.below hb
    clear hb
    have hr4 := ho4.rds
    clear ho4
    have HNx : Hid (xs.length ≤ maxLen) := Lib.hid (by unfold maxLen; omega)
    go_wp2_with fail
    refine (ints_any _ _ _ _ _ _ F F _ hr3 hr1 HFL.out HFL.out).mono ?_
    rintro e w6 ⟨rfl, q6, rfl⟩
    replace hB := below_drewN hB q6
    have hr5 := hr4.drewN q6
    have hrx := hr.below hB
    generalize w5.drewN q6 = w6 at *
    go_wp2_with fail
    refine (ints_any _ _ _ _ _ _ xs xs _ hr5 hrx HNx.out HN.out).mono ?_
    rintro e w7 ⟨rfl, q7, rfl⟩
    replace hB := below_drewN hB q7
    generalize w6.drewN q7 = w7 at *
    clear hr1 hr3 hr4 hr5 hrx HF4 HF5 HEF HET HBK
    (by_cases h2 : bitsE ys = 0; (focus (obtain ⟨hb2, hl2⟩ := bits_of_ok h2; have HE2 := Lib.hid h2; have HT2 := Lib.hid (turn_all ys); have HBK := Lib.hid (show backL (turnL ys) = ys from by unfold backL; rw [turn_back ys hb2]); have HET := Lib.hid (bitsE_ok (turn_all ys).2.1 (by rw [(turn_all ys).1]; exact hl2)); have HYL := Lib.hid (show ys.length ≤ maxLen from by unfold maxLen; omega); clear h2 hb2; go_wp2_with fail; refine (turns_ok _ _ _ _ _ (hs.below hB) HM.out HE2.out).mono ?_; rintro e wt ⟨At, ct, rfl, hot, hct, hct2, hb⟩; replace hB := below_call hB hb; clear hb; have hrt := hot.rds; have HTL := Lib.hid HT2.out.1; clear hot; rw [HTL.out] at hrt hct ⊢; generalize turnL ys = tys at *; go_wp2_with fail; refine (bitsGo_ok _ _ _ _ _ hrt HYL.out HET.out).mono ?_; rintro e wb ⟨Ab, cb, rfl, hob, hcb, hcb2, hb⟩; replace hB := below_call hB hb; clear hb; have hrb := hob.rds; clear hob; rw [HBK.out] at hrb hcb ⊢; have hsb := hs.below hB; go_wp2_with fail; refine (ints_any _ _ _ _ _ _ ys ys _ hrb hsb HYL.out HM.out).mono ?_; rintro e w9 ⟨rfl, q9, rfl⟩; have hB9 := below_drewN hB q9; go_wp2; go_ret; exact ⟨rfl, hB9⟩)); (focus (have HE2 := Lib.hid h2; clear h2; go_wp2_with (go_at_call 14; refine (turns_err _ _ _ _ _ _ (hs.below hB) HM.out rfl HE2.out).mono ?_; rintro e w' ⟨rfl, rfl⟩); go_ret; exact ⟨rfl, hB⟩)))
  · have HE := Lib.hid h
    clear h
    go_enter Tryd.func5, Tryd.ntmps5
    go_wp2_with (first
      | (go_at_call 10; refine (lineFact_any _ (hl.below hB)).mono ?_; rintro e w1 ⟨rfl, hb⟩; replace hB := below_call hB hb; clear hb)
      | (go_at_call 11; refine (five_err _ _ _ _ _ _ (hr.below hB) HN.out rfl HE.out).mono ?_; rintro e w' ⟨rfl, rfl⟩)
      | fail)
    (by_cases h2 : bitsE ys = 0; (focus (obtain ⟨hb2, hl2⟩ := bits_of_ok h2; have HE2 := Lib.hid h2; have HT2 := Lib.hid (turn_all ys); have HBK := Lib.hid (show backL (turnL ys) = ys from by unfold backL; rw [turn_back ys hb2]); have HET := Lib.hid (bitsE_ok (turn_all ys).2.1 (by rw [(turn_all ys).1]; exact hl2)); have HYL := Lib.hid (show ys.length ≤ maxLen from by unfold maxLen; omega); clear h2 hb2; go_wp2_with fail; refine (turns_ok _ _ _ _ _ (hs.below hB) HM.out HE2.out).mono ?_; rintro e wt ⟨At, ct, rfl, hot, hct, hct2, hb⟩; replace hB := below_call hB hb; clear hb; have hrt := hot.rds; have HTL := Lib.hid HT2.out.1; clear hot; rw [HTL.out] at hrt hct ⊢; generalize turnL ys = tys at *; go_wp2_with fail; refine (bitsGo_ok _ _ _ _ _ hrt HYL.out HET.out).mono ?_; rintro e wb ⟨Ab, cb, rfl, hob, hcb, hcb2, hb⟩; replace hB := below_call hB hb; clear hb; have hrb := hob.rds; clear hob; rw [HBK.out] at hrb hcb ⊢; have hsb := hs.below hB; go_wp2_with fail; refine (ints_any _ _ _ _ _ _ ys ys _ hrb hsb HYL.out HM.out).mono ?_; rintro e w9 ⟨rfl, q9, rfl⟩; have hB9 := below_drewN hB q9; go_wp2; go_ret; exact ⟨rfl, hB9⟩)); (focus (have HE2 := Lib.hid h2; clear h2; go_wp2_with (go_at_call 14; refine (turns_err _ _ _ _ _ _ (hs.below hB) HM.out rfl HE2.out).mono ?_; rintro e w' ⟨rfl, rfl⟩); go_ret; exact ⟨rfl, hB⟩)))
end Go.Proofs.YtalehbhimnhnjaaDoor
