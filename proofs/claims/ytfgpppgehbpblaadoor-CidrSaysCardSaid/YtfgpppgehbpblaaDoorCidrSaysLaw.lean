/- The walk of the law CidrSays. -/
import Derived.Test.YtfgpppgehbpblaaDoorRefFew
import Derived.Test.YtfgpppgehbpblaaDoorErrV
import Derived.Test.YtfgpppgehbpblaaDoorLawIn
import Derived.Test.YtfgpppgehbpblaaDoorCidrWas
import Derived.Deep.DeepCutAuto
import Derived.Deep.CutRange
import Derived.Deep.CutBlock
import Derived.Outline
namespace Go.Proofs.YtfgpppgehbpblaaDoor
open Go.RowKit Px
theorem check_all (a l : Int) (w : World) :
    Calls Tryd.prog 9 #[.agg #[.int .i64 a, .int .i64 l]] w fun e w' => e = .returned (errV (checkE a l)) ∧ Grew w w' := by
  by_cases h : checkE a l = 0
  · rw [h, errV_zero]; exact check_okW a l w h
  · rw [errV_ne h]; exact check_errW a l _ w rfl h
def hasE (a l x : Int) : Int := if checkE a l = 0 then (if inB x 0 65535 = true then 0 else 1) else checkE a l
def hasR (a l x : Int) : Bool := if hasE a l x = 0 then hasI a l x else false
theorem has_all (a l x : Int) (w : World) :
    Calls Tryd.prog 11 #[.agg #[.int .i64 a, .int .i64 l], .int .i64 x] w fun e w' => e = .returned (.tuple #[.bool (hasR a l x), errV (hasE a l x)]) ∧ Below w.heap.size w w' := by
  refine (has_any a l x w).mono ?_
  rintro e w' ⟨h1, h2, h3, h4⟩
  refine ⟨?_, h4⟩
  unfold hasR hasE
  by_cases h : checkE a l = 0
  · rcases hx : inB x 0 65535 with _ | _
    · rw [if_pos h, if_neg (by decide), if_neg (by decide), errV_ne (by decide)]; exact h2 h hx
    · rw [if_pos h, if_pos rfl, if_pos rfl, errV_zero]; exact h1 h hx
  · rw [if_neg h, if_neg h, errV_ne h]; exact h3 h
theorem hasI_inPB {a l x : Int} (h : checkE a l = 0) (hx : inB x 0 65535 = true) : hasI a l x = inPB a l x := by
  obtain ⟨v, e⟩ := ofI_v (x := (a, l)) h
  obtain ⟨x0, _⟩ := inB_true.1 hx
  obtain ⟨n, rfl⟩ := Int.eq_ofNat_of_zero_le x0
  have h1 := inPB_ofI (x := (a, l)) h n
  have h2 := hasI_toI v n
  rw [e] at h2
  simp only at h1 h2
  rw [h1, h2, Bool.eq_iff_iff, hasB_iff, hasD_iff]
def fewV (xs : List (Int × Int)) : List (Int × Int) := if fewE xs = 0 then fewI xs else []
def manyV (xs : List (Int × Int)) : Int := if fewE xs = 0 then manyI xs else 0
theorem manyV_sum (xs : List (Int × Int)) : manyV xs = sumS (fewV xs) := by
  unfold manyV fewV
  split
  · rfl
  · rfl
theorem fewV_ok (xs : List (Int × Int)) : (fewV xs).length ≤ 32 ∧ ∀ x ∈ fewV xs, checkE x.1 x.2 = 0 := by
  unfold fewV
  split
  · rename_i h
    obtain ⟨l1, e1⟩ := fewE_ok h
    obtain ⟨v1, v2, _⟩ := few_valid e1
    exact ⟨by omega, errP_all.1 v1⟩
  · simp
theorem fewest_all (A : Option Addr) (n c : Nat) (xs : List (Int × Int)) (w : World) (hn : n ≤ maxLen) (hr : Rds w 2 A n (pc xs)) :
    Calls Tryd.prog 14 #[.slice A n c] w (RetP w (fewV xs) (errV (fewE xs))) := by
  unfold fewV
  by_cases h : fewE xs = 0
  · rw [if_pos h, h, errV_zero]; exact fewest_ok A n c xs w hn hr h
  · rw [if_neg h, errV_ne h]
    exact (fewest_bad A n c xs _ w hn hr rfl h).mono fun e w' ⟨h1, h2⟩ => ⟨none, 0, h1, ownsRow_nil _ _ _ _, h2⟩
theorem many_all (A : Option Addr) (n c : Nat) (xs : List (Int × Int)) (w : World) (hn : n ≤ maxLen) (hr : Rds w 2 A n (pc xs)) :
    Calls Tryd.prog 17 #[.slice A n c] w fun e w' => e = .returned (.tuple #[.int .i64 (manyV xs), errV (fewE xs)]) ∧ Below w.heap.size w w' := by
  unfold manyV
  by_cases h : fewE xs = 0
  · rw [if_pos h, h, errV_zero]; exact many_ok A n c xs w hn hr h
  · rw [if_neg h, errV_ne h]; exact many_bad A n c xs _ w hn hr rfl h
theorem refFew_all (A : Option Addr) (n c : Nat) (xs : List (Int × Int)) (w : World) (hn : n ≤ 1000) (hr : Rds w 2 A n (pc xs)) (he : errP xs = 0) :
    Calls Tryd.prog 34 #[.slice A n c, .agg #[.int .i64 0, .int .i64 0]] w (RetPs w (fewI xs)) := by
  have h := refFew_any A n c xs hn he 16 0 0 w rfl ⟨by simp only; omega, by simp, by simp⟩ hr
  rw [fewRI_all he] at h
  exact h
set_option maxHeartbeats 1000000 in
theorem refFewest_any (A : Option Addr) (n c : Nat) (xs : List (Int × Int)) (w : World) (hn : n ≤ maxLen) (hr : Rds w 2 A n (pc xs)) :
    Calls Tryd.prog 13 #[.slice A n c] w (RetP w (fewV xs) (.int .i64 (fewE xs))) := by
  obtain rfl : n = xs.length := hr.plen
  unfold maxLen at hn
  by_cases h32 : 32 < xs.length
  · have HE : Hid (fewE xs = 4) := Lib.hid (by unfold fewE; rw [if_pos h32])
    have HV : Hid (fewV xs = []) := Lib.hid (by unfold fewV; rw [HE.out]; rfl)
    rw [HE.out, HV.out]
    go_enter Tryd.func13, Tryd.ntmps13
    go_wp2
    go_ret2
    exact ⟨none, 0, rfl, ownsRow_nil _ _ _ _, Below.refl _ _⟩
  · have HE : Hid (fewE xs = errP xs) := Lib.hid (by unfold fewE; rw [if_neg h32])
    rw [HE.out]
    go_enter Tryd.func13, Tryd.ntmps13
    go_wp2_with fail
    go_loopw [4] (fun v wr => ∃ i : Nat, i ≤ xs.length ∧ v = .int .i64 i ∧ errP (xs.take i) = 0 ∧ Below w.heap.size w wr) (fun v _ => xs.length - (intOf v).toNat)
    case atStart => exact ⟨0, Nat.zero_le _, rfl, rfl, Below.refl _ _⟩
    case round =>
      obtain ⟨i, hi, rfl, hok, hB⟩ := hrel
      have HO := Lib.hid hok
      clear hok
      by_cases hlt : i < xs.length
      · obtain ⟨b, off, hk', rfl, hx1, hx2⟩ := (hr.below hB).pfx hlt
        have HA := Lib.hid (errP_at hk' HO.out)
        obtain ⟨x, hX⟩ : ∃ x, xs[i] = x := ⟨_, rfl⟩
        rw [hX] at hx1 hx2 HA
        clear hX
        go_wp2_with fail
        (with_reducible refine (refPrefix_any _ _ _).mono ?_)
        rintro e w2 ⟨rfl, hG⟩
        replace hB := below_call hB hG.below
        clear hG
        by_cases hc : checkE x.1 x.2 = 0
        · have HS := Lib.hid (HA.out.1.trans hc)
          rw [hc]
          clear hc
          go_wp2
          go_roundw
          case rel => exact ⟨i + 1, by omega, by go_num, HS.out, hB⟩
          case measure => simp [intOf]; omega
        · have HS := Lib.hid (HA.out.2 hc)
          have HV : Hid (fewV xs = []) := Lib.hid (by unfold fewV; rw [HE.out, HS.out, if_neg hc])
          have hc1 : (checkE x.1 x.2 != 0) = true := by rw [bne_iff_ne]; exact hc
          clear hc
          generalize checkE x.1 x.2 = ce at *
          go_wp2
          go_ret2
          rw [HV.out, HS.out]
          exact ⟨none, 0, rfl, ownsRow_nil _ _ _ _, hB⟩
      · obtain rfl : i = xs.length := by omega
        rw [List.take_length] at HO
        have HV : Hid (fewV xs = fewI xs) := Lib.hid (by unfold fewV; rw [HE.out, if_pos HO.out])
        go_wp2_with fail
        (with_reducible refine (refFew_all _ _ _ xs _ (by omega) (hr.below hB) HO.out).mono ?_)
        rintro e w2 ⟨A', c', rfl, ho, hb⟩
        go_wp2
        go_ret2
        rw [HV.out, HO.out]
        exact ⟨A', c', rfl, ho.base hB.size, below_call hB hb⟩
set_option maxRecDepth 100000 in
set_option maxHeartbeats 4000000 in
theorem cidrSays_any (a l ad : Int) (A : Option Addr) (n c : Nat) (xs : List (Int × Int)) (w : World) (hr : Rds w 2 A n (pc xs)) (hn : n ≤ maxLen) (hl : LaidW w) :
    Calls Tryd.prog 3 #[.agg #[.int .i64 a, .int .i64 l], .int .i64 ad, .slice A n c] w fun e w' => e = .returned (.bool true) ∧ Below w.heap.size w w' := by
  obtain rfl : n = xs.length := hr.plen
  have HN := Lib.hid hn
  clear hn
  have hB : Below w.heap.size w (w.alloc (.cells #[.int .i64 a, .int .i64 l] 23)) := (Below.refl _ _).alloc (Nat.le_refl _) _
  have hp1 : (w.alloc (.cells #[.int .i64 a, .int .i64 l] 23)).cell? ⟨w.heap.size, 0, none⟩ = some (.int .i64 a) := by simp
  have hp2 : (w.alloc (.cells #[.int .i64 a, .int .i64 l] 23)).cell? ⟨w.heap.size, 1, none⟩ = some (.int .i64 l) := by simp
  go_enter Tryd.func3, Tryd.ntmps3
  go_upto_region 1 with (fail)
  by_cases hc : checkE a l = 0
  · have HC := Lib.hid hc
    rcases hin : inB ad 0 65535 with _ | _
    · have HE : Hid (hasE a l ad = 1) := Lib.hid (by unfold hasE; rw [if_pos hc, hin]; rfl)
      have HR : Hid (hasR a l ad = false) := Lib.hid (by unfold hasR; rw [HE.out]; rfl)
      clear hc
      go_wp2_with fail; (with_reducible refine (refPrefix_any _ _ _).mono ?_); rintro e w2 ⟨rfl, hG⟩; have hb := hG.below; clear hG; have hq1 := hp1; have hq2 := hp2; clear hp1 hp2; have hp1 := (hb.cell (p := ⟨w.heap.size, 0, none⟩) (cell_lt hq1)).trans hq1; have hp2 := (hb.cell (p := ⟨w.heap.size, 1, none⟩) (cell_lt hq2)).trans hq2; replace hB := below_call hB hb; clear hb hq1 hq2; rw [HC.out]; go_wp2_with fail; (with_reducible refine (check_all _ _ _).mono ?_); rintro e w3 ⟨rfl, hG⟩; have hb := hG.below; clear hG; have hq1 := hp1; have hq2 := hp2; clear hp1 hp2; have hp1 := (hb.cell (p := ⟨w.heap.size, 0, none⟩) (cell_lt hq1)).trans hq1; have hp2 := (hb.cell (p := ⟨w.heap.size, 1, none⟩) (cell_lt hq2)).trans hq2; replace hB := below_call hB hb; clear hb hq1 hq2; rw [HC.out]; go_wp2_with (first | (go_at_call 8; ((with_reducible refine (error_same _ _ (hl.below hB)).mono ?_); rintro e we ⟨rfl, hbe⟩; replace hB := below_call hB hbe; have hq1 := hp1; have hq2 := hp2; clear hp1 hp2; have hp1 := (hbe.cell (p := ⟨w.heap.size, 0, none⟩) (cell_lt hq1)).trans hq1; have hp2 := (hbe.cell (p := ⟨w.heap.size, 1, none⟩) (cell_lt hq2)).trans hq2; clear hbe hq1 hq2)) | (go_at_call 10; refine (in_any _ _ _ _).mono ?_; rintro e w' ⟨rfl, rfl⟩)); (with_reducible refine (has_all _ _ _ _).mono ?_); rintro e w4 ⟨rfl, hb⟩; have hq1 := hp1; have hq2 := hp2; clear hp1 hp2; have hp1 := (hb.cell (p := ⟨w.heap.size, 0, none⟩) (cell_lt hq1)).trans hq1; have hp2 := (hb.cell (p := ⟨w.heap.size, 1, none⟩) (cell_lt hq2)).trans hq2; replace hB := below_call hB hb; clear hb hq1 hq2; rw [HE.out, HR.out]; go_wp2_with (go_at_call 8; ((with_reducible refine (error_same _ _ (hl.below hB)).mono ?_); rintro e we ⟨rfl, hbe⟩; replace hB := below_call hB hbe; have hq1 := hp1; have hq2 := hp2; clear hp1 hp2; have hp1 := (hbe.cell (p := ⟨w.heap.size, 0, none⟩) (cell_lt hq1)).trans hq1; have hp2 := (hbe.cell (p := ⟨w.heap.size, 1, none⟩) (cell_lt hq2)).trans hq2; clear hbe hq1 hq2))
      clear hp1 hp2
      obtain ⟨F, hF⟩ : ∃ F, fewV xs = F := ⟨_, rfl⟩
      obtain ⟨fe, hfe⟩ : ∃ fe, fewE xs = fe := ⟨_, rfl⟩
      obtain ⟨f1, f2⟩ := fewV_ok xs
      rw [hF] at f1 f2
      have HV := Lib.hid f2
      have HF := Lib.hid hF
      have HFE := Lib.hid hfe
      have HMS : Hid (manyV xs = sumS F) := Lib.hid (by rw [manyV_sum, hF])
      have HFL : Hid (F.length ≤ maxLen) := Lib.hid (by unfold maxLen; omega)
      clear f2 hF hfe
      go_wp2_with fail
      (with_reducible refine (refFewest_any _ _ _ xs _ HN.out (hr.below hB)).mono ?_)
      rw [HF.out, HFE.out]
      rintro e w2 ⟨A1, c1, rfl, ho, hb⟩
      replace hB := below_call hB hb
      have hr1 := ho.rds
      clear ho hb
      go_wp2_with fail
      (with_reducible refine (fewest_all _ _ _ xs _ HN.out (hr.below hB)).mono ?_)
      rw [HF.out, HFE.out]
      rintro e w3 ⟨A2, c2, rfl, ho, hb⟩
      replace hB := below_call hB hb
      replace hr1 := hr1.below hb
      have hr2 := ho.rds
      clear ho hb
      go_wp2_with fail
      (with_reducible refine (error_same _ _ (hl.below hB)).mono ?_)
      rintro e w4 ⟨rfl, hb⟩
      replace hB := below_call hB hb
      replace hr1 := hr1.below hb
      replace hr2 := hr2.below hb
      clear hb
      go_wp2_with fail
      (with_reducible refine (prefixes_any _ _ _ _ _ _ F F _ hr2 hr1 HFL.out HFL.out).mono ?_)
      rintro e w5 ⟨rfl, q, rfl⟩
      have hd : decide (F = F) = true := decide_eq_true rfl
      rw [hd]
      replace hB := below_drewN hB q
      replace hr1 := hr1.drewN q
      clear hr2 hd
      go_wp2_with fail
      go_loopw [15, 16] (fun s v wr => ∃ i : Nat, i ≤ F.length ∧ v = .int .i64 i ∧ s = .int .i64 (sumS (F.take i)) ∧ Below w.heap.size w wr ∧ Rds wr 2 A1 F.length (pc F)) (fun _ v _ => F.length - (intOf v).toNat)
      case atStart => exact ⟨0, Nat.zero_le _, rfl, rfl, hB, hr1⟩
      case round =>
        obtain ⟨i, hi, rfl, rfl, hBr, hrr⟩ := hrel
        obtain ⟨s0, s1⟩ := sumS_range (F.take i)
        have htk : (F.take i).length ≤ i := List.length_take_le _ _
        have hs1 : sumS (F.take i) ≤ 65536 * 32 := by omega
        clear s1 htk
        by_cases hlt : i < F.length
        · obtain ⟨b, off, hk', rfl, hx1, hx2⟩ := hrr.pfx hlt
          have HSN := Lib.hid (sumS_snoc F i hk')
          obtain ⟨_, _, g3, g4, _⟩ := checkE_ok (HV.out _ (List.getElem_mem hk'))
          obtain ⟨x, hX⟩ : ∃ x, F[i] = x := ⟨_, rfl⟩
          rw [hX] at hx1 hx2 HSN g3 g4
          have z1 := szI_pos x.2
          have z2 := szI_le x.2
          have HSZ := Lib.hid (fun w => powerL_any x.2 w g3 g4)
          clear hX
          generalize szI x.2 = z at *
          generalize sumS (F.take i) = s at *
          go_wp2_with (go_at_call 16; (with_reducible refine (HSZ.out _).mono ?_); rintro e w' ⟨rfl, rfl⟩)
          go_roundw
          case rel => exact ⟨i + 1, by omega, by go_num, by rw [HSN.out], hBr, hrr⟩
          case measure => simp [intOf]; omega
        · obtain rfl : i = F.length := by omega
          rw [List.take_length] at *
          go_wp2_with fail
          (with_reducible refine (many_all _ _ _ xs _ HN.out (hr.below hBr)).mono ?_)
          rw [HMS.out, HFE.out]
          rintro e w6 ⟨rfl, hb⟩
          replace hBr := below_call hBr hb
          clear hb
          generalize sumS F = s at *
          go_wp2_with fail
          (with_reducible refine (error_same _ _ (hl.below hBr)).mono ?_)
          rintro e w7 ⟨rfl, hb⟩
          go_wp2
          go_ret
          exact ⟨by simp, below_call hBr hb⟩
    · have HE : Hid (hasE a l ad = 0) := Lib.hid (by unfold hasE; rw [if_pos hc, hin]; rfl)
      obtain ⟨ib, hib⟩ : ∃ ib, inPB a l ad = ib := ⟨_, rfl⟩
      have HR : Hid (hasR a l ad = ib) := Lib.hid (by unfold hasR; rw [HE.out, if_pos rfl, hasI_inPB hc hin, hib])
      have HIB := Lib.hid hib
      have hx := inB_true.1 hin
      clear hc hib
      go_wp2_with fail; (with_reducible refine (refPrefix_any _ _ _).mono ?_); rintro e w2 ⟨rfl, hG⟩; have hb := hG.below; clear hG; have hq1 := hp1; have hq2 := hp2; clear hp1 hp2; have hp1 := (hb.cell (p := ⟨w.heap.size, 0, none⟩) (cell_lt hq1)).trans hq1; have hp2 := (hb.cell (p := ⟨w.heap.size, 1, none⟩) (cell_lt hq2)).trans hq2; replace hB := below_call hB hb; clear hb hq1 hq2; rw [HC.out]; go_wp2_with fail; (with_reducible refine (check_all _ _ _).mono ?_); rintro e w3 ⟨rfl, hG⟩; have hb := hG.below; clear hG; have hq1 := hp1; have hq2 := hp2; clear hp1 hp2; have hp1 := (hb.cell (p := ⟨w.heap.size, 0, none⟩) (cell_lt hq1)).trans hq1; have hp2 := (hb.cell (p := ⟨w.heap.size, 1, none⟩) (cell_lt hq2)).trans hq2; replace hB := below_call hB hb; clear hb hq1 hq2; rw [HC.out]; go_wp2_with (first | (go_at_call 8; ((with_reducible refine (error_same _ _ (hl.below hB)).mono ?_); rintro e we ⟨rfl, hbe⟩; replace hB := below_call hB hbe; have hq1 := hp1; have hq2 := hp2; clear hp1 hp2; have hp1 := (hbe.cell (p := ⟨w.heap.size, 0, none⟩) (cell_lt hq1)).trans hq1; have hp2 := (hbe.cell (p := ⟨w.heap.size, 1, none⟩) (cell_lt hq2)).trans hq2; clear hbe hq1 hq2)) | (go_at_call 10; refine (in_any _ _ _ _).mono ?_; rintro e w' ⟨rfl, rfl⟩)); (with_reducible refine (has_all _ _ _ _).mono ?_); rintro e w4 ⟨rfl, hb⟩; have hq1 := hp1; have hq2 := hp2; clear hp1 hp2; have hp1 := (hb.cell (p := ⟨w.heap.size, 0, none⟩) (cell_lt hq1)).trans hq1; have hp2 := (hb.cell (p := ⟨w.heap.size, 1, none⟩) (cell_lt hq2)).trans hq2; replace hB := below_call hB hb; clear hb hq1 hq2; rw [HE.out, HR.out]; go_wp2_with (go_at_call 8; ((with_reducible refine (error_same _ _ (hl.below hB)).mono ?_); rintro e we ⟨rfl, hbe⟩; replace hB := below_call hB hbe; have hq1 := hp1; have hq2 := hp2; clear hp1 hp2; have hp1 := (hbe.cell (p := ⟨w.heap.size, 0, none⟩) (cell_lt hq1)).trans hq1; have hp2 := (hbe.cell (p := ⟨w.heap.size, 1, none⟩) (cell_lt hq2)).trans hq2; clear hbe hq1 hq2))
      (with_reducible refine (refInP_any _ _ _ _ HC.out hx).mono ?_)
      rintro e w6 ⟨rfl, hG⟩
      have hb := hG.below
      clear hG
      have hq1 := hp1; have hq2 := hp2; clear hp1 hp2; have hp1 := (hb.cell (p := ⟨w.heap.size, 0, none⟩) (cell_lt hq1)).trans hq1; have hp2 := (hb.cell (p := ⟨w.heap.size, 1, none⟩) (cell_lt hq2)).trans hq2; replace hB := below_call hB hb; clear hb hq1 hq2
      rw [HIB.out]
      have hbb : (ib == ib) = true := by simp
      go_wp2_with fail
      clear hp1 hp2
      obtain ⟨F, hF⟩ : ∃ F, fewV xs = F := ⟨_, rfl⟩
      obtain ⟨fe, hfe⟩ : ∃ fe, fewE xs = fe := ⟨_, rfl⟩
      obtain ⟨f1, f2⟩ := fewV_ok xs
      rw [hF] at f1 f2
      have HV := Lib.hid f2
      have HF := Lib.hid hF
      have HFE := Lib.hid hfe
      have HMS : Hid (manyV xs = sumS F) := Lib.hid (by rw [manyV_sum, hF])
      have HFL : Hid (F.length ≤ maxLen) := Lib.hid (by unfold maxLen; omega)
      clear f2 hF hfe
      go_wp2_with fail
      (with_reducible refine (refFewest_any _ _ _ xs _ HN.out (hr.below hB)).mono ?_)
      rw [HF.out, HFE.out]
      rintro e w2 ⟨A1, c1, rfl, ho, hb⟩
      replace hB := below_call hB hb
      have hr1 := ho.rds
      clear ho hb
      go_wp2_with fail
      (with_reducible refine (fewest_all _ _ _ xs _ HN.out (hr.below hB)).mono ?_)
      rw [HF.out, HFE.out]
      rintro e w3 ⟨A2, c2, rfl, ho, hb⟩
      replace hB := below_call hB hb
      replace hr1 := hr1.below hb
      have hr2 := ho.rds
      clear ho hb
      go_wp2_with fail
      (with_reducible refine (error_same _ _ (hl.below hB)).mono ?_)
      rintro e w4 ⟨rfl, hb⟩
      replace hB := below_call hB hb
      replace hr1 := hr1.below hb
      replace hr2 := hr2.below hb
      clear hb
      go_wp2_with fail
      (with_reducible refine (prefixes_any _ _ _ _ _ _ F F _ hr2 hr1 HFL.out HFL.out).mono ?_)
      rintro e w5 ⟨rfl, q, rfl⟩
      have hd : decide (F = F) = true := decide_eq_true rfl
      rw [hd]
      replace hB := below_drewN hB q
      replace hr1 := hr1.drewN q
      clear hr2 hd
      go_wp2_with fail
      go_loopw [15, 16] (fun s v wr => ∃ i : Nat, i ≤ F.length ∧ v = .int .i64 i ∧ s = .int .i64 (sumS (F.take i)) ∧ Below w.heap.size w wr ∧ Rds wr 2 A1 F.length (pc F)) (fun _ v _ => F.length - (intOf v).toNat)
      case atStart => exact ⟨0, Nat.zero_le _, rfl, rfl, hB, hr1⟩
      case round =>
        obtain ⟨i, hi, rfl, rfl, hBr, hrr⟩ := hrel
        obtain ⟨s0, s1⟩ := sumS_range (F.take i)
        have htk : (F.take i).length ≤ i := List.length_take_le _ _
        have hs1 : sumS (F.take i) ≤ 65536 * 32 := by omega
        clear s1 htk
        by_cases hlt : i < F.length
        · obtain ⟨b, off, hk', rfl, hx1, hx2⟩ := hrr.pfx hlt
          have HSN := Lib.hid (sumS_snoc F i hk')
          obtain ⟨_, _, g3, g4, _⟩ := checkE_ok (HV.out _ (List.getElem_mem hk'))
          obtain ⟨x, hX⟩ : ∃ x, F[i] = x := ⟨_, rfl⟩
          rw [hX] at hx1 hx2 HSN g3 g4
          have z1 := szI_pos x.2
          have z2 := szI_le x.2
          have HSZ := Lib.hid (fun w => powerL_any x.2 w g3 g4)
          clear hX
          generalize szI x.2 = z at *
          generalize sumS (F.take i) = s at *
          go_wp2_with (go_at_call 16; (with_reducible refine (HSZ.out _).mono ?_); rintro e w' ⟨rfl, rfl⟩)
          go_roundw
          case rel => exact ⟨i + 1, by omega, by go_num, by rw [HSN.out], hBr, hrr⟩
          case measure => simp [intOf]; omega
        · obtain rfl : i = F.length := by omega
          rw [List.take_length] at *
          go_wp2_with fail
          (with_reducible refine (many_all _ _ _ xs _ HN.out (hr.below hBr)).mono ?_)
          rw [HMS.out, HFE.out]
          rintro e w6 ⟨rfl, hb⟩
          replace hBr := below_call hBr hb
          clear hb
          generalize sumS F = s at *
          go_wp2_with fail
          (with_reducible refine (error_same _ _ (hl.below hBr)).mono ?_)
          rintro e w7 ⟨rfl, hb⟩
          go_wp2
          go_ret
          exact ⟨by simp, below_call hBr hb⟩
  · obtain ⟨ce, hce⟩ : ∃ ce, checkE a l = ce := ⟨_, rfl⟩
    have HC := Lib.hid hce
    have HE : Hid (hasE a l ad = ce) := Lib.hid (by unfold hasE; rw [if_neg hc, hce])
    have HR : Hid (hasR a l ad = false) := Lib.hid (by unfold hasR; rw [HE.out, if_neg (by rw [← hce]; exact hc)])
    have hc0 : (ce == 0) = false := by rw [beq_eq_false_iff_ne, ← hce]; exact hc
    clear hc hce
    go_wp2_with fail; (with_reducible refine (refPrefix_any _ _ _).mono ?_); rintro e w2 ⟨rfl, hG⟩; have hb := hG.below; clear hG; have hq1 := hp1; have hq2 := hp2; clear hp1 hp2; have hp1 := (hb.cell (p := ⟨w.heap.size, 0, none⟩) (cell_lt hq1)).trans hq1; have hp2 := (hb.cell (p := ⟨w.heap.size, 1, none⟩) (cell_lt hq2)).trans hq2; replace hB := below_call hB hb; clear hb hq1 hq2; rw [HC.out]; go_wp2_with fail; (with_reducible refine (check_all _ _ _).mono ?_); rintro e w3 ⟨rfl, hG⟩; have hb := hG.below; clear hG; have hq1 := hp1; have hq2 := hp2; clear hp1 hp2; have hp1 := (hb.cell (p := ⟨w.heap.size, 0, none⟩) (cell_lt hq1)).trans hq1; have hp2 := (hb.cell (p := ⟨w.heap.size, 1, none⟩) (cell_lt hq2)).trans hq2; replace hB := below_call hB hb; clear hb hq1 hq2; rw [HC.out]; go_wp2_with (first | (go_at_call 8; ((with_reducible refine (error_same _ _ (hl.below hB)).mono ?_); rintro e we ⟨rfl, hbe⟩; replace hB := below_call hB hbe; have hq1 := hp1; have hq2 := hp2; clear hp1 hp2; have hp1 := (hbe.cell (p := ⟨w.heap.size, 0, none⟩) (cell_lt hq1)).trans hq1; have hp2 := (hbe.cell (p := ⟨w.heap.size, 1, none⟩) (cell_lt hq2)).trans hq2; clear hbe hq1 hq2)) | (go_at_call 10; refine (in_any _ _ _ _).mono ?_; rintro e w' ⟨rfl, rfl⟩)); (with_reducible refine (has_all _ _ _ _).mono ?_); rintro e w4 ⟨rfl, hb⟩; have hq1 := hp1; have hq2 := hp2; clear hp1 hp2; have hp1 := (hb.cell (p := ⟨w.heap.size, 0, none⟩) (cell_lt hq1)).trans hq1; have hp2 := (hb.cell (p := ⟨w.heap.size, 1, none⟩) (cell_lt hq2)).trans hq2; replace hB := below_call hB hb; clear hb hq1 hq2; rw [HE.out, HR.out]; go_wp2_with (go_at_call 8; ((with_reducible refine (error_same _ _ (hl.below hB)).mono ?_); rintro e we ⟨rfl, hbe⟩; replace hB := below_call hB hbe; have hq1 := hp1; have hq2 := hp2; clear hp1 hp2; have hp1 := (hbe.cell (p := ⟨w.heap.size, 0, none⟩) (cell_lt hq1)).trans hq1; have hp2 := (hbe.cell (p := ⟨w.heap.size, 1, none⟩) (cell_lt hq2)).trans hq2; clear hbe hq1 hq2))
    clear hp1 hp2
    obtain ⟨F, hF⟩ : ∃ F, fewV xs = F := ⟨_, rfl⟩
    obtain ⟨fe, hfe⟩ : ∃ fe, fewE xs = fe := ⟨_, rfl⟩
    obtain ⟨f1, f2⟩ := fewV_ok xs
    rw [hF] at f1 f2
    have HV := Lib.hid f2
    have HF := Lib.hid hF
    have HFE := Lib.hid hfe
    have HMS : Hid (manyV xs = sumS F) := Lib.hid (by rw [manyV_sum, hF])
    have HFL : Hid (F.length ≤ maxLen) := Lib.hid (by unfold maxLen; omega)
    clear f2 hF hfe
    go_wp2_with fail
    (with_reducible refine (refFewest_any _ _ _ xs _ HN.out (hr.below hB)).mono ?_)
    rw [HF.out, HFE.out]
    rintro e w2 ⟨A1, c1, rfl, ho, hb⟩
    replace hB := below_call hB hb
    have hr1 := ho.rds
    clear ho hb
    go_wp2_with fail
    (with_reducible refine (fewest_all _ _ _ xs _ HN.out (hr.below hB)).mono ?_)
    rw [HF.out, HFE.out]
    rintro e w3 ⟨A2, c2, rfl, ho, hb⟩
    replace hB := below_call hB hb
    replace hr1 := hr1.below hb
    have hr2 := ho.rds
    clear ho hb
    go_wp2_with fail
    (with_reducible refine (error_same _ _ (hl.below hB)).mono ?_)
    rintro e w4 ⟨rfl, hb⟩
    replace hB := below_call hB hb
    replace hr1 := hr1.below hb
    replace hr2 := hr2.below hb
    clear hb
    go_wp2_with fail
    (with_reducible refine (prefixes_any _ _ _ _ _ _ F F _ hr2 hr1 HFL.out HFL.out).mono ?_)
    rintro e w5 ⟨rfl, q, rfl⟩
    have hd : decide (F = F) = true := decide_eq_true rfl
    rw [hd]
    replace hB := below_drewN hB q
    replace hr1 := hr1.drewN q
    clear hr2 hd
    go_wp2_with fail
    go_loopw [15, 16] (fun s v wr => ∃ i : Nat, i ≤ F.length ∧ v = .int .i64 i ∧ s = .int .i64 (sumS (F.take i)) ∧ Below w.heap.size w wr ∧ Rds wr 2 A1 F.length (pc F)) (fun _ v _ => F.length - (intOf v).toNat)
    case atStart => exact ⟨0, Nat.zero_le _, rfl, rfl, hB, hr1⟩
    case round =>
      obtain ⟨i, hi, rfl, rfl, hBr, hrr⟩ := hrel
      obtain ⟨s0, s1⟩ := sumS_range (F.take i)
      have htk : (F.take i).length ≤ i := List.length_take_le _ _
      have hs1 : sumS (F.take i) ≤ 65536 * 32 := by omega
      clear s1 htk
      by_cases hlt : i < F.length
      · obtain ⟨b, off, hk', rfl, hx1, hx2⟩ := hrr.pfx hlt
        have HSN := Lib.hid (sumS_snoc F i hk')
        obtain ⟨_, _, g3, g4, _⟩ := checkE_ok (HV.out _ (List.getElem_mem hk'))
        obtain ⟨x, hX⟩ : ∃ x, F[i] = x := ⟨_, rfl⟩
        rw [hX] at hx1 hx2 HSN g3 g4
        have z1 := szI_pos x.2
        have z2 := szI_le x.2
        have HSZ := Lib.hid (fun w => powerL_any x.2 w g3 g4)
        clear hX
        generalize szI x.2 = z at *
        generalize sumS (F.take i) = s at *
        go_wp2_with (go_at_call 16; (with_reducible refine (HSZ.out _).mono ?_); rintro e w' ⟨rfl, rfl⟩)
        go_roundw
        case rel => exact ⟨i + 1, by omega, by go_num, by rw [HSN.out], hBr, hrr⟩
        case measure => simp [intOf]; omega
      · obtain rfl : i = F.length := by omega
        rw [List.take_length] at *
        go_wp2_with fail
        (with_reducible refine (many_all _ _ _ xs _ HN.out (hr.below hBr)).mono ?_)
        rw [HMS.out, HFE.out]
        rintro e w6 ⟨rfl, hb⟩
        replace hBr := below_call hBr hb
        clear hb
        generalize sumS F = s at *
        go_wp2_with fail
        (with_reducible refine (error_same _ _ (hl.below hBr)).mono ?_)
        rintro e w7 ⟨rfl, hb⟩
        go_wp2
        go_ret
        exact ⟨by simp, below_call hBr hb⟩
end Go.Proofs.YtfgpppgehbpblaaDoor
