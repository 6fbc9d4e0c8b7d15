/- In order they are the same parts: ferryhythelaw1.FragOrder returns true. -/
import Derived.Test.YtbmajajndckfoaaQEq
import Derived.Test.YtbmajajndckfoaaFragFact
import Derived.BigQuiet
namespace Go.Proofs.Ytbmajajndckfoaa
open Go.RowKit
attribute [local go_sem ↓] Go.wp_at_zero Go.wp_at_succ
theorem count_take {xs : List Pt} {k : Nat} (hk : k < xs.length) (y : Pt) : (xs.take (k + 1)).countP (fun x => eqPt x y) = (xs.take k).countP (fun x => eqPt x y) + (if eqPt xs[k] y = true then 1 else 0) := by
  rw [List.take_succ_eq_append_getElem hk, List.countP_append, List.countP_singleton]
def cntI (xs : List Pt) (y : Pt) (k : Nat) : Nat := (xs.take k).countP fun x => eqPt x y
theorem cnt_le (xs : List Pt) (y : Pt) (k : Nat) : cntI xs y k ≤ k := by
  unfold cntI
  exact Nat.le_trans List.countP_le_length (by rw [List.length_take]; omega)
theorem cnt_true {xs : List Pt} {y : Pt} {k : Nat} (hk : k < xs.length) (h : eqPt xs[k] y = true) : cntI xs y (k + 1) = cntI xs y k + 1 := by
  have := count_take hk y
  rw [if_pos h] at this
  exact this
theorem cnt_false {xs : List Pt} {y : Pt} {k : Nat} (hk : k < xs.length) (h : eqPt xs[k] y = false) : cntI xs y (k + 1) = cntI xs y k := by
  have := count_take hk y
  rw [if_neg (by rw [h]; simp)] at this
  exact this
theorem cnt_all {xs ys : List Pt} (h : ys.Perm xs) (y : Pt) : cntI xs y xs.length = cntI ys y xs.length := by
  unfold cntI
  conv => rhs; rw [← h.length_eq]
  rw [List.take_length, List.take_length]
  exact (h.countP_eq _).symm
set_option maxRecDepth 100000 in
set_option maxHeartbeats 4000000 in
theorem fragOrder_any (A : Option Addr) (n c : Nat) (xs : List Pt) (w : World) (hr : Rds w 3 A n (qc xs)) (hn : n ≤ maxLen) :
    Calls Try.prog 8 #[.slice A n c] w fun e w' => e = .returned (.bool true) ∧ Below w.heap.size w w' := by
  obtain rfl : n = xs.length := hr.qlen
  have hB := Below.refl w.heap.size w
  have HR := Lib.hid hr
  have HN := Lib.hid hn
  clear hr hn
  go_enter Try.func8, Try.ntmps8
  go_wp2_with fail
  (with_reducible refine (fragFact_any _).mono ?_)
  rintro e w1 ⟨rfl, hb⟩
  replace hB := below_call hB hb
  clear hb
  go_wp2_with fail
  (with_reducible refine (order_any A xs.length c xs w1 (HR.out.below hB) HN.out).mono ?_)
  rintro e w2 ⟨hb, h1, h2⟩
  replace hB := below_call hB hb
  clear hb
  by_cases h40 : 40 < xs.length
  · obtain rfl := h1 h40
    have h40z : (40 : Int) < (xs.length : Int) := by omega
    clear h1 h2
    go_wp2
    go_ret
    exact ⟨rfl, hB⟩
  · obtain ⟨A1, c1, zs, rfl, hO, ho⟩ := h2 (by omega)
    clear h1 h2
    obtain ⟨ys, hys⟩ : ∃ ys, zs.map Prod.fst = ys := ⟨_, rfl⟩
    have hlen : ys.length = xs.length := by rw [← hys, List.length_map, hO.length]
    have HPM : Hid (ys.Perm xs) := Lib.hid (by rw [← hys]; exact hO.parts)
    have HSO : Hid (∀ i j (hi : i < ys.length) (hj : j < ys.length), i < j → ¬ ys[j].1 < ys[i].1) := Lib.hid (by
      subst hys
      intro i j hi hj hij
      have := List.pairwise_iff_getElem.1 hO.sorted i j (by simpa using hi) (by simpa using hj) hij
      simp only [List.getElem_map]
      unfold AheadQ at this
      omega)
    rw [hys] at ho
    have HY := Lib.hid ho.rds
    have HX := Lib.hid (HR.out.below hB)
    have HB := Lib.hid hB
    have HLE := Lib.hid hlen
    clear hys ho hO hB hlen
    go_wp2_with fail
    go_loopw [6] (fun s6 wr => ∃ i : Nat, s6 = .int .i64 i ∧ i ≤ xs.length ∧ Hid (Grew w2 wr)) (fun s6 _ => xs.length - (intOf s6).toNat)
    case atStart => exact ⟨0, rfl, Nat.zero_le _, Lib.hid (Grew.refl _)⟩
    case round =>
      obtain ⟨i, rfl, hi, HG⟩ := hrel
      by_cases hlt : i < xs.length
      · have hz1 : (0 : Int) ≤ (i : Int) ∧ (i : Int) < (xs.length : Int) := by omega
        obtain ⟨b, off, hi', hA1, hy1, hy2, hy3⟩ := ((HY.out).below HG.out.below).part (k := i) hlt
        obtain ⟨y, hy⟩ : ∃ y, ys[i] = y := ⟨_, rfl⟩
        rw [hy] at hy1 hy2 hy3
        have HYI := Lib.hid hy
        clear hy
        subst hA1
        go_wp2_with fail
        go_loopw [7, 8, 9] (fun s7 s8 s9 wr2 => ∃ k : Nat, s7 = .int .i64 (cntI xs y k : Nat) ∧ s8 = .int .i64 (cntI ys y k : Nat) ∧ s9 = .int .i64 k ∧ k ≤ xs.length ∧ Hid (Grew w2 wr2)) (fun _ _ s9 _ => xs.length - (intOf s9).toNat)
        case atStart => exact ⟨0, by simp [cntI], by simp [cntI], rfl, Nat.zero_le _, HG⟩
        case round =>
          clear hy1 hy2 hy3 HG
          obtain ⟨k, rfl, rfl, rfl, hk, HG⟩ := hrel
          obtain ⟨b', off', _, hA1, hy1, hy2, hy3⟩ := ((HY.out).below HG.out.below).part (k := i) hlt
          cases hA1
          rw [HYI.out] at hy1 hy2 hy3
          by_cases hlk : k < xs.length
          · have hz2 : (0 : Int) ≤ (k : Int) ∧ (k : Int) < (xs.length : Int) := by omega
            obtain ⟨b3, off3, hk3, hA3, hx1, hx2, hx3⟩ := ((HX.out).below HG.out.below).part (k := k) hlk
            obtain ⟨b4, off4, hk4, hA4, hv1, hv2, hv3⟩ := ((HY.out).below HG.out.below).part (k := k) hlk
            cases hA4
            subst hA3
            have c1 := cnt_le xs y k
            have c2 := cnt_le ys y k
            have hn := HN.out
            unfold maxLen at hn
            have HT1 := Lib.hid (fun h => cnt_true (y := y) hk3 h)
            have HF1 := Lib.hid (fun h => cnt_false (y := y) hk3 h)
            have HT2 := Lib.hid (fun h => cnt_true (y := y) hk4 h)
            have HF2 := Lib.hid (fun h => cnt_false (y := y) hk4 h)
            have hq1 := eqPt_cases xs[k] y
            have hq2 := eqPt_cases ys[k] y
            generalize xs[k] = x at *
            generalize ys[k] = v at *
            obtain ⟨xa, xb, xc⟩ := x
            obtain ⟨va, vb, vc⟩ := v
            obtain ⟨ya, yb, yc⟩ := y
            simp only at hx1 hx2 hx3 hv1 hv2 hv3 hy1 hy2 hy3 hq1 hq2
            rcases hq1 with ⟨p1, e1, e2, e3⟩ | ⟨p1, e1⟩ | ⟨p1, e1, e2⟩ | ⟨p1, e1, e2, e3⟩
            all_goals
              have HP1 := Lib.hid p1
              clear p1
              rcases hq2 with ⟨p2, f1, f2, f3⟩ | ⟨p2, f1⟩ | ⟨p2, f1, f2⟩ | ⟨p2, f1, f2, f3⟩
              all_goals
                have HP2 := Lib.hid p2
                clear p2
                go_wp2_with fail
                go_quiet (fail)
                go_wp2_with fail
                go_quiet (fail)
                go_wp2
                go_roundw
                case rel => exact ⟨k + 1, by first | (rw [HT1.out HP1.out]; go_num) | (rw [HF1.out HP1.out]), by first | (rw [HT2.out HP2.out]; go_num) | (rw [HF2.out HP2.out]), by go_num, by omega, by first | exact Lib.hid (HG.out.drewN _) | exact Lib.hid ((HG.out.drewN _).drewN _)⟩
                case measure => simp [intOf]; omega
          · obtain rfl : k = xs.length := by omega
            have HC := Lib.hid (cnt_all HPM.out y)
            rw [HC.out]
            obtain ⟨cn, hcn⟩ : ∃ cn : Nat, cntI ys y xs.length = cn := ⟨_, rfl⟩
            rw [hcn]
            clear hcn
            rcases Nat.eq_zero_or_pos i with h0 | h0
            · subst h0
              go_wp2_with fail
              go_quiet (fail)
              go_wp2
              go_roundw
              case rel => exact ⟨1, by first | rfl | go_num, by omega, Lib.hid (HG.out.drewN _)⟩
              case measure => simp [intOf]; omega
            · obtain ⟨j, rfl⟩ : ∃ j, i = j + 1 := ⟨i - 1, by omega⟩
              obtain ⟨b5, off5, hj5, hA5, hu1, _, _⟩ := ((HY.out).below HG.out.below).part (k := j) (by omega)
              cases hA5
              have hs := HSO.out j (j + 1) hj5 hi' (by omega)
              rw [HYI.out] at hs
              have hsd : decide (y.1 < ys[j].1) = false := by first | exact decide_eq_false hs | exact decide_eq_false (Int.not_lt.2 hs)
              have hjz : (0 : Int) ≤ (j : Int) ∧ (j : Int) < (xs.length : Int) := by omega
              have hjp : (0 : Int) < (j : Int) + 1 := by omega
              have hjw : IntKind.i64.wrap (j : Int) = (j : Int) := IntWalk.i64_in _ (by have := HN.out; unfold maxLen at this; constructor <;> omega)
              generalize ys[j] = u at *
              clear hs
              go_wp2_with fail
              go_quiet (fail)
              go_wp2
              go_roundw
              case rel => exact ⟨j + 1 + 1, by go_num, by omega, Lib.hid (HG.out.drewN _)⟩
              case measure => simp [intOf]; omega
      · obtain rfl : i = xs.length := by omega
        have hB3 := HB.out.trans (HG.out.below.mono HB.out.size)
        have HX3 := Lib.hid ((HX.out).below HG.out.below)
        have HY3 := Lib.hid ((HY.out).below HG.out.below)
        have HJ := Lib.hid (join_perm (l := xs) (m := ys) HLE.out (fun p => HPM.out.mem_iff))
        go_wp2_with fail
        (with_reducible refine (join_any A xs.length c xs _ HX3.out HN.out).mono ?_)
        rintro e w4 ⟨rfl, hb4⟩
        have hB4 := below_call hB3 hb4
        have HY4 := Lib.hid ((HY3.out).below hb4)
        go_wp2_with fail
        (with_reducible refine (join_any A1 xs.length c1 ys _ HY4.out HN.out).mono ?_)
        rintro e w5 ⟨rfl, hb5⟩
        have hB5 := below_call hB4 hb5
        rw [HJ.out.2]
        clear hb4 hb5 hB3 hB4
        by_cases he : joinE xs = 0
        · have he2 := HJ.out.1.1 he
          rw [he, he2, errV_zero]
          clear he he2
          go_wp2_with fail
          go_quiet (fail)
          go_wp2
          go_ret
          exact ⟨rfl, below_drewN hB5 _⟩
        · have he2 : joinE ys ≠ 0 := fun h => he (HJ.out.1.2 h)
          rw [errV_ne he, errV_ne he2]
          clear he he2
          go_wp2_with fail
          go_quiet (fail)
          go_wp2
          go_ret
          exact ⟨rfl, below_drewN hB5 _⟩
end Go.Proofs.Ytbmajajndckfoaa
