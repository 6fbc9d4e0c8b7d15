/- Parts in whatever order, however often, are the text: ferryhythelaw1.FragJoin returns true. -/
import Derived.Test.YtbmajajndckfoaaFragFact
import Derived.Test.YtbmajajndckfoaaLawIn
namespace Go.Proofs.Ytbmajajndckfoaa
open Go.RowKit
attribute [local go_sem ↓] Go.wp_at_zero Go.wp_at_succ
set_option maxRecDepth 100000 in
set_option maxHeartbeats 4000000 in
theorem fragJoin_any (t : ByteArray) (size : Int) (A : Option Addr) (n c : Nat) (xs : List Int) (w : World) (hm : t.size ≤ maxLen) (hr : Rds w 1 A n (ic xs)) (hn : n ≤ maxLen) :
    Calls Try.prog 6 #[.string t, .int .i64 size, .slice A n c] w fun e w' => e = .returned (.bool true) ∧ Below w.heap.size w w' := by
  have hB := Below.refl w.heap.size w
  have HM := Lib.hid hm
  have HX := Lib.hid hr.len_int
  unfold maxLen at hn
  clear hm
  by_cases he : cutE t size = 0
  rotate_left
  · have HV := Lib.hid (cutV_bad he)
    have HE := Lib.hid (errV_ne he)
    clear he
    go_enter Try.func6, Try.ntmps6
    go_wp2_with (go_at_call 18; (with_reducible refine (fragFact_any _).mono ?_); rintro e w1 ⟨rfl, hb⟩; replace hB := below_call hB hb; clear hb)
    (with_reducible refine (cut_law _ _ _ HM.out).mono ?_)
    rw [HV.out]
    rintro e w2 ⟨A1, c1, rfl, _, hb⟩
    replace hB := below_call hB hb
    clear hb
    rw [HE.out]
    go_wp2
    go_ret
    exact ⟨rfl, hB⟩
  · obtain ⟨sz, rfl, s1, s2, ht, hM, hV, hC⟩ := cutE_ok he
    have HV := Lib.hid hV
    have HC := Lib.hid hC
    have HE := Lib.hid he
    have HT := Lib.hid ht
    have hM1 := hC.one
    obtain ⟨M, hMM⟩ : ∃ M, cutM t sz = M := ⟨_, rfl⟩
    rw [hMM] at hM hV HV hC HC hM1
    have HL : Hid ((cutL t sz M).length = M) := Lib.hid (cutL_len _ _ _)
    have HG : Hid (∀ p ∈ cutL t sz M, Gin t p) := Lib.hid (fun p hp => gin_of (cut_of hC p hp) ht)
    have HW : Hid (∀ ps : List Pt, (∀ p ∈ cutL t sz M, p ∈ ps) → wholeB t ps = true) := Lib.hid (fun ps h => cut_whole hC s1 h)
    clear he hV hC ht hMM
    go_enter Try.func6, Try.ntmps6
    go_wp2_with (go_at_call 18; (with_reducible refine (fragFact_any _).mono ?_); rintro e w1 ⟨rfl, hb⟩; replace hB := below_call hB hb; clear hb)
    (with_reducible refine (cut_law _ _ _ HM.out).mono ?_)
    rw [HV.out, HE.out, errV_zero]
    rintro e w2 ⟨A1, c1, rfl, ho, hb⟩
    rw [HL.out] at ho ⊢
    replace hB := below_call hB hb
    have hL := ho.rds
    generalize cutL t sz M = L at *
    clear hb ho
    have HB := Lib.hid hB
    have HLR := Lib.hid hL
    have hM0 : ((M : Int) == 0) = false := by rw [beq_eq_false_iff_ne]; omega
    have hM40 : ¬ 40 < (M : Int) := by omega
    have hMw : IntKind.i64.wrap ((M : Int) - 1) = (M : Int) - 1 := IntWalk.i64_in _ (by constructor <;> omega)
    clear hB hL
    obtain ⟨wo, rfl⟩ : ∃ wo : World, wo = w2 := ⟨_, rfl⟩
    go_wp2_with fail
    go_loopw [10, 11] (fun so v wr => ∃ (i : Nat) (m : List Pt) (k : Nat) (A2 : Option Addr) (c2 : Nat), i ≤ n ∧ v = .int .i64 i ∧ so = .slice A2 k c2 ∧ k = m.length ∧ k + M ≤ 40 ∧ OwnQ wr wo.heap.size (.slice A2 k c2) m ∧ (∀ p ∈ m, p ∈ L) ∧ Below wo.heap.size wo wr) (fun _ v _ => n - (intOf v).toNat)
    case atStart => exact ⟨0, [], 0, none, 0, Nat.zero_le _, rfl, rfl, rfl, by omega, OwnQ.nil_ _ _, by simp, Below.refl _ _⟩
    case round =>
      obtain ⟨i, m, k, A2, c2, hi, rfl, rfl, hkm, hkM, hO, hin, hBr⟩ := hrel
      have HKM := Lib.hid hkm
      have HIN := Lib.hid hin
      clear hkm hin
      by_cases hgo : i < n ∧ k + M < 40
      · obtain ⟨hlt, hk40⟩ := hgo
        obtain ⟨b, off, hk', rfl, hcell⟩ := (hr.below (HB.out.trans (hBr.mono HB.out.size))).int hlt
        obtain ⟨x, hX⟩ : ∃ x, xs[i] = x := ⟨_, rfl⟩
        rw [hX] at hcell
        clear hX
        have hg1 : (k : Int) + (M : Int) < 40 := by omega
        rcases hx : inB x 0 ((M : Int) - 1) with _ | _
        · have HXX := Lib.hid hx
          clear hx
          go_wp2_with (go_at_call 12; (with_reducible refine (in_any _ _ _ _).mono ?_); rintro e w3 ⟨rfl, rfl⟩; rw [HXX.out])
          go_roundw
          case rel => exact ⟨i + 1, m, k, A2, c2, by omega, by go_num, rfl, HKM.out, by omega, hO, HIN.out, hBr⟩
          case measure => simp [intOf]; omega
        · obtain ⟨x0, x1⟩ := inB_true.1 hx
          obtain ⟨xn, rfl⟩ : ∃ xn : Nat, x = (xn : Int) := ⟨x.toNat, by omega⟩
          have HXX := Lib.hid hx
          clear hx
          obtain ⟨b2, off2, hk2, rfl, hq1, hq2, hq3⟩ := (HLR.out.below hBr).part (k := xn) (by omega)
          have HMEM := Lib.hid (List.getElem_mem hk2)
          obtain ⟨p, hP⟩ : ∃ p, L[xn] = p := ⟨_, rfl⟩
          rw [hP] at hq1 hq2 hq3 HMEM
          clear hP hk2
          obtain ⟨pa, pm, pd⟩ := p
          simp only at hq1 hq2 hq3
          have hxn : xn < M := by omega
          go_wp2_with (first | (go_at_call 12; (with_reducible refine (in_any _ _ _ _).mono ?_); rintro e w3 ⟨rfl, rfl⟩; rw [HXX.out]) | (at_builtin; refine wp_append_part wr rfl (.tmp 58) (.tmp 66) rfl wo wo.heap.size (.slice A2 k c2) m (by rfl) hO (pa, pm, pd) rfl (by rw [← HKM.out]; omega) hBr.size hBr ?_; intro A4 c4 w4 ho4 _ _ hB4 _; rw [← HKM.out] at ho4; rw [← HKM.out]))
          go_roundw
          case rel => exact ⟨i + 1, m ++ [(pa, pm, pd)], k + 1, A4, c4, by omega, by go_num, rfl, by rw [List.length_append, ← HKM.out]; rfl, by omega, ho4, fun q hq => by
            rcases List.mem_append.1 hq with h | h
            · exact HIN.out q h
            · rw [List.mem_singleton.1 h]; exact HMEM.out, hB4⟩
          case measure => simp [intOf]; omega
      · have hgo2 : ¬ (i : Int) < (n : Int) ∨ ((i : Int) < (n : Int) ∧ ¬ (k : Int) + (M : Int) < 40) := by omega
        clear hgo
        have HO := Lib.hid hO
        have HBR := Lib.hid hBr
        clear hO hBr
        obtain ⟨wq, rfl⟩ : ∃ wq : World, wq = wr := ⟨_, rfl⟩
        rcases hgo2 with hg1 | ⟨hg0, hg1⟩
        all_goals
          go_wp2_with fail
          go_loopw [10, 12] (fun so v wr => ∃ (i : Nat) (m : List Pt) (k : Nat) (A2 : Option Addr) (c2 : Nat), i ≤ M ∧ v = .int .i64 ((i : Int) - 1) ∧ so = .slice A2 k c2 ∧ k = m.length ∧ k + i ≤ 40 ∧ OwnQ wr wo.heap.size (.slice A2 k c2) m ∧ (∀ p ∈ m, p ∈ L) ∧ (∀ j (h : j < L.length), i ≤ j → L[j] ∈ m) ∧ Below wo.heap.size wo wr) (fun _ v _ => (intOf v + 1).toNat)
          case atStart => exact ⟨M, m, k, A2, c2, Nat.le_refl _, rfl, rfl, HKM.out, by omega, HO.out, HIN.out, fun j h h2 => by have := HL.out; omega, HBR.out⟩
          case round =>
            clear HO HBR HIN HKM hg1
            obtain ⟨i, m, k, A2, c2, hi, rfl, rfl, hkm, hkM, hO, hin, hall, hBr⟩ := hrel
            have HKM := Lib.hid hkm
            have HIN := Lib.hid hin
            have HALL := Lib.hid hall
            clear hkm hin hall
            rcases i with _ | i
            · have HJ : Hid (joinE m = 0 ∧ joinT m = t) := Lib.hid ((join_of (by rw [← HKM.out]; omega) HT.out (fun p hp => HG.out p (HIN.out p hp))).1 (HW.out m (fun p hp => by
                obtain ⟨j, h, rfl⟩ := List.getElem_of_mem hp
                exact HALL.out j h (Nat.zero_le _))))
              have hk63 : k ≤ maxLen := by unfold maxLen; omega
              go_wp2_with fail
              (with_reducible refine (join_any _ _ _ m _ hO.rds hk63).mono ?_)
              rintro e w5 ⟨rfl, hb5⟩
              rw [HJ.out.1, HJ.out.2, errV_zero]
              go_wp2
              go_ret
              exact ⟨by simp, below_call (HB.out.trans (hBr.mono HB.out.size)) hb5⟩
            · have hiL : i < L.length := by have := HL.out; omega
              have e1 : ((i + 1 : Nat) : Int) - 1 = (i : Int) := by omega
              rw [e1]
              obtain ⟨b2, off2, hk2, rfl, hq1, hq2, hq3⟩ := (HLR.out.below hBr).part (k := i) (by omega)
              have HMEM := Lib.hid (List.getElem_mem hk2)
              obtain ⟨p, hP⟩ : ∃ p, L[i] = p := ⟨_, rfl⟩
              have HPP := Lib.hid hP
              rw [hP] at hq1 hq2 hq3 HMEM
              clear hP e1
              obtain ⟨pa, pm, pd⟩ := p
              simp only at hq1 hq2 hq3
              have hiM : i < M := by omega
              have hwi : IntKind.i64.wrap ((i : Int) - 1) = (i : Int) - 1 := IntWalk.i64_in _ (by constructor <;> omega)
              go_wp2_with (at_builtin; refine wp_append_part wr rfl (.tmp 75) (.tmp 80) rfl wo wo.heap.size (.slice A2 k c2) m (by rfl) hO (pa, pm, pd) rfl (by rw [← HKM.out]; omega) hBr.size hBr ?_; intro A4 c4 w4 ho4 _ _ hB4 _; rw [← HKM.out] at ho4; rw [← HKM.out])
              go_roundw
              case rel => exact ⟨i, m ++ [(pa, pm, pd)], k + 1, A4, c4, by omega, rfl, rfl, by rw [List.length_append, ← HKM.out]; rfl, by omega, ho4, fun q hq => by
                rcases List.mem_append.1 hq with h | h
                · exact HIN.out q h
                · rw [List.mem_singleton.1 h]; exact HMEM.out, fun j h h2 => by
                by_cases e : j = i
                · subst e
                  rw [HPP.out]
                  exact List.mem_append_right _ (List.mem_singleton.2 rfl)
                · exact List.mem_append_left _ (HALL.out j h (by omega)), hB4⟩
              case measure => simp [intOf]
end Go.Proofs.Ytbmajajndckfoaa
