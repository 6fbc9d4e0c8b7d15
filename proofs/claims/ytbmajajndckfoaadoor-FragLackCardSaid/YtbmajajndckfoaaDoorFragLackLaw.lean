/- What lacks is seen: ferryhythelaw1.FragLack returns true. -/
import Derived.Test.YtbmajajndckfoaaDoorFragFact
import Derived.Test.YtbmajajndckfoaaDoorLawIn
import Derived.Test.YtbmajajndckfoaaDoorErrV
namespace Go.Proofs.YtbmajajndckfoaaDoor
open Go.RowKit
attribute [local go_sem ↓] Go.wp_at_zero Go.wp_at_succ
theorem lack_all {t : ByteArray} {sz M k : Nat} (hC : Cuts t sz M) (s1 : 1 ≤ sz) (ht : t.size ≤ 200) (hk : k < M) (hM : M ≤ 40) :
    joinE ((cutL t sz M).take k ++ (cutL t sz M).drop (k + 1)) = 5 ∧ joinT ((cutL t sz M).take k ++ (cutL t sz M).drop (k + 1)) = ⟨#[]⟩ := by
  have h5 : joinE ((cutL t sz M).take k ++ (cutL t sz M).drop (k + 1)) = 5 := by
    refine (join_of (t := t) ?_ ht fun p hp => gin_of (but_of hC p hp) ht).2 (but_lacks hC s1 hk)
    have := cutL_len t sz M
    show ((cutL t sz M).take k ++ (cutL t sz M).drop (k + 1)).length ≤ 40
    simp only [List.length_append, List.length_take, List.length_drop]
    omega
  exact ⟨h5, by unfold joinT; rw [h5, if_neg (by omega)]⟩
set_option maxRecDepth 100000 in
set_option maxHeartbeats 4000000 in
theorem fragLack_any (t : ByteArray) (size k : Int) (w : World) (hm : t.size ≤ maxLen) (hl : LaidW w) :
    Calls Tryd.prog 3 #[.string t, .int .i64 size, .int .i64 k] w fun e w' => e = .returned (.bool true) ∧ Below w.heap.size w w' := by
  have hB := Below.refl w.heap.size w
  have HM := Lib.hid hm
  clear hm
  by_cases he : cutE t size = 0
  rotate_left
  · have HV := Lib.hid (cutV_bad he)
    have HE := Lib.hid (errV_ne he)
    clear he
    go_enter Tryd.func3, Tryd.ntmps3
    go_wp2_with (go_at_call 6; (with_reducible refine (fragFact_any _).mono ?_); rintro e w1 ⟨rfl, hb⟩; replace hB := below_call hB hb; clear hb)
    (with_reducible refine (cut_law _ _ _ HM.out).mono ?_)
    rw [HV.out]
    rintro e w2 ⟨A1, c1, rfl, _, hb⟩
    replace hB := below_call hB hb
    clear hb
    rw [HE.out]
    go_wp2
    go_ret
    exact ⟨rfl, hB⟩
  · obtain ⟨sz, rfl, s1, s2, ht, hM, hV, hC⟩ := cutE_ok he
    have HV := Lib.hid hV
    have HC := Lib.hid hC
    have HE := Lib.hid he
    have HT := Lib.hid ht
    have hM1 := hC.one
    obtain ⟨M, hMM⟩ : ∃ M, cutM t sz = M := ⟨_, rfl⟩
    rw [hMM] at hM hV HV hC HC hM1
    have HL : Hid ((cutL t sz M).length = M) := Lib.hid (cutL_len _ _ _)
    clear he hV hC hMM ht
    rcases hin : inB k 0 ((M : Int) - 1) with _ | _
    · have HIN := Lib.hid hin
      clear hin
      have hMw : IntKind.i64.wrap ((M : Int) - 1) = (M : Int) - 1 := IntWalk.i64_in _ (by constructor <;> omega)
      go_enter Tryd.func3, Tryd.ntmps3
      go_wp2_with (go_at_call 6; (with_reducible refine (fragFact_any _).mono ?_); rintro e w1 ⟨rfl, hb⟩; replace hB := below_call hB hb; clear hb)
      (with_reducible refine (cut_law _ _ _ HM.out).mono ?_)
      rw [HV.out, HE.out, errV_zero]
      rintro e w2 ⟨A1, c1, rfl, ho, hb⟩
      rw [HL.out]
      replace hB := below_call hB hb
      clear hb ho
      go_wp2_with (go_at_call 8; (with_reducible refine (in_any _ _ _ _).mono ?_); rintro e w3 ⟨rfl, rfl⟩; rw [HIN.out])
      go_ret
      exact ⟨rfl, hB⟩
    · obtain ⟨k0, k1⟩ := inB_true.1 hin
      obtain ⟨kn, rfl⟩ : ∃ kn : Nat, k = (kn : Int) := ⟨k.toNat, by omega⟩
      have HIN := Lib.hid hin
      have hkM : kn < M := by omega
      have hMw : IntKind.i64.wrap ((M : Int) - 1) = (M : Int) - 1 := IntWalk.i64_in _ (by constructor <;> omega)
      have HALL := Lib.hid (lack_all HC.out s1 HT.out hkM hM)
      have hkL : kn < (cutL t sz M).length := by rw [HL.out]; exact hkM
      clear hin
      generalize cutL t sz M = L at *
      go_enter Tryd.func3, Tryd.ntmps3
      go_wp2_with (go_at_call 6; (with_reducible refine (fragFact_any _).mono ?_); rintro e w1 ⟨rfl, hb⟩; replace hB := below_call hB hb; clear hb)
      (with_reducible refine (cut_law _ _ _ HM.out).mono ?_)
      rw [HV.out, HE.out, errV_zero]
      rintro e w2 ⟨A1, c1, rfl, ho, hb⟩
      obtain ⟨_, _, hsl, hc1, hc2⟩ := ho.shape
      cases hsl
      have HLR := Lib.hid ho.rds
      replace hB := below_call hB hb
      have HB := Lib.hid hB
      obtain ⟨b2, off2, hk2, rfl, _, _, _⟩ := HLR.out.part (k := kn) hkL
      obtain ⟨M', hM'⟩ : ∃ M', L.length = M' := ⟨_, rfl⟩
      have HLL := Lib.hid hM'
      have HLM : Hid (M' = M) := Lib.hid (by rw [← hM']; exact HL.out)
      rw [hM'] at HLR hkL hc1 ⊢
      have hMM : M' = M := HLM.out
      subst hMM
      clear hb ho hB hM' HL
      have hk1c : (kn : Int) + 1 ≤ (M' : Int) := by omega
      have hwk : IntKind.i64.wrap ((kn : Int) + 1) = (kn : Int) + 1 := IntWalk.i64_in _ (by constructor <;> omega)
      by_cases hcc : c1 = kn + 1
      all_goals
        go_wp2_with (first | (go_at_call 8; (with_reducible refine (in_any _ _ _ _).mono ?_); rintro e w3 ⟨rfl, rfl⟩; rw [HIN.out]) | (at_builtin; refine wp_append_parts w2 rfl (.tmp 38) (.tmp 41) rfl w2 w2.heap.size (.slice none 0 0) [] (by rfl) (OwnQ.nil_ _ _) _ kn _ (L.take kn) rfl (HLR.out.ptake (Nat.le_of_lt hkM)) (by simp; omega) (Nat.le_refl _) (Below.refl _ _) ?_; intro A5 c5 w5 ho5 _ _ hB5 _; simp only [List.length_nil, Nat.zero_add, List.nil_append] at ho5 ⊢; have hL5 := HLR.out.below hB5) | (at_builtin; refine wp_append_parts w5 rfl (.tmp 43) (.tmp 47) rfl w2 w2.heap.size (.slice A5 kn c5) (L.take kn) (by rfl) ho5 _ (M' - (kn + 1)) _ (L.drop (kn + 1)) rfl (hL5.pdrop (k := kn + 1) hkM _ (fun h => by first | rfl | omega)) (by rw [List.length_take]; omega) hB5.size hB5 ?_; intro A6 c6 w6 ho6 _ _ hB6 _; have hNN : (L.take kn).length + (M' - (kn + 1)) = (L.take kn ++ L.drop (kn + 1)).length := (by conv => rhs; rw [List.length_append, List.length_drop, HLL.out]); rw [hNN] at ho6 ⊢; have hQ9 : (L.take kn ++ L.drop (kn + 1)).length ≤ 1000 := (by rw [← hNN, List.length_take]; omega); clear hNN; generalize L.take kn ++ L.drop (kn + 1) = Q at *))
        have hQm : Q.length ≤ maxLen := by unfold maxLen; omega
        (with_reducible refine (join_any _ _ _ Q _ ho6.rds hQm).mono ?_)
        rintro e w7 ⟨rfl, hb7⟩
        have hB7 := below_call (HB.out.trans (hB6.mono HB.out.size)) hb7
        clear hb7 hB6 hB5 ho5 ho6
        rw [HALL.out.1, HALL.out.2]
        go_wp2_with fail
        (with_reducible refine (error_same _ _ (hl.below hB7)).mono ?_)
        rintro e w8 ⟨rfl, hb8⟩
        go_wp2
        go_ret
        exact ⟨rfl, below_call hB7 hb8⟩
end Go.Proofs.YtbmajajndckfoaaDoor
