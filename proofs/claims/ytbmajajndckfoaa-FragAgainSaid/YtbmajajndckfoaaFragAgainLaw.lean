/- Parts of parts are parts: ferryhythelaw1.FragAgain returns true. -/
import Derived.Test.YtbmajajndckfoaaFragAgn
import Derived.Test.YtbmajajndckfoaaFragFact
import Derived.Test.YtbmajajndckfoaaLawIn
namespace Go.Proofs.Ytbmajajndckfoaa
open Go.RowKit
attribute [local go_sem ↓] Go.wp_at_zero Go.wp_at_succ
/-- All parts, of which one is cut again, go together with the text. -/
theorem again_all {t : ByteArray} {sz M k : Nat} {less : Int} (hC : Cuts t sz M) (s1 : 1 ≤ sz) (ht : t.size ≤ 200) (hk : k < M) (he : againE (partAt t sz k) less = 0) (hl : (againV (partAt t sz k) less ++ (cutL t sz M).take k ++ (cutL t sz M).drop (k + 1)).length ≤ 40) :
    joinE (againV (partAt t sz k) less ++ (cutL t sz M).take k ++ (cutL t sz M).drop (k + 1)) = 0 ∧ joinT (againV (partAt t sz k) less ++ (cutL t sz M).take k ++ (cutL t sz M).drop (k + 1)) = t := by
  have hok : okP (partAt t sz k) := (gin_of (part_of (hC.lt hk)) ht).ok
  have he2 := he
  unfold againE at he2
  rw [if_pos hok] at he2
  obtain ⟨sz', rfl, s1', _, _, _, hV, hC'⟩ := cutE_ok he2
  have hA : againV (partAt t sz k) (sz' : Int) = (cutL (partAt t sz k).2.2 sz' (cutM (partAt t sz k).2.2 sz')).map (shift (partAt t sz k)) := by
    unfold againV
    rw [if_pos he, hV]
  have hw := again_whole hC s1 hk hC' s1'
  rw [hA] at hl ⊢
  rw [List.append_assoc] at hl ⊢
  refine (join_of hl ht fun p hp => ?_).1 hw
  refine gin_of ?_ ht
  rcases List.mem_append.1 hp with h | h
  · obtain ⟨q, hq, rfl⟩ := List.mem_map.1 h
    exact shift_of (part_of (hC.lt hk)) (cut_of hC' q hq)
  · exact but_of hC p h
theorem againV_len {p : Pt} {less : Int} (he : againE p less = 0) : (againV p less).length ≤ 40 := by
  have he2 := he
  unfold againE at he2
  split at he2
  · obtain ⟨sz', rfl, s1', _, _, hM, hV, _⟩ := cutE_ok he2
    unfold againV
    rw [if_pos he, hV, List.length_map, cutL_len]
    exact hM
  · omega
set_option maxRecDepth 100000 in
set_option maxHeartbeats 4000000 in
theorem fragAgain_any (t : ByteArray) (size k less : Int) (w : World) (hm : t.size ≤ maxLen) :
    Calls Try.prog 7 #[.string t, .int .i64 size, .int .i64 k, .int .i64 less] w fun e w' => e = .returned (.bool true) ∧ Below w.heap.size w w' := by
  have hB := Below.refl w.heap.size w
  have HM := Lib.hid hm
  clear hm
  by_cases he : cutE t size = 0
  rotate_left
  · have HV := Lib.hid (cutV_bad he)
    have HE := Lib.hid (errV_ne he)
    clear he
    go_enter Try.func7, Try.ntmps7
    go_wp2_with (go_at_call 18; (with_reducible refine (fragFact_any _).mono ?_); rintro e w1 ⟨rfl, hb⟩; replace hB := below_call hB hb; clear hb)
    (with_reducible refine (cut_law _ _ _ HM.out).mono ?_)
    rw [HV.out]
    rintro e w2 ⟨A1, c1, rfl, _, hb⟩
    replace hB := below_call hB hb
    clear hb
    rw [HE.out]
    go_wp2
    go_ret
    exact ⟨rfl, hB⟩
  · obtain ⟨sz, rfl, s1, s2, ht, hM, hV, hC⟩ := cutE_ok he
    have HV := Lib.hid hV
    have HC := Lib.hid hC
    have HE := Lib.hid he
    have HT := Lib.hid ht
    have hM1 := hC.one
    obtain ⟨M, hMM⟩ : ∃ M, cutM t sz = M := ⟨_, rfl⟩
    rw [hMM] at hM hV HV hC HC hM1
    have HL : Hid ((cutL t sz M).length = M) := Lib.hid (cutL_len _ _ _)
    clear he hV hC hMM ht
    rcases hin : inB k 0 ((M : Int) - 1) with _ | _
    · have HIN := Lib.hid hin
      clear hin
      have hMw : IntKind.i64.wrap ((M : Int) - 1) = (M : Int) - 1 := IntWalk.i64_in _ (by constructor <;> omega)
      go_enter Try.func7, Try.ntmps7
      go_wp2_with (go_at_call 18; (with_reducible refine (fragFact_any _).mono ?_); rintro e w1 ⟨rfl, hb⟩; replace hB := below_call hB hb; clear hb)
      (with_reducible refine (cut_law _ _ _ HM.out).mono ?_)
      rw [HV.out, HE.out, errV_zero]
      rintro e w2 ⟨A1, c1, rfl, ho, hb⟩
      rw [HL.out]
      replace hB := below_call hB hb
      clear hb ho
      go_wp2_with (go_at_call 12; (with_reducible refine (in_any _ _ _ _).mono ?_); rintro e w3 ⟨rfl, rfl⟩; rw [HIN.out])
      go_ret
      exact ⟨rfl, hB⟩
    · obtain ⟨k0, k1⟩ := inB_true.1 hin
      obtain ⟨kn, rfl⟩ : ∃ kn : Nat, k = (kn : Int) := ⟨k.toNat, by omega⟩
      have HIN := Lib.hid hin
      have hkM : kn < M := by omega
      have hMw : IntKind.i64.wrap ((M : Int) - 1) = (M : Int) - 1 := IntWalk.i64_in _ (by constructor <;> omega)
      have HALL := Lib.hid (fun he hl => again_all (k := kn) (less := less) HC.out s1 HT.out hkM he hl)
      have HPS : Hid ((partAt t sz kn).2.2.size ≤ maxLen) := Lib.hid (by
        have := (part_of (HC.out.lt hkM)).le
        have := HT.out
        unfold maxLen
        omega)
      have hkL : kn < (cutL t sz M).length := by rw [HL.out]; exact hkM
      have HPK : Hid ((cutL t sz M)[kn] = partAt t sz kn) := Lib.hid (cutL_get hkL)
      clear hin
      generalize cutL t sz M = L at *
      obtain ⟨p, hP⟩ : ∃ p, partAt t sz kn = p := ⟨_, rfl⟩
      rw [hP] at HALL HPS HPK
      clear hP
      go_enter Try.func7, Try.ntmps7
      go_wp2_with (go_at_call 18; (with_reducible refine (fragFact_any _).mono ?_); rintro e w1 ⟨rfl, hb⟩; replace hB := below_call hB hb; clear hb)
      (with_reducible refine (cut_law _ _ _ HM.out).mono ?_)
      rw [HV.out, HE.out, errV_zero]
      rintro e w2 ⟨A1, c1, rfl, ho, hb⟩
      rw [HL.out] at ho ⊢
      replace hB := below_call hB hb
      have hL := ho.rds
      obtain ⟨b2, off2, hk2, rfl, hq1, hq2, hq3⟩ := hL.part (k := kn) hkM
      rw [HPK.out] at hq1 hq2 hq3
      have HB := Lib.hid hB
      have HLR := Lib.hid hL
      obtain ⟨_, _, _, hc1, hc2⟩ := ho.shape
      rw [HL.out] at hc1
      clear hb ho hB hL hk2
      go_wp2_with (go_at_call 12; (with_reducible refine (in_any _ _ _ _).mono ?_); rintro e w3 ⟨rfl, rfl⟩; rw [HIN.out])
      (with_reducible refine (again_law p _ _ HPS.out).mono ?_)
      rintro e w3 ⟨A3, c3, rfl, ho3, hb3⟩
      have hB3 := below_call HB.out hb3
      have hL3 := HLR.out.below hb3
      clear hq1 hq2 hq3
      by_cases hae : againE p less = 0
      rotate_left
      · have hnil : againV p less = [] := by unfold againV; rw [if_neg hae]
        rw [hnil, errV_ne hae]
        go_wp2
        go_ret
        exact ⟨rfl, hB3⟩
      · rw [hae, errV_zero]
        have HJ := Lib.hid (HALL.out hae)
        have hVl := againV_len hae
        clear hae HALL
        generalize againV p less = V at *
        have HR3 := Lib.hid ho3.rds
        have HB3 := Lib.hid hB3
        have HL3 := Lib.hid hL3
        clear hb3 ho3 hB3 hL3
        have hk1c : (kn : Int) + 1 ≤ (L.length : Int) := by omega
        have hwk : IntKind.i64.wrap ((kn : Int) + 1) = (kn : Int) + 1 := IntWalk.i64_in _ (by constructor <;> omega)
        by_cases hcc : c1 = kn + 1
        all_goals
          go_wp2_with (first | (at_builtin; refine wp_append_parts w3 rfl (.tmp 55) (.tmp 56) rfl w3 w3.heap.size (.slice none 0 0) [] (by rfl) (OwnQ.nil_ _ _) A3 V.length c3 V rfl HR3.out (by simp; omega) (Nat.le_refl _) (Below.refl _ _) ?_; intro A4 c4 w4 ho4 _ _ hB4 _; simp only [List.length_nil, Nat.zero_add, List.nil_append] at ho4 ⊢; have hL4 := HL3.out.below hB4) | (at_builtin; refine wp_append_parts w4 rfl (.tmp 58) (.tmp 61) rfl w3 w3.heap.size (.slice A4 V.length c4) V (by rfl) ho4 _ kn _ (L.take kn) rfl (hL4.ptake (Nat.le_of_lt hkM)) (by omega) hB4.size hB4 ?_; intro A5 c5 w5 ho5 _ _ hB5 _; have hL5 := HL3.out.below hB5) | (at_builtin; refine wp_append_parts w5 rfl (.tmp 63) (.tmp 67) rfl w3 w3.heap.size (.slice A5 (V.length + kn) c5) (V ++ L.take kn) (by rfl) ho5 _ (L.length - (kn + 1)) _ (L.drop (kn + 1)) rfl (hL5.pdrop (k := kn + 1) hkM _ (fun h => by first | rfl | omega)) (by rw [List.length_append, List.length_take]; omega) hB5.size hB5 ?_; intro A6 c6 w6 ho6 _ _ hB6 _; have hNN : (V ++ L.take kn).length + (L.length - (kn + 1)) = (V ++ L.take kn ++ L.drop (kn + 1)).length := (by conv => rhs; rw [List.length_append, List.length_drop]); rw [hNN] at ho6 ⊢; have hQ9 : (V ++ L.take kn ++ L.drop (kn + 1)).length ≤ 1000 := (by rw [← hNN, List.length_append, List.length_take]; omega); clear hNN; generalize V ++ L.take kn ++ L.drop (kn + 1) = Q at *))
          have hQm : Q.length ≤ maxLen := by unfold maxLen; omega
          (with_reducible refine (join_any _ _ _ Q _ ho6.rds hQm).mono ?_)
          rintro e w7 ⟨rfl, hb7⟩
          have HB7 := Lib.hid (below_call (HB3.out.trans (hB6.mono HB3.out.size)) hb7)
          clear hb7 hB6 hB5 hB4 ho4 ho5 ho6
          by_cases h40 : Q.length ≤ 40
          · obtain ⟨j1, j2⟩ := HJ.out h40
            rw [j1, j2, errV_zero]
            clear j1 j2
            go_wp2
            go_ret
            exact ⟨by simp, HB7.out⟩
          · obtain ⟨j1, j2⟩ := join_full (ps := Q) (by omega)
            rw [j1, j2, errV_ne (by omega)]
            clear j1 j2
            go_wp2
            go_ret
            exact ⟨by simp, HB7.out⟩
end Go.Proofs.Ytbmajajndckfoaa
