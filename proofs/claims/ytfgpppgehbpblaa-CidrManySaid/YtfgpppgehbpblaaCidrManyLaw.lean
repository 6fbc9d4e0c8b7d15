/- The walk of the law CidrMany. -/
import Derived.Test.YtfgpppgehbpblaaCidrFew
import Derived.Test.YtfgpppgehbpblaaPRow2
namespace Go.Proofs.Ytfgpppgehbpblaa
open Go.RowKit Px
set_option maxHeartbeats 1000000 in
theorem cidrMany_any (A : Option Addr) (n c : Nat) (xs : List (Int × Int)) (B : Option Addr) (m d : Nat) (ys : List (Int × Int)) (w : World) (hr : Rds w 2 A n (pc xs)) (hn : n ≤ maxLen) (hs : Rds w 2 B m (pc ys)) (hm : m ≤ maxLen) :
    Calls Try.prog 6 #[.slice A n c, .slice B m d] w fun e w' => e = .returned (.bool true) ∧ Below w.heap.size w w' := by
  have hB := Below.refl w.heap.size w
  obtain rfl : n = xs.length := hr.plen
  obtain rfl : m = ys.length := hs.plen
  have HN := Lib.hid hn
  have HM := Lib.hid hm
  clear hn hm
  by_cases hx : fewE xs = 0
  · have HX := Lib.hid hx
    by_cases hy : fewE ys = 0
    · have HY := Lib.hid hy
      obtain ⟨l1, e1⟩ := fewE_ok hx
      obtain ⟨l2, e2⟩ := fewE_ok hy
      obtain ⟨e3, j1, j2, j3, j4⟩ := many_join e1 e2
      obtain ⟨p1, p2⟩ := many_le e1
      obtain ⟨p3, p4⟩ := many_le e2
      by_cases hsum : (32 : Int) < (xs.length : Int) + (ys.length : Int)
      · clear hx hy e1 e2 e3 j1 j2 j3 j4
        generalize hu : manyI xs = u at *
        generalize hv : manyI ys = v at *
        have HU := Lib.hid hu
        have HV := Lib.hid hv
        clear hu hv
        go_enter Try.func6, Try.ntmps6
        go_wp2_with (go_at_call 16; refine (cidrFact_any _).mono ?_; rintro e w1 ⟨rfl, hb⟩; replace hB := below_call hB hb; clear hb)
        (with_reducible refine (many_ok _ _ _ xs _ HN.out (hr.below hB) HX.out).mono ?_)
        rintro e w2 ⟨rfl, hb⟩
        replace hB := below_call hB hb
        clear hb
        rw [HU.out]
        go_wp2_with fail
        (with_reducible refine (many_ok _ _ _ ys _ HM.out (hs.below hB) HY.out).mono ?_)
        rintro e w3 ⟨rfl, hb⟩
        replace hB := below_call hB hb
        clear hb
        rw [HV.out]
        go_wp2
        go_ret
        exact ⟨rfl, hB⟩
      · have HZ := Lib.hid (fewE_mk (xs := xs ++ ys) (by simp; omega) e3)
        have HL : Hid ((xs ++ ys).length ≤ maxLen) := Lib.hid (by simp; unfold maxLen; omega)
        clear hx hy e1 e2 e3
        generalize hu : manyI xs = u at *
        generalize hv : manyI ys = v at *
        generalize hz : manyI (xs ++ ys) = z at *
        have HU := Lib.hid hu
        have HV := Lib.hid hv
        have HZZ := Lib.hid hz
        clear hu hv hz
        go_enter Try.func6, Try.ntmps6
        go_wp2_with (go_at_call 16; refine (cidrFact_any _).mono ?_; rintro e w1 ⟨rfl, hb⟩; replace hB := below_call hB hb; clear hb)
        (with_reducible refine (many_ok _ _ _ xs _ HN.out (hr.below hB) HX.out).mono ?_)
        rintro e w2 ⟨rfl, hb⟩
        replace hB := below_call hB hb
        clear hb
        rw [HU.out]
        go_wp2_with fail
        (with_reducible refine (many_ok _ _ _ ys _ HM.out (hs.below hB) HY.out).mono ?_)
        rintro e w3 ⟨rfl, hb⟩
        replace hB := below_call hB hb
        clear hb
        rw [HV.out]
        have hrx := hr.below hB
        go_wp2_with (first
          | (at_builtin; refine wp_append_pfxs _ rfl (.tmp 46) (.tmp 47) rfl w3.heap.size (.slice none 0 0) [] rfl (ownsRow_nil _ _ _ _) A xs.length c xs rfl hrx (by simp; omega) (Nat.le_refl _) ?_; intro A1 c1 w4 ho1 hb1; simp only [List.length_nil, Nat.zero_add, List.nil_append] at ho1 ⊢; have hB4 := below_call hB hb1; have hsy := hs.below hB4)
          | (at_builtin; refine wp_append_pfxs _ rfl (.tmp 49) (.tmp 50) rfl w3.heap.size (.slice A1 xs.length c1) xs rfl ho1 B ys.length d ys rfl hsy (by omega) hb1.size ?_; intro A2 c2 w5 ho2 hb2; have hB5 := below_call hB (hb1.trans hb2)))
        have hr2 := ho2.rds
        (with_reducible refine (many_ok _ _ _ (xs ++ ys) _ (by have := HL.out; simpa using this) hr2 HZ.out).mono ?_)
        rintro e w6 ⟨rfl, hb⟩
        replace hB := below_call hB5 hb
        rw [HZZ.out]
        clear hb
        go_wp2
        go_ret
        exact ⟨rfl, hB⟩
    · obtain ⟨u, HU⟩ : ∃ u, Hid (manyI xs = u) := ⟨_, Lib.hid rfl⟩
      obtain ⟨k, HK⟩ : ∃ k, Hid (fewE ys = k) := ⟨_, Lib.hid rfl⟩
      have HY : Hid (k ≠ 0) := Lib.hid (by rw [← HK.out]; exact hy)
      clear hx hy
      go_enter Try.func6, Try.ntmps6
      go_wp2_with (go_at_call 16; refine (cidrFact_any _).mono ?_; rintro e w1 ⟨rfl, hb⟩; replace hB := below_call hB hb; clear hb)
      (with_reducible refine (many_ok _ _ _ xs _ HN.out (hr.below hB) HX.out).mono ?_)
      rintro e w2 ⟨rfl, hb⟩
      replace hB := below_call hB hb
      clear hb
      rw [HU.out]
      go_wp2_with fail
      (with_reducible refine (many_bad _ _ _ ys _ _ HM.out (hs.below hB) HK.out HY.out).mono ?_)
      rintro e w3 ⟨rfl, hb⟩
      replace hB := below_call hB hb
      clear hb
      go_wp2
      go_ret
      exact ⟨rfl, hB⟩
  · obtain ⟨k, HK⟩ : ∃ k, Hid (fewE xs = k) := ⟨_, Lib.hid rfl⟩
    have HX : Hid (k ≠ 0) := Lib.hid (by rw [← HK.out]; exact hx)
    clear hx
    by_cases hy : fewE ys = 0
    · have HY := Lib.hid hy
      obtain ⟨v, HV⟩ : ∃ v, Hid (manyI ys = v) := ⟨_, Lib.hid rfl⟩
      clear hy
      go_enter Try.func6, Try.ntmps6
      go_wp2_with (go_at_call 16; refine (cidrFact_any _).mono ?_; rintro e w1 ⟨rfl, hb⟩; replace hB := below_call hB hb; clear hb)
      (with_reducible refine (many_bad _ _ _ xs _ _ HN.out (hr.below hB) HK.out HX.out).mono ?_)
      rintro e w2 ⟨rfl, hb⟩
      replace hB := below_call hB hb
      clear hb
      go_wp2_with fail
      (with_reducible refine (many_ok _ _ _ ys _ HM.out (hs.below hB) HY.out).mono ?_)
      rintro e w3 ⟨rfl, hb⟩
      replace hB := below_call hB hb
      clear hb
      rw [HV.out]
      go_wp2
      go_ret
      exact ⟨rfl, hB⟩
    · obtain ⟨k', HK'⟩ : ∃ k, Hid (fewE ys = k) := ⟨_, Lib.hid rfl⟩
      have HY : Hid (k' ≠ 0) := Lib.hid (by rw [← HK'.out]; exact hy)
      clear hy
      go_enter Try.func6, Try.ntmps6
      go_wp2_with (go_at_call 16; refine (cidrFact_any _).mono ?_; rintro e w1 ⟨rfl, hb⟩; replace hB := below_call hB hb; clear hb)
      (with_reducible refine (many_bad _ _ _ xs _ _ HN.out (hr.below hB) HK.out HX.out).mono ?_)
      rintro e w2 ⟨rfl, hb⟩
      replace hB := below_call hB hb
      clear hb
      go_wp2_with fail
      (with_reducible refine (many_bad _ _ _ ys _ _ HM.out (hs.below hB) HK'.out HY.out).mono ?_)
      rintro e w3 ⟨rfl, hb⟩
      replace hB := below_call hB hb
      clear hb
      go_wp2
      go_ret
      exact ⟨rfl, hB⟩
end Go.Proofs.Ytfgpppgehbpblaa
