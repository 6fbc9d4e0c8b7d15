/- The walk of the law CidrOne. -/
import Derived.Test.YtfgpppgehbpblaaCidrFew
import Derived.Test.YtfgpppgehbpblaaLawIn
import Derived.Test.YtfgpppgehbpblaaPRow2
namespace Go.Proofs.Ytfgpppgehbpblaa
open Go.RowKit Px
theorem rev_snoc {α : Type} (xs : List α) (q : Nat) (h : q < xs.length) : xs.reverse.take (xs.length - q) = xs.reverse.take (xs.length - (q + 1)) ++ [xs[q]] := by
  have h1 : xs.length - (q + 1) < xs.reverse.length := by simp; omega
  have e : xs.length - q = xs.length - (q + 1) + 1 := by omega
  rw [e, List.take_succ_eq_append_getElem h1, List.getElem_reverse]
  congr 2
  congr 1
  omega
set_option maxHeartbeats 4000000 in
theorem cidrOne_any (A : Option Addr) (n c : Nat) (xs : List (Int × Int)) (kk : Int) (w : World) (hr : Rds w 2 A n (pc xs)) (hn : n ≤ maxLen) :
    Calls Try.prog 4 #[.slice A n c, .int .i64 kk] w fun e w' => e = .returned (.bool true) ∧ Below w.heap.size w w' := by
  have hB := Below.refl w.heap.size w
  obtain rfl : n = xs.length := hr.plen
  have HN := Lib.hid hn
  by_cases hx : fewE xs = 0
  · have HX := Lib.hid hx
    obtain ⟨l1, e1⟩ := fewE_ok hx
    obtain ⟨v1, v2, _⟩ := few_valid e1
    obtain ⟨r1, r2⟩ := few_reverse e1
    have HXR := Lib.hid (fewE_mk (xs := xs.reverse) (by simpa using l1) r1)
    have HFR := Lib.hid r2
    have HXF := Lib.hid (fewE_mk (xs := fewI xs) (by omega) v1)
    have HFF := Lib.hid (few_few e1)
    have HMORE : Hid (∀ z ∈ xs, errP (fewI xs ++ [z]) = 0 ∧ fewI (fewI xs ++ [z]) = fewI xs) := Lib.hid (fun z hz => few_more e1 hz)
    have hfl : (fewI xs).length ≤ 32 := by omega
    have hlx : xs.length ≤ 32 := l1
    have HRL := Lib.hid (show xs.reverse.length = xs.length from List.length_reverse)
    clear hx l1 e1 v1 v2 r1 r2 hn
    generalize hF : fewI xs = F at *
    have HF := Lib.hid hF
    clear hF
    have HFN : Hid (F.length ≤ maxLen) := Lib.hid (by unfold maxLen; omega)
    go_enter Try.func4, Try.ntmps4
    go_wp2_with (go_at_call 16; refine (cidrFact_any _).mono ?_; rintro e w1 ⟨rfl, hb⟩; replace hB := below_call hB hb; clear hb)
    (with_reducible refine (fewest_ok _ _ _ xs _ HN.out (hr.below hB) HX.out).mono ?_)
    rintro e w2 ⟨A1, c1, rfl, ho, hb⟩
    replace hB := below_call hB hb
    rw [HF.out] at ho ⊢
    have hrf := ho.rds
    clear hb ho
    go_wp2_with fail
    go_loopw [8, 9] (fun v i wr => ∃ (q : Nat) (A2 : Option Addr) (c2 : Nat), q ≤ xs.length ∧ i = .int .i64 ((q : Int) - 1) ∧ v = .slice A2 (xs.length - q) c2 ∧ OwnP wr w2.heap.size (.slice A2 (xs.length - q) c2) (xs.reverse.take (xs.length - q)) ∧ Below w2.heap.size w2 wr) (fun _ i _ => (intOf i + 1).toNat)
    case atStart => exact ⟨xs.length, none, 0, Nat.le_refl _, rfl, by simp, by simp; exact ⟨rfl, .inl ⟨rfl, rfl⟩⟩, Below.refl _ _⟩
    case round =>
      obtain ⟨q, A2, c2, hq, rfl, rfl, ho2, hB2⟩ := hrel
      rcases Nat.eq_zero_or_pos q with rfl | hq0
      · rw [Nat.sub_zero, ← HRL.out, List.take_length] at ho2
        rw [Nat.sub_zero]
        rw [HRL.out] at ho2
        have hrt := ho2.rds
        have hB3 := below_call hB hB2
        have hrf3 := hrf.below hB2
        clear ho2 hB2
        have hF0 : F.length ≤ 32 := hfl
        go_wp2_with fail
        (with_reducible refine (fewest_ok _ _ _ xs.reverse _ HN.out hrt HXR.out).mono ?_)
        rintro e w4 ⟨A3, c3, rfl, ho3, hb⟩
        rw [HFR.out] at ho3 ⊢
        replace hB3 := below_call hB3 hb
        have hs4 : w.heap.size ≤ w4.heap.size := hB3.size
        replace hrf3 := hrf3.below hb
        have hra := ho3.rds
        clear hb ho3 hrt
        go_wp2_with fail
        (with_reducible refine (fewest_ok _ _ _ F _ HFN.out hrf3 HXF.out).mono ?_)
        rintro e w5 ⟨A4, c4, rfl, ho4, hb⟩
        rw [HFF.out] at ho4 ⊢
        have hBb := hb
        replace hB3 := below_call hB3 hb
        have hra5 := hra.below hb
        have hrf5 := hrf3.below hb
        have hrb5 := ho4.rds
        clear hb
        go_wp2_with fail
        (with_reducible refine (prefixes_any _ _ _ _ _ _ F F _ hra5 hrf5 HFN.out HFN.out).mono ?_)
        rintro e w6 ⟨rfl, q1, rfl⟩
        go_wp2_with fail
        (with_reducible refine (prefixes_any _ _ _ _ _ _ F F _ (hrb5.drewN q1) (hrf5.drewN q1) HFN.out HFN.out).mono ?_)
        rintro e w7 ⟨rfl, q2, rfl⟩
        have hG : Grew w5 ((w5.drewN q1).drewN q2) := ((Grew.refl w5).drewN q1).drewN q2
        generalize (w5.drewN q1).drewN q2 = w8 at *
        have hB8 := below_call hB3 hG.below
        have ho8 := ho4.mono hG
        have hBb8 : Below w4.heap.size w4 w8 := below_call hBb hG.below
        clear hra hra5 hrf5 hrb5 hrf ho4
        rcases hin : inB kk 0 ((xs.length : Int) - 1) with _ | _
        · go_wp2_with (go_at_call 13; refine (in_any _ _ _ _).mono ?_; rintro e w' ⟨rfl, rfl⟩)
          go_ret
          exact ⟨rfl, hB8⟩
        · obtain ⟨k0, k1⟩ := inB_true.1 hin
          obtain ⟨k, rfl⟩ := Int.eq_ofNat_of_zero_le k0
          have hk : k < xs.length := by omega
          by_cases h32 : F.length = 32
          · have hb32 : ((F.length : Int) == 32) = true := by rw [beq_iff_eq]; omega
            clear h32
            go_wp2_with (go_at_call 13; refine (in_any _ _ _ _).mono ?_; rintro e w' ⟨rfl, rfl⟩)
            go_ret
            exact ⟨rfl, hB8⟩
          · have hb32 : ((F.length : Int) == 32) = false := by rw [beq_eq_false_iff_ne]; omega
            have hF31 : F.length ≤ 31 := by omega
            clear h32
            obtain ⟨b, off, hk', rfl, hx1, hx2⟩ := (hr.below hB8).pfx hk
            obtain ⟨m1, m2⟩ := HMORE.out _ (List.getElem_mem hk')
            have HM1 := Lib.hid (fewE_mk (xs := F ++ [xs[k]]) (by simp; omega) m1)
            have HM2 := Lib.hid m2
            have HML : Hid ((F ++ [xs[k]]).length = F.length + 1) := Lib.hid (by simp)
            clear m1 m2
            obtain ⟨x, hX⟩ : ∃ x, xs[k] = x := ⟨_, rfl⟩
            rw [hX] at hx1 hx2 HM1 HM2 HML
            clear hX
            go_wp2_with (first
              | (go_at_call 13; refine (in_any _ _ _ _).mono ?_; rintro e w' ⟨rfl, rfl⟩)
              | (at_builtin; refine wp_append_pfx _ rfl (.tmp 82) (.tmp 87) rfl w4.heap.size (.slice A4 F.length c4) F rfl ho8 x rfl (by omega) hBb8.size ?_; intro A5 c5 w9 ho9 hb9))
            have hr9 := ho9.rds
            have hB9 : Below w4.heap.size w4 w9 := hBb8.trans hb9
            have hrf9 := hrf3.below hB9
            have hBz : Below w.heap.size w w9 := hB8.trans (hb9.mono hs4)
            (with_reducible refine (fewest_ok _ _ _ (F ++ [x]) _ (by unfold maxLen; omega) hr9 HM1.out).mono ?_)
            rintro e w10 ⟨A6, c6, rfl, ho10, hb⟩
            rw [HM2.out] at ho10 ⊢
            have hBz2 := below_call hBz hb
            have hr10 := ho10.rds
            have hrf10 := hrf9.below hb
            clear hb ho10
            go_wp2_with fail
            (with_reducible refine (prefixes_any _ _ _ _ _ _ F F _ hr10 hrf10 HFN.out HFN.out).mono ?_)
            rintro e w11 ⟨rfl, q3, rfl⟩
            go_wp2
            go_ret
            exact ⟨rfl, below_drewN hBz2 q3⟩
      · obtain ⟨p, rfl⟩ : ∃ p, q = p + 1 := ⟨q - 1, by omega⟩
        have hp : p < xs.length := by omega
        obtain ⟨b, off, hk', rfl, hx1, hx2⟩ := (hr.below (below_call hB hB2)).pfx hp
        have HSN := Lib.hid (rev_snoc xs p hp)
        have HTL : Hid ((xs.reverse.take (xs.length - (p + 1))).length = xs.length - (p + 1)) := Lib.hid (by rw [List.length_take, HRL.out]; omega)
        have hpc : ((p + 1 : Nat) : Int) - 1 = (p : Int) := by omega
        have hpc0 : 0 ≤ (p : Int) := by omega
        rw [hpc]
        obtain ⟨x, hX⟩ : ∃ x, xs[p] = x := ⟨_, rfl⟩
        rw [hX] at hx1 hx2 HSN
        clear hX
        go_wp2_with ((at_builtin; refine wp_append_pfx _ rfl (.tmp 35) (.tmp 40) rfl w2.heap.size (.slice A2 (xs.length - (p + 1)) c2) (xs.reverse.take (xs.length - (p + 1))) rfl ho2 x rfl (by rw [HTL.out]; omega) hB2.size ?_; intro A3 c3 w3 ho3 hb3; rw [← HSN.out] at ho3))
        go_roundw
        case rel => exact ⟨p, A3, c3, by omega, rfl, slice_eq (by first | (rw [HTL.out]; omega) | omega), by
          rw [HTL.out, show xs.length - (p + 1) + 1 = xs.length - p from by omega] at ho3; exact ho3, hB2.trans hb3⟩
        case measure => first | (simp [intOf]; done) | (simp [intOf]; omega)
  · obtain ⟨k, HK⟩ : ∃ k, Hid (fewE xs = k) := ⟨_, Lib.hid rfl⟩
    have HX : Hid (k ≠ 0) := Lib.hid (by rw [← HK.out]; exact hx)
    clear hx
    go_enter Try.func4, Try.ntmps4
    go_wp2_with (go_at_call 16; refine (cidrFact_any _).mono ?_; rintro e w1 ⟨rfl, hb⟩; replace hB := below_call hB hb; clear hb)
    (with_reducible refine (fewest_bad _ _ _ xs _ _ HN.out (hr.below hB) HK.out HX.out).mono ?_)
    rintro e w2 ⟨rfl, hb⟩
    replace hB := below_call hB hb
    clear hb
    go_wp2
    go_ret
    exact ⟨rfl, hB⟩
end Go.Proofs.Ytfgpppgehbpblaa
