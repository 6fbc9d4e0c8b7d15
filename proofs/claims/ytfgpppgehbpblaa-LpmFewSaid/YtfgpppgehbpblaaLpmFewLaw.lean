/- The walk of the law LpmFew. -/
import Derived.Test.YtfgpppgehbpblaaLpmHops
import Derived.Test.YtfgpppgehbpblaaCidrFew
import Derived.Test.YtfgpppgehbpblaaLawIn
namespace Go.Proofs.Ytfgpppgehbpblaa
open Go.RowKit Lp Px
set_option maxRecDepth 100000 in
set_option maxHeartbeats 8000000 in
theorem lpmFew_any (A : Option Addr) (n c : Nat) (xs : List (Int × Int)) (z ad : Int) (w : World) (hr : Rds w 2 A n (pc xs)) (hn : n ≤ maxLen) :
    Calls Try.prog 8 #[.slice A n c, .int .i64 z, .int .i64 ad] w fun e w' => e = .returned (.bool true) ∧ Below w.heap.size w w' := by
  have hB := Below.refl w.heap.size w
  obtain rfl : n = xs.length := hr.plen
  have HN := Lib.hid hn
  clear hn
  by_cases hx : fewE xs = 0
  · have HX := Lib.hid hx
    rcases hz : inB z 0 9 with _ | _
    · clear hx
      go_enter Try.func8, Try.ntmps8
      go_wp2_with fail
      (with_reducible refine (lpmFact_any _).mono ?_)
      rintro e w1 ⟨rfl, hb⟩
      replace hB := below_call hB hb
      clear hb
      go_wp2_with fail
      (with_reducible refine (fewest_ok _ _ _ xs _ HN.out (hr.below hB) HX.out).mono ?_)
      rintro e w2 ⟨A1, c1, rfl, _, hb⟩
      replace hB := below_call hB hb
      clear hb
      go_wp2_with ((go_at_call 13; refine (in_any _ _ _ _).mono ?_; rintro e w' ⟨rfl, rfl⟩); rw [hz])
      go_ret
      exact ⟨rfl, hB⟩
    · obtain ⟨z0, z9⟩ := inB_true.1 hz
      obtain ⟨l1, e1⟩ := fewE_ok hx
      obtain ⟨v1, v2, v3⟩ := few_valid e1
      have HV := Lib.hid (errP_all.1 e1)
      have HBX := Lib.hid (fun a => best_hops e1 z0 a)
      obtain ⟨F, hF⟩ : ∃ F, fewI xs = F := ⟨_, rfl⟩
      rw [hF] at v1 v2 v3
      have HV2 := Lib.hid (errP_all.1 v1)
      have HBF := Lib.hid (fun a => best_hops v1 z0 a)
      have HCV := Lib.hid v3
      have HF := Lib.hid hF
      have hfl : F.length ≤ 32 := by omega
      clear hx e1 v1 v3 hF
      go_enter Try.func8, Try.ntmps8
      go_wp2_with fail
      (with_reducible refine (lpmFact_any _).mono ?_)
      rintro e w1 ⟨rfl, hb⟩
      replace hB := below_call hB hb
      clear hb
      go_wp2_with fail
      (with_reducible refine (fewest_ok _ _ _ xs _ HN.out (hr.below hB) HX.out).mono ?_)
      rintro e w2 ⟨A1, c1, rfl, ho, hb⟩
      replace hB := below_call hB hb
      rw [HF.out] at ho ⊢
      have hrf := ho.rds
      clear hb ho
      go_wp2_with ((go_at_call 13; refine (in_any _ _ _ _).mono ?_; rintro e w' ⟨rfl, rfl⟩); rw [hz])
      (with_reducible refine (lpmNew_in w2 w2.heap.size (Nat.le_refl _)).mono ?_)
      rintro e w3 ⟨rfl, hB3, ta⟩
      generalize hta : w2.heap.size + 1 = tba at *
      have hs23 := hB3.size
      go_wp2_with fail
      (with_reducible refine (lpmNew_in w3 w2.heap.size hs23).mono ?_)
      rintro e w4 ⟨rfl, hB4, tb⟩
      have hd : Dis (fun i => i = w2.heap.size ∨ i = tba) (fun i => i = w3.heap.size ∨ i = w3.heap.size + 1) := by
        intro i hi hj
        have := (ta.lows i hi).2
        omega
      replace ta := ta.below hB4
      have hB24 : Below w2.heap.size w2 w4 := below_call hB3 hB4
      generalize w3.heap.size + 1 = tbb at *
      clear hta hB3 hB4
      go_wp2_with fail
      go_loopw [12] (fun i wr => ∃ (k : Nat) (Fa : Nat → Nat → Option Nat) (m : Int) (Sa Sb : Nat → Prop) (rb : Nat) (Fb : Nat → Nat → Option Nat), k ≤ xs.length ∧ i = .int .i64 k ∧ 0 ≤ m ∧ m ≤ k ∧ TabIn w2.heap.size wr tba w2.heap.size Fa (hopsL (xs.take k) z) m Sa ∧ TabIn w2.heap.size wr tbb rb Fb (fun _ _ => -1) 0 Sb ∧ Dis Sa Sb ∧ Below w2.heap.size w2 wr) (fun i _ => xs.length - (intOf i).toNat)
      case atStart => exact ⟨0, _, 0, _, _, _, _, Nat.zero_le _, rfl, by omega, by omega, ta, tb, hd, hB24⟩
      case round =>
        clear ta tb hd hB24
        obtain ⟨k, Fa, m, Sa, Sb, rb, Fb, hk, rfl, hm0, hm1, ta, tb, hd, hB5⟩ := hrel
        by_cases hlt : k < xs.length
        · obtain ⟨b, off, hk', rfl, hx1, hx2⟩ := (hr.below (below_call hB hB5)).pfx hlt
          have HSN := Lib.hid (hopsL_snoc xs z k hk')
          have HC := HV.out _ (List.getElem_mem hk')
          obtain ⟨x, hX⟩ : ∃ x, xs[k] = x := ⟨_, rfl⟩
          rw [hX] at hx1 hx2 HSN HC
          clear hX
          have HE := Lib.hid (setE_zero (h := hopsL (xs.take k) z) (many := m) HC hz (by omega))
          clear HC
          go_wp2_with fail
          (with_reducible refine (set_any _ _ _ _ ta.tab (fun i hi => (ta.lows i hi).2)).mono ?_)
          rintro e w6 ⟨_, s2⟩
          obtain ⟨rfl, S', F', T⟩ := s2 HE.out
          obtain ⟨ta2, hb⟩ := ta.to hB5.size T
          have tb2 := tb.other T.chg hd.symm
          have hd2 := hd.to (fun i hi => (tb.lows i hi).2) T
          have hB6 := hB5.trans hb
          rw [← HSN.out] at ta2
          clear s2 T hb ta tb hd
          go_wp2
          go_roundw
          case rel => exact ⟨k + 1, F', _, S', Sb, rb, Fb, by omega, by go_num, by split <;> omega, by split <;> omega, ta2, tb2, hd2, hB6⟩
          case measure => simp [intOf]; omega
        · obtain rfl : k = xs.length := by omega
          rw [List.take_length] at ta
          have hrf5 := hrf
          obtain ⟨w5, rfl⟩ : ∃ w5 : World, w5 = wr := ⟨_, rfl⟩
          go_wp2_with fail
          go_loopw [13] (fun i wr => ∃ (k : Nat) (Fb : Nat → Nat → Option Nat) (m2 : Int) (Sb : Nat → Prop), k ≤ F.length ∧ i = .int .i64 k ∧ 0 ≤ m2 ∧ m2 ≤ k ∧ TabIn w2.heap.size wr tba w2.heap.size Fa (hopsL xs z) m Sa ∧ TabIn w2.heap.size wr tbb rb Fb (hopsL (F.take k) z) m2 Sb ∧ Dis Sa Sb ∧ Below w2.heap.size w2 wr) (fun i _ => F.length - (intOf i).toNat)
          case atStart => exact ⟨0, _, 0, _, Nat.zero_le _, rfl, by omega, by omega, ta, tb, hd, hB5⟩
          case round =>
            clear ta tb hd hB5
            obtain ⟨k, Fb, m2, Sb, hk, rfl, hm2, hm3, ta, tb, hd, hB6⟩ := hrel
            by_cases hlt : k < F.length
            · obtain ⟨b, off, hk', rfl, hx1, hx2⟩ := (hrf.below hB6).pfx hlt
              have HSN := Lib.hid (hopsL_snoc F z k hk')
              have HC := HV2.out _ (List.getElem_mem hk')
              obtain ⟨x, hX⟩ : ∃ x, F[k] = x := ⟨_, rfl⟩
              rw [hX] at hx1 hx2 HSN HC
              clear hX
              have HE := Lib.hid (setE_zero (h := hopsL (F.take k) z) (many := m2) HC hz (by omega))
              clear HC
              go_wp2_with fail
              (with_reducible refine (set_any _ _ _ _ tb.tab (fun i hi => (tb.lows i hi).2)).mono ?_)
              rintro e w6 ⟨_, s2⟩
              obtain ⟨rfl, S', F', T⟩ := s2 HE.out
              obtain ⟨tb2, hb⟩ := tb.to hB6.size T
              have ta2 := ta.other T.chg hd
              have hd2 := (hd.symm.to (fun i hi => (ta.lows i hi).2) T).symm
              have hB7 := hB6.trans hb
              rw [← HSN.out] at tb2
              clear s2 T hb ta tb hd
              go_wp2
              go_roundw
              case rel => exact ⟨k + 1, F', _, S', by omega, by go_num, by split <;> omega, by split <;> omega, ta2, tb2, hd2, hB7⟩
              case measure => simp [intOf]; omega
            · obtain rfl : k = F.length := by omega
              rw [List.take_length] at tb
              have hBz := below_call hB hB6
              rcases hin : inB ad 0 65535 with _ | _
              · go_wp2_with fail
                (with_reducible refine (find_bad (tb := tba) _ _ hin).mono ?_)
                rintro e w8 ⟨rfl, rfl⟩
                go_wp2_with fail
                (with_reducible refine (find_bad (tb := tbb) _ _ hin).mono ?_)
                rintro e w9 ⟨rfl, rfl⟩
                go_wp2_with fail
                go_quiet (fail)
                go_wp2
                go_ret
                exact ⟨rfl, below_drewN hBz _⟩
              · obtain ⟨x0, x1⟩ := inB_true.1 hin
                obtain ⟨a, rfl⟩ := Int.eq_ofNat_of_zero_le x0
                have ha : a < 65536 := by omega
                obtain ⟨p1, p2⟩ := HBX.out a
                obtain ⟨p3, p4⟩ := HBF.out a
                by_cases hcv : Cover (xs.map ofI) a
                · have q1 := p1 hcv
                  have q2 := p3 ((HCV.out a).2 hcv)
                  clear p1 p2 p3 p4 hcv
                  go_wp2_with fail
                  (with_reducible refine (find_in a _ ta.tab ha).mono ?_)
                  rintro e w8 ⟨_, f2, g8⟩
                  obtain rfl := f2 (by rw [q1]; exact z0)
                  rw [q1]
                  have tb8 := tb.below g8.below
                  have hB8 := below_call hBz g8.below
                  clear f2 g8 q1
                  go_wp2_with fail
                  (with_reducible refine (find_in a _ tb8.tab ha).mono ?_)
                  rintro e w9 ⟨_, f2, g9⟩
                  obtain rfl := f2 (by rw [q2]; exact z0)
                  rw [q2]
                  have hB9 := below_call hB8 g9.below
                  clear f2 g9 q2
                  go_wp2_with fail
                  go_quiet (fail)
                  go_wp2
                  go_ret
                  exact ⟨rfl, below_drewN hB9 _⟩
                · have q1 := p2 hcv
                  have q2 := p4 (fun h => hcv ((HCV.out a).1 h))
                  clear p1 p2 p3 p4 hcv
                  go_wp2_with fail
                  (with_reducible refine (find_in a _ ta.tab ha).mono ?_)
                  rintro e w8 ⟨f1, _, g8⟩
                  obtain rfl := f1 (by rw [q1]; decide)
                  have tb8 := tb.below g8.below
                  have hB8 := below_call hBz g8.below
                  clear f1 g8 q1
                  go_wp2_with fail
                  (with_reducible refine (find_in a _ tb8.tab ha).mono ?_)
                  rintro e w9 ⟨f1, _, g9⟩
                  obtain rfl := f1 (by rw [q2]; decide)
                  have hB9 := below_call hB8 g9.below
                  clear f1 g9 q2
                  go_wp2_with fail
                  go_quiet (fail)
                  go_wp2
                  go_ret
                  exact ⟨rfl, below_drewN hB9 _⟩
  · obtain ⟨k, HK⟩ : ∃ k, Hid (fewE xs = k) := ⟨_, Lib.hid rfl⟩
    have HX : Hid (k ≠ 0) := Lib.hid (by rw [← HK.out]; exact hx)
    clear hx
    go_enter Try.func8, Try.ntmps8
    go_wp2_with fail
    (with_reducible refine (lpmFact_any _).mono ?_)
    rintro e w1 ⟨rfl, hb⟩
    replace hB := below_call hB hb
    clear hb
    go_wp2_with fail
    (with_reducible refine (fewest_bad _ _ _ xs _ _ HN.out (hr.below hB) HK.out HX.out).mono ?_)
    rintro e w2 ⟨rfl, hb⟩
    replace hB := below_call hB hb
    clear hb
    go_wp2
    go_ret
    exact ⟨rfl, hB⟩
end Go.Proofs.Ytfgpppgehbpblaa
