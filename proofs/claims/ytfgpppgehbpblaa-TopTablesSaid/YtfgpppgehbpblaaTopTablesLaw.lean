/- The walk of the law TopTables. -/
import Derived.Test.YtfgpppgehbpblaaLpmHops
import Derived.Test.YtfgpppgehbpblaaCidrFew
import Derived.Test.YtfgpppgehbpblaaCidrWas
namespace Go.Proofs.Ytfgpppgehbpblaa
open Go.RowKit Lp Px
theorem inTop_any (a b c : Int) (w : World) :
    Calls Try.prog 25 #[.int .i64 a, .int .i64 b, .int .i64 c] w fun e w' => e = .returned (.bool (inB a b c)) ∧ w = w' := by
  by_cases h : b ≤ a
  · by_cases h2 : a ≤ c
    all_goals
      go_enter Try.func25, Try.ntmps25
      go_wp2
      go_ret
      exact ⟨by simp [inB, h, h2], rfl⟩
  · go_enter Try.func25, Try.ntmps25
    go_wp2
    go_ret
    exact ⟨ret_eq (bool_eq (by rw [eq_comm, inB_false]; omega)), rfl⟩
theorem fact_one : fewE [(4, 16)] = 0 ∧ fewI [(4, 16)] = [(4, 16)] := by
  have hv : V (4, 0) := ⟨by decide, by decide, by decide⟩
  have h := few_canon (canon_one hv)
  exact ⟨fewE_mk (by decide) (errP_toI (L := [(4, 0)]) (by intro p hp; rw [List.mem_singleton.1 hp]; exact hv)), h⟩
set_option maxRecDepth 100000 in
set_option maxHeartbeats 8000000 in
theorem topTables_any (A : Option Addr) (n c : Nat) (xs : List (Int × Int)) (ad : Int) (w : World) (hr : Rds w 2 A n (pc xs)) (hn : n ≤ maxLen) :
    Calls Try.prog 9 #[.slice A n c, .int .i64 ad] w fun e w' => e = .returned (.bool true) ∧ Below w.heap.size w w' := by
  have hB0 := (Below.refl w.heap.size w).alloc (Nat.le_refl _) (.cells #[.int .i64 4, .int .i64 16] 24)
  obtain rfl : n = xs.length := hr.plen
  have HN := Lib.hid hn
  have hs1 := fewest_ok (some ⟨w.heap.size, 0, none⟩) 1 1 [(4, 16)] (w.alloc (.cells #[.int .i64 4, .int .i64 16] 24)) (by decide) (rds_plit w [(4, 16)] _) fact_one.1
  rw [fact_one.2] at hs1
  have HS1 := Lib.hid hs1
  clear hn hs1
  go_enter Try.func9, Try.ntmps9
  go_wp2_with fail
  refine HS1.out.mono ?_
  rintro e w1 ⟨A0, c0, rfl, ho0, hb⟩
  have hB := below_call hB0 hb
  obtain ⟨b0, o0, _, e0, y1, y2⟩ := ho0.rds.pfx (k := 0) (by simp)
  subst e0
  simp only [List.getElem_cons_zero, Nat.zero_mul, Nat.add_zero] at y1 y2
  simp only [List.length_cons, List.length_nil, Nat.zero_add]
  clear hb ho0 hB0 HS1
  by_cases hx : fewE xs = 0
  · have HX := Lib.hid hx
    obtain ⟨l1, e1⟩ := fewE_ok hx
    obtain ⟨v1, v2, v3⟩ := few_valid e1
    obtain ⟨F, hF⟩ : ∃ F, fewI xs = F := ⟨_, rfl⟩
    rw [hF] at v1 v2 v3
    have HF := Lib.hid hF
    rcases hin : inB ad 0 65535 with _ | _
    · clear hx e1 v1 v3 hF
      go_wp2_with fail
      (with_reducible refine (fewest_ok _ _ _ xs _ HN.out (hr.below hB) HX.out).mono ?_)
      rintro e w2 ⟨A1, c1, rfl, _, hb⟩
      replace hB := below_call hB hb
      clear hb
      go_wp2_with ((go_at_call 25; refine (inTop_any _ _ _ _).mono ?_; rintro e w' ⟨rfl, rfl⟩); rw [hin])
      go_ret
      exact ⟨rfl, hB⟩
    · obtain ⟨x0, x1⟩ := inB_true.1 hin
      obtain ⟨a, rfl⟩ := Int.eq_ofNat_of_zero_le x0
      have ha : a < 65536 := by omega
      have HV := Lib.hid (errP_all.1 e1)
      have HV2 := Lib.hid (errP_all.1 v1)
      have HBF := Lib.hid (best_hops v1 (z := 1) (by decide) a)
      have HW := Lib.hid ((was_cover e1 a).trans (v3 a).symm)
      have hfl : F.length ≤ 32 := by omega
      clear hx e1 v1 v3 hF
      go_wp2_with fail
      (with_reducible refine (fewest_ok _ _ _ xs _ HN.out (hr.below hB) HX.out).mono ?_)
      rintro e w2 ⟨A1, c1, rfl, ho, hb⟩
      replace hB := below_call hB hb
      rw [HF.out] at ho ⊢
      have hrf := ho.rds
      clear hb ho
      go_wp2_with ((go_at_call 25; refine (inTop_any _ _ _ _).mono ?_; rintro e w' ⟨rfl, rfl⟩); rw [hin])
      (with_reducible refine (lpmNew_in w2 w2.heap.size (Nat.le_refl _)).mono ?_)
      rintro e w3 ⟨rfl, hB3, ta⟩
      generalize hta : w2.heap.size + 1 = tba at *
      clear hta
      go_wp2_with fail
      go_loopw [10] (fun i wr => ∃ (k : Nat) (Fa : Nat → Nat → Option Nat) (m : Int) (Sa : Nat → Prop), k ≤ F.length ∧ i = .int .i64 k ∧ 0 ≤ m ∧ m ≤ k ∧ TabIn w2.heap.size wr tba w2.heap.size Fa (hopsL (F.take k) 1) m Sa ∧ Below w2.heap.size w2 wr) (fun i _ => F.length - (intOf i).toNat)
      case atStart => exact ⟨0, _, 0, _, Nat.zero_le _, rfl, by omega, by omega, ta, hB3⟩
      case round =>
        clear ta hB3
        obtain ⟨k, Fa, m, Sa, hk, rfl, hm0, hm1, ta, hB5⟩ := hrel
        by_cases hlt : k < F.length
        · obtain ⟨b, off, hk', rfl, hx1, hx2⟩ := (hrf.below hB5).pfx hlt
          have HSN := Lib.hid (hopsL_snoc F 1 k hk')
          have HC := HV2.out _ (List.getElem_mem hk')
          obtain ⟨x, hX⟩ : ∃ x, F[k] = x := ⟨_, rfl⟩
          rw [hX] at hx1 hx2 HSN HC
          clear hX
          have HE := Lib.hid (setE_zero (h := hopsL (F.take k) 1) (many := m) (z := 1) HC (by decide) (by omega))
          clear HC
          go_wp2_with fail
          (with_reducible refine (set_any _ _ _ _ ta.tab (fun i hi => (ta.lows i hi).2)).mono ?_)
          rintro e w6 ⟨_, s2⟩
          obtain ⟨rfl, S', F', T⟩ := s2 HE.out
          obtain ⟨ta2, hb⟩ := ta.to hB5.size T
          have hB6 := hB5.trans hb
          rw [← HSN.out] at ta2
          clear s2 T hb ta
          go_wp2
          go_roundw
          case rel => exact ⟨k + 1, F', _, S', by omega, by go_num, by split <;> omega, by split <;> omega, ta2, hB6⟩
          case measure => simp [intOf]; omega
        · obtain rfl : k = F.length := by omega
          rw [List.take_length] at ta
          have hB6 := below_call hB hB5
          obtain ⟨p1, p2⟩ := HBF.out
          have hcases : (Cover (F.map ofI) a ∧ (best (hopsL F 1) a 17).1 = 1 ∧ wasB xs a = true) ∨ (¬ Cover (F.map ofI) a ∧ (best (hopsL F 1) a 17).1 = -1 ∧ wasB xs a = false) := by
            by_cases hcv : Cover (F.map ofI) a
            · exact .inl ⟨hcv, p1 hcv, HW.out.2 hcv⟩
            · refine .inr ⟨hcv, p2 hcv, ?_⟩
              rw [Bool.eq_false_iff]
              exact fun h => hcv (HW.out.1 h)
          clear p1 p2
          rcases hcases with ⟨_, q1, q2⟩ | ⟨_, q1, q2⟩
          · have HQ2 := Lib.hid q2
            clear q2
            go_wp2_with fail
            (with_reducible refine (find_in a _ ta.tab ha).mono ?_)
            rintro e w8 ⟨_, f2, g8⟩
            obtain rfl := f2 (by rw [q1]; decide)
            have hB8 := below_call hB6 g8.below
            clear f2 g8 q1 ta
            go_wp2_with fail
            go_loopw [11, 12] (fun s i wr => ∃ k : Nat, k ≤ xs.length ∧ i = .int .i64 k ∧ s = .bool (wasB (xs.take k) a) ∧ Below w8.heap.size w8 wr) (fun _ i _ => xs.length - (intOf i).toNat)
            case atStart => exact ⟨0, Nat.zero_le _, rfl, rfl, Below.refl _ _⟩
            case round =>
              obtain ⟨k, hk, rfl, rfl, hB9⟩ := hrel
              by_cases hlt : k < xs.length
              · obtain ⟨b, off, hk', rfl, hx1, hx2⟩ := (hr.below (below_call hB8 hB9)).pfx hlt
                have HSN := Lib.hid (wasB_snoc xs a k hk')
                have HC := Lib.hid (HV.out _ (List.getElem_mem hk'))
                obtain ⟨x, hX⟩ : ∃ x, xs[k] = x := ⟨_, rfl⟩
                rw [hX] at hx1 hx2 HSN HC
                clear hX
                go_wp2_with fail
                (with_reducible refine (has_ok _ _ _ _ HC.out hin).mono ?_)
                rintro e w9 ⟨rfl, hb⟩
                replace hB9 := below_call hB9 hb
                clear hb hx1 hx2
                generalize hasI x.1 x.2 a = bx at *
                generalize wasB (xs.take k) a = bw at *
                rcases bw with _ | _ <;> rcases bx with _ | _
                all_goals
                  go_wp2
                  go_roundw
                  case rel => exact ⟨k + 1, by omega, by go_num, by rw [HSN.out]; rfl, hB9⟩
                  case measure => simp [intOf]; omega
              · obtain rfl : k = xs.length := by omega
                rw [List.take_length, HQ2.out]
                have hBz := below_call hB8 hB9
                go_wp2
                go_ret
                exact ⟨rfl, hBz⟩
          · have HQ2 := Lib.hid q2
            clear q2
            go_wp2_with fail
            (with_reducible refine (find_in a _ ta.tab ha).mono ?_)
            rintro e w8 ⟨f1, _, g8⟩
            obtain rfl := f1 (by rw [q1]; decide)
            have hB8 := below_call hB6 g8.below
            clear f1 g8 q1 ta
            go_wp2_with fail
            go_loopw [11, 12] (fun s i wr => ∃ k : Nat, k ≤ xs.length ∧ i = .int .i64 k ∧ s = .bool (wasB (xs.take k) a) ∧ Below w8.heap.size w8 wr) (fun _ i _ => xs.length - (intOf i).toNat)
            case atStart => exact ⟨0, Nat.zero_le _, rfl, rfl, Below.refl _ _⟩
            case round =>
              obtain ⟨k, hk, rfl, rfl, hB9⟩ := hrel
              by_cases hlt : k < xs.length
              · obtain ⟨b, off, hk', rfl, hx1, hx2⟩ := (hr.below (below_call hB8 hB9)).pfx hlt
                have HSN := Lib.hid (wasB_snoc xs a k hk')
                have HC := Lib.hid (HV.out _ (List.getElem_mem hk'))
                obtain ⟨x, hX⟩ : ∃ x, xs[k] = x := ⟨_, rfl⟩
                rw [hX] at hx1 hx2 HSN HC
                clear hX
                go_wp2_with fail
                (with_reducible refine (has_ok _ _ _ _ HC.out hin).mono ?_)
                rintro e w9 ⟨rfl, hb⟩
                replace hB9 := below_call hB9 hb
                clear hb hx1 hx2
                generalize hasI x.1 x.2 a = bx at *
                generalize wasB (xs.take k) a = bw at *
                rcases bw with _ | _ <;> rcases bx with _ | _
                all_goals
                  go_wp2
                  go_roundw
                  case rel => exact ⟨k + 1, by omega, by go_num, by rw [HSN.out]; rfl, hB9⟩
                  case measure => simp [intOf]; omega
              · obtain rfl : k = xs.length := by omega
                rw [List.take_length, HQ2.out]
                have hBz := below_call hB8 hB9
                go_wp2
                go_ret
                exact ⟨rfl, hBz⟩
  · obtain ⟨k, HK⟩ : ∃ k, Hid (fewE xs = k) := ⟨_, Lib.hid rfl⟩
    have HX : Hid (k ≠ 0) := Lib.hid (by rw [← HK.out]; exact hx)
    clear hx
    go_wp2_with fail
    (with_reducible refine (fewest_bad _ _ _ xs _ _ HN.out (hr.below hB) HK.out HX.out).mono ?_)
    rintro e w2 ⟨rfl, hb⟩
    replace hB := below_call hB hb
    clear hb
    go_wp2
    go_ret
    exact ⟨rfl, hB⟩
end Go.Proofs.Ytfgpppgehbpblaa
