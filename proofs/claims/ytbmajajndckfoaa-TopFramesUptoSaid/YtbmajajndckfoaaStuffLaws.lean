/- The walks of the laws StuffFlag and StuffBack: each returns true for all arguments, and only makes memory. -/
import Derived.Test.YtbmajajndckfoaaUnstuff
import Derived.Test.YtbmajajndckfoaaInts
namespace Go.Proofs.Ytbmajajndckfoaa
open Go.RowKit

theorem in_any (a b c : Int) (w : World) :
    Calls Try.prog 12 #[.int .i64 a, .int .i64 b, .int .i64 c] w fun e w' => e = .returned (.bool (inB a b c)) ∧ w = w' := by
  by_cases h : b ≤ a
  · by_cases h2 : a ≤ c
    all_goals
      go_enter Try.func12, Try.ntmps12
      go_wp2
      go_ret
      exact ⟨by simp [inB, h, h2], rfl⟩
  · go_enter Try.func12, Try.ntmps12
    go_wp2
    go_ret
    exact ⟨ret_eq (bool_eq (by rw [eq_comm, inB_false]; omega)), rfl⟩

theorem stuffFact_any (w : World) :
    Calls Try.prog 10 #[] w fun e w' => e = .returned (.bool true) ∧ Below w.heap.size w w' := by
  have hs := stuff_ok (some ⟨w.heap.size, 0, none⟩) 6 6 [1, 1, 1, 1, 1, 1] (w.alloc (.cells #[.int .i64 1, .int .i64 1, .int .i64 1, .int .i64 1, .int .i64 1, .int .i64 1] 3)) (rds_lit w [1, 1, 1, 1, 1, 1] _) (by decide) (by decide)
  rw [show stuffL [1, 1, 1, 1, 1, 1] = [1, 1, 1, 1, 1, 0, 1] from by decide] at hs
  have HS := Lib.hid hs
  clear hs
  go_enter Try.func10, Try.ntmps10
  go_wp2_with fail
  refine HS.out.mono ?_
  rintro e w1 ⟨A1, c1, rfl, ho1, hc1, hc2, hB1⟩
  have hi := ints_any A1 (some ⟨w1.heap.size, 0, none⟩) 7 c1 7 7 [1, 1, 1, 1, 1, 0, 1] [1, 1, 1, 1, 1, 0, 1] (w1.alloc (.cells #[.int .i64 1, .int .i64 1, .int .i64 1, .int .i64 1, .int .i64 1, .int .i64 0, .int .i64 1] 3)) (ho1.rds.alloc _) (rds_lit w1 [1, 1, 1, 1, 1, 0, 1] _) (by decide) (by decide)
  have HI := Lib.hid hi
  clear hi
  have hB : Below w.heap.size w w1 := below_call ((Below.refl _ _).alloc (Nat.le_refl _) _) hB1
  go_wp2_with fail
  refine HI.out.mono ?_
  rintro e w2 ⟨rfl, q, rfl⟩
  go_wp2
  go_ret
  exact ⟨rfl, (below_drewN (hB.alloc hB.size _) q).alloc (by simp; have := hB.size; omega) _⟩

theorem stuffFlag_any (A : Option Addr) (n c : Nat) (xs : List Int) (w : World) (hr : Rds w 1 A n (ic xs)) (hn : n ≤ maxLen) :
    Calls Try.prog 3 #[.slice A n c] w fun e w' => e = .returned (.bool true) ∧ Below w.heap.size w w' := by
  have hB := Below.refl w.heap.size w
  have HL := Lib.hid hr.len_int
  have HN := Lib.hid hn
  by_cases h : bitsE xs = 0
  · obtain ⟨hb, hl⟩ := bits_of_ok h
    have hS := stuffed xs hb
    have hlen1 : n ≤ (stuffL xs).length := by rw [HL.out]; exact hS.len1
    have hlen5 : 5 * (((stuffL xs).length : Int) - n) ≤ n := by
      have h1 := hS.len5; have h2 := hS.k0; rw [HL.out]; unfold stuffL; omega
    have HE := Lib.hid h
    have hn200 : n ≤ 200 := by rw [HL.out]; exact hl
    have hm : (stuffL xs).length ≤ 240 := by have := hS.len5; have := hS.k0; unfold stuffL; omega
    have HR := Lib.hid hS.runs
    have HBt := Lib.hid hS.bits
    clear h hS hb hl hn
    go_enter Try.func3, Try.ntmps3
    go_wp2_with fail
    (go_at_call 10; refine (stuffFact_any _).mono ?_; rintro e w1 ⟨rfl, hb⟩; replace hB := below_call hB hb; clear hb)
    go_wp2_with fail
    refine (stuff_ok _ _ _ _ _ (hr.below hB) HN.out HE.out).mono ?_
    rintro e w2 ⟨A1, c1, rfl, ho1, hc1, hc2, hB1⟩
    replace hB := below_call hB hB1
    have HR' : Hid (∀ i, runF ((stuffL xs).take i) ≤ 5) := HR
    have HBt' : Hid (Bits (stuffL xs)) := HBt
    clear HR HBt
    have hrm := ho1.rds
    clear ho1
    generalize stuffL xs = m at *
    have HBB := Lib.hid hB
    clear hB hB1
    go_wp2_with fail
    go_loop [6, 7] (fun o i => ∃ k : Nat, k ≤ m.length ∧ i = .int .i64 k ∧ o = .int .i64 (runF (m.take k))) (fun _ i => m.length - (intOf i).toNat)
    case atStart => exact ⟨0, Nat.zero_le _, rfl, rfl⟩
    case round =>
      obtain ⟨k, hk, rfl, rfl⟩ := hrel
      have r0 := runF_nonneg (m.take k)
      by_cases hlt : k < m.length
      · obtain ⟨b, off, hk', rfl, hcell⟩ := hrm.int hlt
        have r1 := HR'.out (k + 1)
        have hsn := runF_snoc m k hk'
        rcases HBt'.out _ (List.getElem_mem hk') with hz | hz
        · rw [hz] at hcell hsn
          rw [if_pos rfl] at hsn
          have HSN := Lib.hid hsn
          have hin : inB 0 0 1 = true := by decide
          clear hz hsn r1
          go_wp2_with (go_at_call 12; refine (in_any _ _ _ _).mono ?_; rintro e w' ⟨rfl, rfl⟩)
          go_round
          case rel => exact ⟨k + 1, by omega, by go_num, by rw [HSN.out]⟩
          case measure => simp [intOf]; omega
        · rw [hz] at hcell hsn
          rw [if_neg (by omega)] at hsn
          have hin : inB 1 0 1 = true := by decide
          rw [hsn] at r1
          have h6 : (runF (m.take k) + 1 == 6) = false := by rw [beq_eq_false_iff_ne]; omega
          have HSN := Lib.hid hsn
          clear hz hsn
          go_wp2_with (go_at_call 12; refine (in_any _ _ _ _).mono ?_; rintro e w' ⟨rfl, rfl⟩)
          go_round
          case rel => exact ⟨k + 1, by omega, by go_num, by rw [HSN.out]⟩
          case measure => simp [intOf]; omega
      · go_wp2
        go_ret
        exact ⟨rfl, HBB.out⟩
  · have HE := Lib.hid h
    clear h hn
    go_enter Try.func3, Try.ntmps3
    go_wp2_with (first
      | (go_at_call 10; refine (stuffFact_any _).mono ?_; rintro e w1 ⟨rfl, hb⟩; replace hB := below_call hB hb; clear hb)
      | (go_at_call 11; refine (stuff_err _ _ _ _ _ _ (hr.below hB) HN.out rfl HE.out).mono ?_; rintro e w' ⟨rfl, rfl⟩))
    go_ret
    exact ⟨rfl, hB⟩

set_option maxHeartbeats 1000000 in
theorem stuffBack_any (A : Option Addr) (n c : Nat) (xs : List Int) (B : Option Addr) (m d : Nat) (ys : List Int) (w : World) (hr : Rds w 1 A n (ic xs)) (hn : n ≤ maxLen) (hr2 : Rds w 1 B m (ic ys)) (hm : m ≤ maxLen) :
    Calls Try.prog 4 #[.slice A n c, .slice B m d] w fun e w' => e = .returned (.bool true) ∧ Below w.heap.size w w' := by
  have hB := Below.refl w.heap.size w
  have HN := Lib.hid hn
  have HM := Lib.hid hm
  clear hn hm
  by_cases h : bitsE xs = 0
  · obtain ⟨hb, hl⟩ := bits_of_ok h
    have HE := Lib.hid h
    have HU := Lib.hid (unL_stuff xs hb)
    have HT := Lib.hid (fun hl => bitsE_ok (stuffed xs hb).bits hl : (stuffL xs).length ≤ 200 → bitsE (stuffL xs) = 0)
    have HI := Lib.hid (fun (hy : Bits ys) => (⟨fun e => by rw [e], fun e => stuffL_inj xs ys hb hy e⟩ : xs = ys ↔ stuffL xs = stuffL ys))
    clear h hb hl
    go_enter Try.func4, Try.ntmps4
    go_wp2_with fail
    (go_at_call 10; refine (stuffFact_any _).mono ?_; rintro e w1 ⟨rfl, hb⟩; replace hB := below_call hB hb; clear hb)
    go_wp2_with fail
    refine (stuff_ok _ _ _ _ _ (hr.below hB) HN.out HE.out).mono ?_
    rintro e w2 ⟨A1, c1, rfl, ho1, hc1, hc2, hB1⟩
    replace hB := below_call hB hB1
    clear hB1
    have H1 := ho1.rds
    have hm1 : (stuffL xs).length ≤ maxLen := Nat.le_trans hc1 hc2
    clear ho1
    have HU' : Hid (unL (stuffL xs) = some xs) := HU
    have HT' : Hid ((stuffL xs).length ≤ 200 → bitsE (stuffL xs) = 0) := HT
    have HI' : Hid (Bits ys → (xs = ys ↔ stuffL xs = stuffL ys)) := HI
    clear HU HT HI
    generalize stuffL xs = l1 at *
    have HM1 := Lib.hid hm1
    unfold maxLen at hm1
    by_cases hl2 : l1.length ≤ 200
    · have HE2 := Lib.hid (HT'.out hl2)
      go_wp2_with fail
      refine (unstuffGo_ok _ _ _ _ xs _ H1 HM1.out HE2.out HU'.out).mono ?_
      rintro e w3 ⟨A2, c2, rfl, ho2, hc3, hc4, hB2⟩
      replace hB := below_call hB hB2
      have HI2 := Lib.hid (ints_any A2 A xs.length c2 n c xs xs w3 ho2.rds (hr.below hB) (Nat.le_trans hc3 hc4) HN.out)
      have H1' := H1.below hB2
      clear ho2 hB2
      go_wp2_with fail
      refine HI2.out.mono ?_
      rintro e w4 ⟨rfl, q, rfl⟩
      replace hB := below_drewN hB q
      replace H1' := H1'.drewN q
      by_cases h2 : bitsE ys = 0
      · obtain ⟨hb2, hl3⟩ := bits_of_ok h2
        have HE3 := Lib.hid h2
        have HX := Lib.hid (HI'.out hb2)
        clear h2 hb2 hl3
        go_wp2_with fail
        refine (stuff_ok _ _ _ _ _ (hr2.below hB) HM.out HE3.out).mono ?_
        rintro e w5 ⟨A3, c3, rfl, ho3, hc5, hc6, hB3⟩
        replace hB := below_call hB hB3
        have HJ1 := Lib.hid (fun w' (hb' : Below w.heap.size w w') => ints_any A B n c m d xs ys w' (hr.below hb') (hr2.below hb') HN.out HM.out)
        have HJ2 := Lib.hid (fun q' => ints_any A1 A3 l1.length c1 (stuffL ys).length c3 l1 (stuffL ys) (w5.drewN q') ((H1'.below hB3).drewN q') (ho3.rds.drewN q') HM1.out (Nat.le_trans hc5 hc6))
        have HX' : Hid (xs = ys ↔ l1 = stuffL ys) := HX
        clear ho3 hB3 HX
        generalize stuffL ys = l2 at *
        go_wp2_with fail
        refine (HJ1.out _ hB).mono ?_
        rintro e w6 ⟨rfl, q2, rfl⟩
        replace hB := below_drewN hB q2
        go_wp2_with fail
        refine (HJ2.out _).mono ?_
        rintro e w7 ⟨rfl, q3, rfl⟩
        replace hB := below_drewN hB q3
        rw [World.drewN_drewN] at hB
        go_wp2
        go_ret
        refine ⟨ret_eq (bool_eq ?_), hB⟩
        rw [beq_iff_eq, decide_eq_decide]
        exact HX'.out
      · have HE3 := Lib.hid h2
        clear h2
        go_wp2_with fail
        refine (stuff_err _ _ _ _ _ _ (hr2.below hB) HM.out rfl HE3.out).mono ?_
        rintro e w' ⟨rfl, rfl⟩
        go_wp2
        go_ret
        exact ⟨rfl, hB⟩
    · by_cases h2 : bitsE ys = 0
      · obtain ⟨hb2, hl3⟩ := bits_of_ok h2
        have HE3 := Lib.hid h2
        have HX := Lib.hid (HI'.out hb2)
        clear h2 hb2 hl3
        go_wp2_with fail
        refine (stuff_ok _ _ _ _ _ (hr2.below hB) HM.out HE3.out).mono ?_
        rintro e w5 ⟨A3, c3, rfl, ho3, hc5, hc6, hB3⟩
        replace hB := below_call hB hB3
        have HJ1 := Lib.hid (fun w' (hb' : Below w.heap.size w w') => ints_any A B n c m d xs ys w' (hr.below hb') (hr2.below hb') HN.out HM.out)
        have HJ2 := Lib.hid (fun q' => ints_any A1 A3 l1.length c1 (stuffL ys).length c3 l1 (stuffL ys) (w5.drewN q') ((H1.below hB3).drewN q') (ho3.rds.drewN q') HM1.out (Nat.le_trans hc5 hc6))
        have HX' : Hid (xs = ys ↔ l1 = stuffL ys) := HX
        clear ho3 hB3 HX
        generalize stuffL ys = l2 at *
        go_wp2_with fail
        refine (HJ1.out _ hB).mono ?_
        rintro e w6 ⟨rfl, q2, rfl⟩
        replace hB := below_drewN hB q2
        go_wp2_with fail
        refine (HJ2.out _).mono ?_
        rintro e w7 ⟨rfl, q3, rfl⟩
        replace hB := below_drewN hB q3
        rw [World.drewN_drewN] at hB
        go_wp2
        go_ret
        refine ⟨ret_eq (bool_eq ?_), hB⟩
        rw [beq_iff_eq, decide_eq_decide]
        exact HX'.out
      · have HE3 := Lib.hid h2
        clear h2
        go_wp2_with fail
        refine (stuff_err _ _ _ _ _ _ (hr2.below hB) HM.out rfl HE3.out).mono ?_
        rintro e w' ⟨rfl, rfl⟩
        go_wp2
        go_ret
        exact ⟨rfl, hB⟩
  · have HE := Lib.hid h
    clear h
    go_enter Try.func4, Try.ntmps4
    go_wp2_with (first
      | (go_at_call 10; refine (stuffFact_any _).mono ?_; rintro e w1 ⟨rfl, hb⟩; replace hB := below_call hB hb; clear hb)
      | (go_at_call 11; refine (stuff_err _ _ _ _ _ _ (hr.below hB) HN.out rfl HE.out).mono ?_; rintro e w' ⟨rfl, rfl⟩))
    go_ret
    exact ⟨rfl, hB⟩
end Go.Proofs.Ytbmajajndckfoaa
