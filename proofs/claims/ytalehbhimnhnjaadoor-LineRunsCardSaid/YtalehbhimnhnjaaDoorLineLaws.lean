/- The walks of the laws LineRuns and LineTurned: each returns true for all arguments where the table of codes holds what the program lays, and only makes memory. -/
import Derived.Test.YtalehbhimnhnjaaDoorLine
import Derived.Test.YtalehbhimnhnjaaDoorInts
namespace Go.Proofs.YtalehbhimnhnjaaDoor
open Go.RowKit

theorem lineFact_any (w : World) (hl : CodesW w) :
    Calls Tryd.prog 10 #[] w fun e w' => e = .returned (.bool true) ∧ Below w.heap.size w w' := by
  have hs := five_ok (some ⟨w.heap.size, 0, none⟩) 1 1 [0] (w.alloc (.cells #[.int .i64 0] 3)) (hl.below ((Below.refl _ _).alloc (Nat.le_refl _) _)) (rds_lit w [0] _) (by decide) (by decide)
  rw [show fiveL [0] = [1, 1, 1, 1, 0] from by decide] at hs
  have HS := Lib.hid hs
  clear hs
  go_enter Tryd.func10, Tryd.ntmps10
  go_wp2_with fail
  refine HS.out.mono ?_
  rintro e w1 ⟨A1, c1, rfl, ho1, hc1, hc2, hB1⟩
  have hB : Below w.heap.size w w1 := below_call ((Below.refl _ _).alloc (Nat.le_refl _) _) hB1
  have hs2 := turns_ok (some ⟨w1.heap.size, 0, none⟩) 3 3 [1, 0, 1] (w1.alloc (.cells #[.int .i64 1, .int .i64 0, .int .i64 1] 3)) (rds_lit w1 [1, 0, 1] _) (by decide) (by decide)
  rw [show turnL [1, 0, 1] = [1, 1, 0] from by decide] at hs2
  have HR := Lib.hid hs2
  clear hB1 hs2
  go_wp2_with fail
  refine HR.out.mono ?_
  rintro e w2 ⟨A2, c2, rfl, ho2, hc3, hc4, hB2⟩
  replace hB := below_call (hB.alloc hB.size _) hB2
  have hr1 := (ho1.rds.alloc (.cells #[.int .i64 1, .int .i64 0, .int .i64 1] 3)).below hB2
  have HI := Lib.hid (ints_any A1 (some ⟨w2.heap.size, 0, none⟩) 5 c1 5 5 [1, 1, 1, 1, 0] [1, 1, 1, 1, 0] (w2.alloc (.cells #[.int .i64 1, .int .i64 1, .int .i64 1, .int .i64 1, .int .i64 0] 3)) (hr1.alloc _) (rds_lit w2 [1, 1, 1, 1, 0] _) (by decide) (by decide))
  clear hr1 hB2
  go_wp2_with fail
  refine HI.out.mono ?_
  rintro e w3 ⟨rfl, q, rfl⟩
  have hB3 := below_drewN (hB.alloc hB.size (.cells #[.int .i64 1, .int .i64 1, .int .i64 1, .int .i64 1, .int .i64 0] 3)) q
  have hr2 := (ho2.rds.alloc (.cells #[.int .i64 1, .int .i64 1, .int .i64 1, .int .i64 1, .int .i64 0] 3)).drewN q
  generalize hw3 : (w2.alloc (.cells #[.int .i64 1, .int .i64 1, .int .i64 1, .int .i64 1, .int .i64 0] 3)).drewN q = w3 at hB3 hr2
  have HI2 := Lib.hid (ints_any A2 (some ⟨w3.heap.size, 0, none⟩) 3 c2 3 3 [1, 1, 0] [1, 1, 0] (w3.alloc (.cells #[.int .i64 1, .int .i64 1, .int .i64 0] 3)) (hr2.alloc _) (rds_lit w3 [1, 1, 0] _) (by decide) (by decide))
  have hB4 := hB3.alloc hB3.size (.cells #[.int .i64 1, .int .i64 1, .int .i64 0] 3)
  subst hw3
  go_wp2_with fail
  have HI3 := HI2.out
  simp only [World.heap_drewN, World.size_alloc] at HI3
  refine HI3.mono ?_
  rintro e w4 ⟨rfl, q2, rfl⟩
  have hB5 := below_drewN hB4 q2
  clear HI3
  go_wp2
  go_ret
  exact ⟨rfl, hB5⟩

set_option maxHeartbeats 1000000 in
theorem lineRuns_any (A : Option Addr) (n c : Nat) (xs : List Int) (w : World) (hr : Rds w 1 A n (ic xs)) (hn : n ≤ maxLen) (hl : CodesW w) :
    Calls Tryd.prog 3 #[.slice A n c] w fun e w' => e = .returned (.bool true) ∧ Below w.heap.size w w' := by
  have hB := Below.refl w.heap.size w
  obtain rfl : n = xs.length := hr.len_int
  have HN := Lib.hid hn
  by_cases h : fiveE xs = 0
  · obtain ⟨hb, hlen, _⟩ := five_of_ok h
    have HE := Lib.hid h
    have HZ := Lib.hid (fiveL_zeros xs hb)
    have HBt := Lib.hid (fiveL_bits xs)
    have hm := fiveL_len xs
    have HM := Lib.hid hm
    clear h hb hm hn
    go_enter Tryd.func3, Tryd.ntmps3
    go_wp2_with fail
    (go_at_call 10; refine (lineFact_any _ (hl.below hB)).mono ?_; rintro e w1 ⟨rfl, hb⟩; replace hB := below_call hB hb; clear hb)
    go_wp2_with fail
    refine (five_ok _ _ _ _ _ (hl.below hB) (hr.below hB) HN.out HE.out).mono ?_
    rintro e w2 ⟨A1, c1, rfl, ho1, hc1, hc2, hB1⟩
    replace hB := below_call hB hB1
    have hrm := ho1.rds
    have HZ' : Hid (∀ i, zeroF ((fiveL xs).take i) ≤ 3) := HZ
    have HBt' : Hid (Bits (fiveL xs)) := HBt
    have HM' : Hid ((fiveL xs).length = 5 * xs.length) := HM
    clear ho1 HZ HBt HM hB1
    generalize fiveL xs = m at *
    have hml : m.length ≤ 200 := by have := HM'.out; omega
    have HBB := Lib.hid hB
    clear hB
    go_wp2_with fail
    go_loop [6, 7] (fun o i => ∃ k : Nat, k ≤ m.length ∧ i = .int .i64 k ∧ o = .int .i64 (zeroF (m.take k))) (fun _ i => m.length - (intOf i).toNat)
    case atStart => exact ⟨0, Nat.zero_le _, rfl, rfl⟩
    case round =>
      obtain ⟨k, hk, rfl, rfl⟩ := hrel
      have r0 := zeroF_nonneg (m.take k)
      have r3 := HZ'.out k
      by_cases hlt : k < m.length
      · obtain ⟨b, off, hk', rfl, hcell⟩ := hrm.int hlt
        have r1 := HZ'.out (k + 1)
        have hsn := zeroF_snoc m k hk'
        rcases HBt'.out _ (List.getElem_mem hk') with hz | hz
        · rw [hz] at hcell hsn
          rw [if_neg (by omega)] at hsn
          rw [hsn] at r1
          have HSN := Lib.hid hsn
          clear hz hsn
          go_wp2
          go_round
          case rel => exact ⟨k + 1, by omega, by go_num, by rw [HSN.out]⟩
          case measure => simp [intOf]; omega
        · rw [hz] at hcell hsn
          rw [if_pos rfl] at hsn
          have HSN := Lib.hid hsn
          clear hz hsn r1
          go_wp2
          go_round
          case rel => exact ⟨k + 1, by omega, by go_num, by rw [HSN.out]⟩
          case measure => simp [intOf]; omega
      · have hfin : ((m.length : Int) == 5 * (xs.length : Int)) = true := by rw [beq_iff_eq]; have := HM'.out; omega
        go_wp2
        go_ret
        exact ⟨rfl, HBB.out⟩
  · have HE := Lib.hid h
    clear h hn
    go_enter Tryd.func3, Tryd.ntmps3
    go_wp2_with (first
      | (go_at_call 10; refine (lineFact_any _ (hl.below hB)).mono ?_; rintro e w1 ⟨rfl, hb⟩; replace hB := below_call hB hb; clear hb)
      | (go_at_call 11; refine (five_err _ _ _ _ _ _ (hr.below hB) HN.out rfl HE.out).mono ?_; rintro e w' ⟨rfl, rfl⟩))
    go_ret
    exact ⟨rfl, hB⟩
end Go.Proofs.YtalehbhimnhnjaaDoor
