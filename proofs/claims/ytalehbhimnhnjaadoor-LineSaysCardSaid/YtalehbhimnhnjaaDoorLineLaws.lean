/- The walks of the laws LineRuns and LineTurned: each returns true for all arguments where the table of codes holds what the program lays, and only makes memory. -/
import Derived.Test.YtalehbhimnhnjaaDoorLine
import Derived.Test.YtalehbhimnhnjaaDoorInts
namespace Go.Proofs.YtalehbhimnhnjaaDoor
open Go.RowKit

theorem lineFact_any (w : World) (hl : CodesW w) :
    Calls Tryd.prog 10 #[] w fun e w' => e = .returned (.bool true) ∧ Below w.heap.size w w' := by
  have hs := five_ok (some ⟨w.heap.size, 0, none⟩) 1 1 [0] (w.alloc (.cells #[.int .i64 0] 3)) (hl.below ((Below.refl _ _).alloc (Nat.le_refl _) _)) (rds_lit w [0] _) (by decide) (by decide)
  rw [show fiveL [0] = [1, 1, 1, 1, 0] from by decide] at hs
  have HS := Lib.hid hs
  clear hs
  go_enter Tryd.func10, Tryd.ntmps10
  go_wp2_with fail
  refine HS.out.mono ?_
  rintro e w1 ⟨A1, c1, rfl, ho1, hc1, hc2, hB1⟩
  have hB : Below w.heap.size w w1 := below_call ((Below.refl _ _).alloc (Nat.le_refl _) _) hB1
  have hs2 := turns_ok (some ⟨w1.heap.size, 0, none⟩) 3 3 [1, 0, 1] (w1.alloc (.cells #[.int .i64 1, .int .i64 0, .int .i64 1] 3)) (rds_lit w1 [1, 0, 1] _) (by decide) (by decide)
  rw [show turnL [1, 0, 1] = [1, 1, 0] from by decide] at hs2
  have HR := Lib.hid hs2
  clear hB1 hs2
  go_wp2_with fail
  refine HR.out.mono ?_
  rintro e w2 ⟨A2, c2, rfl, ho2, hc3, hc4, hB2⟩
  replace hB := below_call (hB.alloc hB.size _) hB2
  have hr1 := (ho1.rds.alloc (.cells #[.int .i64 1, .int .i64 0, .int .i64 1] 3)).below hB2
  have HI := Lib.hid (ints_any A1 (some ⟨w2.heap.size, 0, none⟩) 5 c1 5 5 [1, 1, 1, 1, 0] [1, 1, 1, 1, 0] (w2.alloc (.cells #[.int .i64 1, .int .i64 1, .int .i64 1, .int .i64 1, .int .i64 0] 3)) (hr1.alloc _) (rds_lit w2 [1, 1, 1, 1, 0] _) (by decide) (by decide))
  clear hr1 hB2
  go_wp2_with fail
  refine HI.out.mono ?_
  rintro e w3 ⟨rfl, q, rfl⟩
  have hB3 := below_drewN (hB.alloc hB.size (.cells #[.int .i64 1, .int .i64 1, .int .i64 1, .int .i64 1, .int .i64 0] 3)) q
  have hr2 := (ho2.rds.alloc (.cells #[.int .i64 1, .int .i64 1, .int .i64 1, .int .i64 1, .int .i64 0] 3)).drewN q
  generalize hw3 : (w2.alloc (.cells #[.int .i64 1, .int .i64 1, .int .i64 1, .int .i64 1, .int .i64 0] 3)).drewN q = w3 at hB3 hr2
  have HI2 := Lib.hid (ints_any A2 (some ⟨w3.heap.size, 0, none⟩) 3 c2 3 3 [1, 1, 0] [1, 1, 0] (w3.alloc (.cells #[.int .i64 1, .int .i64 1, .int .i64 0] 3)) (hr2.alloc _) (rds_lit w3 [1, 1, 0] _) (by decide) (by decide))
  have hB4 := hB3.alloc hB3.size (.cells #[.int .i64 1, .int .i64 1, .int .i64 0] 3)
  subst hw3
  go_wp2_with fail
  have HI3 := HI2.out
  simp only [World.heap_drewN, World.size_alloc] at HI3
  refine HI3.mono ?_
  rintro e w4 ⟨rfl, q2, rfl⟩
  have hB5 := below_drewN hB4 q2
  clear HI3
  go_wp2
  go_ret
  exact ⟨rfl, hB5⟩

set_option maxHeartbeats 1000000 in
theorem lineRuns_any (A : Option Addr) (n c : Nat) (xs : List Int) (w : World) (hr : Rds w 1 A n (ic xs)) (hn : n ≤ maxLen) (hl : CodesW w) :
    Calls Tryd.prog 3 #[.slice A n c] w fun e w' => e = .returned (.bool true) ∧ Below w.heap.size w w' := by
  have hB := Below.refl w.heap.size w
  obtain rfl : n = xs.length := hr.len_int
  have HN := Lib.hid hn
  by_cases h : fiveE xs = 0
  · obtain ⟨hb, hlen, _⟩ := five_of_ok h
    have HE := Lib.hid h
    have HZ := Lib.hid (fiveL_zeros xs hb)
    have HBt := Lib.hid (fiveL_bits xs)
    have hm := fiveL_len xs
    have HM := Lib.hid hm
    clear h hb hm hn
    go_enter Tryd.func3, Tryd.ntmps3
    go_wp2_with fail
    (go_at_call 10; refine (lineFact_any _ (hl.below hB)).mono ?_; rintro e w1 ⟨rfl, hb⟩; replace hB := below_call hB hb; clear hb)
    go_wp2_with fail
    refine (five_ok _ _ _ _ _ (hl.below hB) (hr.below hB) HN.out HE.out).mono ?_
    rintro e w2 ⟨A1, c1, rfl, ho1, hc1, hc2, hB1⟩
    replace hB := below_call hB hB1
    have hrm := ho1.rds
    have HZ' : Hid (∀ i, zeroF ((fiveL xs).take i) ≤ 3) := HZ
    have HBt' : Hid (Bits (fiveL xs)) := HBt
    have HM' : Hid ((fiveL xs).length = 5 * xs.length) := HM
    clear ho1 HZ HBt HM hB1
    generalize fiveL xs = m at *
    have hml : m.length ≤ 200 := by have := HM'.out; omega
    have HBB := Lib.hid hB
    clear hB
    go_wp2_with fail
    go_loop [6, 7] (fun o i => ∃ k : Nat, k ≤ m.length ∧ i = .int .i64 k ∧ o = .int .i64 (zeroF (m.take k))) (fun _ i => m.length - (intOf i).toNat)
    case atStart => exact ⟨0, Nat.zero_le _, rfl, rfl⟩
    case round =>
      obtain ⟨k, hk, rfl, rfl⟩ := hrel
      have r0 := zeroF_nonneg (m.take k)
      have r3 := HZ'.out k
      by_cases hlt : k < m.length
      · obtain ⟨b, off, hk', rfl, hcell⟩ := hrm.int hlt
        have r1 := HZ'.out (k + 1)
        have hsn := zeroF_snoc m k hk'
        rcases HBt'.out _ (List.getElem_mem hk') with hz | hz
        · rw [hz] at hcell hsn
          rw [if_neg (by omega)] at hsn
          rw [hsn] at r1
          have HSN := Lib.hid hsn
          clear hz hsn
          go_wp2
          go_round
          case rel => exact ⟨k + 1, by omega, by go_num, by rw [HSN.out]⟩
          case measure => simp [intOf]; omega
        · rw [hz] at hcell hsn
          rw [if_pos rfl] at hsn
          have HSN := Lib.hid hsn
          clear hz hsn r1
          go_wp2
          go_round
          case rel => exact ⟨k + 1, by omega, by go_num, by rw [HSN.out]⟩
          case measure => simp [intOf]; omega
      · have hfin : ((m.length : Int) == 5 * (xs.length : Int)) = true := by rw [beq_iff_eq]; have := HM'.out; omega
        go_wp2
        go_ret
        exact ⟨rfl, HBB.out⟩
  · have HE := Lib.hid h
    clear h hn
    go_enter Tryd.func3, Tryd.ntmps3
    go_wp2_with (first
      | (go_at_call 10; refine (lineFact_any _ (hl.below hB)).mono ?_; rintro e w1 ⟨rfl, hb⟩; replace hB := below_call hB hb; clear hb)
      | (go_at_call 11; refine (five_err _ _ _ _ _ _ (hr.below hB) HN.out rfl HE.out).mono ?_; rintro e w' ⟨rfl, rfl⟩))
    go_ret
    exact ⟨rfl, hB⟩

/-! ### LineTurned -/
theorem dif_len (xs : List Int) (j : Int) : (dif j xs).length = xs.length := by
  induction xs generalizing j with
  | nil => rfl
  | cons b t ih => simp [dif, ih]
theorem dif_cons (b j : Int) (t : List Int) : dif j (b :: t) = xorB b j :: dif b t := rfl
theorem rds_tail {w : World} {b off n c : Nat} {xs : List Int} (h : Rds w 1 (some ⟨b, off, none⟩) n (ic xs)) (hn : 1 ≤ n) (hc : n ≤ c) :
    Rds w 1 (if c = 1 then some ⟨b, off, none⟩ else some ⟨b, off + 1, none⟩) (n - 1) (ic (xs.drop 1)) := by
  have h1 := h.drop (k := 1) (c := c) hn hc
  simpa only [cutA, Option.map_some, Go.WideShapes.add_plain] using h1

set_option maxHeartbeats 2000000 in
theorem lineTurned_any (A : Option Addr) (n c : Nat) (xs : List Int) (w : World) (hr : Rds w 1 A n (ic xs)) (hn : n ≤ maxLen) (hl : CodesW w) :
    Calls Tryd.prog 4 #[.slice A n c] w fun e w' => e = .returned (.bool true) ∧ Below w.heap.size w w' := by
  have hB := Below.refl w.heap.size w
  obtain rfl : n = xs.length := hr.len_int
  have HN := Lib.hid hn
  by_cases h : bitsE xs = 0
  · obtain ⟨hb, hlen⟩ := bits_of_ok h
    have HE := Lib.hid h
    have HE2 := Lib.hid (bitsE_ok (flip_bits hb) (by simpa using hlen))
    have HBB := Lib.hid hb
    have HLEN := Lib.hid (back_all xs hb).1
    have HLEN2 := Lib.hid (back_all _ (flip_bits hb)).1
    have HN2 := Lib.hid (show (xs.map (1 - ·)).length ≤ maxLen from by simpa using hn)
    clear h hb hn
    go_enter Tryd.func4, Tryd.ntmps4
    go_wp2_with fail
    (go_at_call 10; refine (lineFact_any _ (hl.below hB)).mono ?_; rintro e w1 ⟨rfl, hb⟩; replace hB := below_call hB hb; clear hb)
    go_wp2_with fail
    refine (bitsGo_ok _ _ _ _ _ (hr.below hB) HN.out HE.out).mono ?_
    rintro e w2 ⟨A1, c1, rfl, ho1, hc1, hc2, hB1⟩
    replace hB := below_call hB hB1
    have hra := ho1.rds
    have hrange := ho1.range
    have hbase : w.heap.size ≤ w2.heap.size := hB.size
    clear hB1 ho1
    have HW := Lib.hid (Own.nil_ w2 w2.heap.size)
    have HB2 := Lib.hid (Below.refl w2.heap.size w2)
    have HBO := Lib.hid hB
    have HLEN' : Hid ((backL xs).length = xs.length) := HLEN
    have HA := Lib.hid (backL_dif xs)
    have HA' : Hid (backL xs = dif 0 xs) := HA
    clear HLEN HA hbase hrange
    generalize backL xs = a at *
    go_wp2_with fail
    go_loopw [6, 7] (fun v i wr => ∃ (k : Nat) (A3 : Option Addr) (c3 : Nat), k ≤ xs.length ∧ i = .int .i64 k ∧ v = .slice A3 k c3 ∧ Own wr w2.heap.size (.slice A3 k c3) ((xs.take k).map (1 - ·)) ∧ k ≤ c3 ∧ c3 ≤ maxLen ∧ Below w2.heap.size w2 wr) (fun _ i _ => xs.length - (intOf i).toNat)
    case atStart => exact ⟨0, none, 0, Nat.zero_le _, rfl, rfl, HW.out, by simp, by unfold maxLen; omega, HB2.out⟩
    case round =>
      obtain ⟨k, A3, c3, hk, rfl, rfl, hown, hc3, hc4, hB3⟩ := hrel
      have hrx := hr.below (below_call HBO.out hB3)
      by_cases hlt : k < xs.length
      · obtain ⟨b, off, hk', rfl, hcell⟩ := hrx.int hlt
        have HM := Lib.hid (show ((xs.take k).map (1 - ·)).length = k from by simp; omega)
        have HQ := Lib.hid (show (xs.take (k + 1)).map (1 - ·) = (xs.take k).map (1 - ·) ++ [1 - xs[k]] from by rw [List.take_succ_eq_append_getElem hk', List.map_append]; rfl)
        have hz := HBB.out _ (List.getElem_mem hk')
        have hz1 : 0 ≤ xs[k] := by omega
        have hz2 : xs[k] ≤ 1 := by omega
        clear hz
        go_wp2_with (at_builtin; refine wp_append_int wr rfl _ _ rfl w2 w2.heap.size (.slice A3 k c3) ((xs.take k).map (1 - ·)) rfl hown (1 - xs[k]) rfl (by rw [HM.out]; omega) hB3.size hB3 ?_; intro A4 c4 w3 ho3 hc5 hc6 hB4 _ _; rw [HM.out] at ho3 hc5; rw [← HQ.out] at ho3)
        go_roundw
        case rel => exact ⟨k + 1, A4, c4, by omega, by go_num, slice_eq (by first | (simp; done) | (simp; omega)), ho3, hc5, hc6, hB4⟩
        case measure => simp [intOf]; omega
      · obtain rfl : k = xs.length := by omega
        rw [List.take_length] at hown
        have hro := hown.rds
        rw [List.length_map] at hro
        have HB5 := Lib.hid (below_call HBO.out hB3)
        have hra5 := hra.below hB3
        go_wp2_with fail
        refine (bitsGo_ok _ _ _ _ _ hro (by have := HN2.out; simpa using this) HE2.out).mono ?_
        rintro e w5 ⟨A5, c5, rfl, ho5, hc7, hc8, hB6⟩
        have hB7 := below_call HB5.out hB6
        have hra6 := hra5.below hB6
        have hrb := ho5.rds
        have hml : (xs.map (1 - ·)).length = xs.length := by simp
        rw [HLEN2.out, hml] at hrb hc7
        have HL2 := Lib.hid (HLEN2.out.trans hml)
        rw [HL2.out, HLEN'.out]
        rw [HLEN'.out] at hra6 hc1
        have HBd := Lib.hid (backL_dif (xs.map (1 - ·)))
        clear hra hra5 hro hown hrx hB3 hB6 ho5 hml
        have HA2 : Hid (ic a = ic (dif 0 xs)) := Lib.hid (by rw [HA'.out])
        have HB2' : Hid (ic (backL (xs.map (1 - ·))) = ic (dif 0 (xs.map (1 - ·)))) := Lib.hid (by rw [HBd.out])
        rw [HA2.out] at hra6
        rw [HB2'.out] at hrb
        have hc1' : xs.length ≤ c1 := hc1
        have hra7 : Rds w5 1 A1 xs.length (ic (dif 0 xs)) := hra6
        clear HA' HBd HA2 HB2' HLEN' HL2 HLEN2 HE2 HE HN2 hra6 hc1
        cases xs with
        | nil =>
          go_wp2
          go_quiet (fail)
          go_wp2
          go_ret
          exact ⟨rfl, below_drewN hB7 _⟩
        | cons x t =>
          have hx := HBB.out x (by simp)
          have HD := Lib.hid (dif_flip t x (fun d hd => HBB.out d (by simp [hd])) hx)
          rw [dif_cons] at hra7
          rw [List.map_cons, dif_cons, HD.out] at hrb
          have hdl : (dif x t).length = t.length := dif_len t x
          have HDL := Lib.hid hdl
          obtain ⟨b1, o1, _, rfl, hca⟩ := hra7.int (k := 0) (by simp)
          obtain ⟨b2, o2, _, rfl, hcb⟩ := hrb.int (k := 0) (by simp)
          simp only [List.getElem_cons_zero, Nat.add_zero] at hca hcb
          have hta := rds_tail hra7 (by simp) hc1'
          have htb := rds_tail hrb (by simp) hc7
          simp only [List.drop_succ_cons, List.drop_zero] at hta htb
          have HTL := Lib.hid (show (x :: t).length - 1 ≤ maxLen from by simp; unfold maxLen; simp at hlen; omega)
          have HI := Lib.hid (fun q => ints_any _ _ ((x :: t).length - 1) (c1 - 1) ((x :: t).length - 1) (c5 - 1) (dif x t) (dif x t) (w5.drewN q) (hta.drewN q) (htb.drewN q) HTL.out HTL.out)
          have hl1 : ((t.length : Int) + 1 == 0) = false := by rw [beq_eq_false_iff_ne]; omega
          have hxs : (xorB x 0 = 0 ∧ xorB (1 - x) 0 = 1) ∨ (xorB x 0 = 1 ∧ xorB (1 - x) 0 = 0) := by unfold xorB; omega
          have HX := Lib.hid hxs
          clear hxs hdl hx hra7 hrb hta htb
          simp only [List.length_cons, Nat.add_sub_cancel] at *
          have hs1 : (1 : Int) ≤ (t.length : Int) + 1 := by omega
          have hs2 : 1 ≤ t.length + 1 := by omega
          have hs3 : (0 : Int) ≤ (t.length : Int) := by omega
          rcases HX.out with ⟨e1, e2⟩ | ⟨e1, e2⟩
          all_goals
            rw [e1] at hca
            rw [e2] at hcb
            clear e1 e2
            go_wp2
            go_quiet ((go_at_call 13; exact Calls.quiet_of (HI.out _)))
            go_wp2
            all_goals go_ret
            all_goals exact ⟨by first | (simp; done) | (simp; decide), below_drewN hB7 _⟩
  · have HE := Lib.hid h
    clear h hn
    go_enter Tryd.func4, Tryd.ntmps4
    go_wp2_with (first
      | (go_at_call 10; refine (lineFact_any _ (hl.below hB)).mono ?_; rintro e w1 ⟨rfl, hb⟩; replace hB := below_call hB hb; clear hb)
      | (go_at_call 12; refine (bitsGo_err _ _ _ _ _ _ (hr.below hB) HN.out rfl HE.out).mono ?_; rintro e w' ⟨rfl, rfl⟩))
    go_ret
    exact ⟨rfl, hB⟩
end Go.Proofs.YtalehbhimnhnjaaDoor
