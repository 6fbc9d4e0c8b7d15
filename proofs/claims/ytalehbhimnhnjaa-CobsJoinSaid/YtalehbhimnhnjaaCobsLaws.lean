/- The walks of the laws CobsBack and CobsJoin: each returns true for all arguments, and only makes memory. -/
import Derived.Test.YtalehbhimnhnjaaCobsRead
import Derived.Test.YtalehbhimnhnjaaInts
namespace Go.Proofs.Ytalehbhimnhnjaa
open Go.RowKit

theorem in_any (a b c : Int) (w : World) :
    Calls Try.prog 10 #[.int .i64 a, .int .i64 b, .int .i64 c] w fun e w' => e = .returned (.bool (inB a b c)) ∧ w = w' := by
  by_cases h : b ≤ a
  · by_cases h2 : a ≤ c
    all_goals
      go_enter Try.func10, Try.ntmps10
      go_wp2
      go_ret
      exact ⟨by simp [inB, h, h2], rfl⟩
  · go_enter Try.func10, Try.ntmps10
    go_wp2
    go_ret
    exact ⟨ret_eq (bool_eq (by rw [eq_comm, inB_false]; omega)), rfl⟩

theorem cobsFact_any (w : World) :
    Calls Try.prog 16 #[] w fun e w' => e = .returned (.bool true) ∧ Below w.heap.size w w' := by
  have hs := write_ok (some ⟨w.heap.size, 0, none⟩) 3 3 [7, 0, 9] (w.alloc (.cells #[.int .i64 7, .int .i64 0, .int .i64 9] 3)) (rds_lit w [7, 0, 9] _) (by decide) (by decide) (by decide)
  rw [show cobsL [7, 0, 9] = [2, 7, 2, 9] from by decide] at hs
  have HS := Lib.hid hs
  clear hs
  go_enter Try.func16, Try.ntmps16
  go_wp2_with fail
  refine HS.out.mono ?_
  rintro e w1 ⟨A1, c1, rfl, ho1, hc1, hc2, hB1⟩
  have hB : Below w.heap.size w w1 := below_call ((Below.refl _ _).alloc (Nat.le_refl _) _) hB1
  have HR := Lib.hid (read_any (some ⟨w1.heap.size, 0, none⟩) 2 2 [1, 1] (w1.alloc (.cells #[.int .i64 1, .int .i64 1] 3)) (rds_lit w1 [1, 1] _) (by decide) (by decide))
  clear hB1
  go_wp2_with fail
  refine HR.out.mono ?_
  rintro e w2 ⟨hp, _⟩
  obtain ⟨A2, c2, rfl, ho2, hc3, hc4, hB2⟩ := hp [0] (by decide)
  replace hB := below_call (hB.alloc hB.size _) hB2
  have hr1 := (ho1.rds.alloc (.cells #[.int .i64 1, .int .i64 1] 3)).below hB2
  have HI := Lib.hid (ints_any A1 (some ⟨w2.heap.size, 0, none⟩) 4 c1 4 4 [2, 7, 2, 9] [2, 7, 2, 9] (w2.alloc (.cells #[.int .i64 2, .int .i64 7, .int .i64 2, .int .i64 9] 3)) (hr1.alloc _) (rds_lit w2 [2, 7, 2, 9] _) (by decide) (by decide))
  clear hp hr1 hB2
  go_wp2_with fail
  refine HI.out.mono ?_
  rintro e w3 ⟨rfl, q, rfl⟩
  have hB3 := below_drewN (hB.alloc hB.size (.cells #[.int .i64 2, .int .i64 7, .int .i64 2, .int .i64 9] 3)) q
  have hr2 := (ho2.rds.alloc (.cells #[.int .i64 2, .int .i64 7, .int .i64 2, .int .i64 9] 3)).drewN q
  generalize hw3 : (w2.alloc (.cells #[.int .i64 2, .int .i64 7, .int .i64 2, .int .i64 9] 3)).drewN q = w3 at hB3 hr2
  have HI2 := Lib.hid (ints_any A2 (some ⟨w3.heap.size, 0, none⟩) 1 c2 1 1 [0] [0] (w3.alloc (.cells #[.int .i64 0] 3)) (hr2.alloc _) (rds_lit w3 [0] _) (by decide) (by decide))
  have hB4 := hB3.alloc hB3.size (.cells #[.int .i64 0] 3)
  subst hw3
  go_wp2_with fail
  have HI3 := HI2.out
  simp only [World.heap_drewN, World.size_alloc] at HI3
  refine HI3.mono ?_
  rintro e w4 ⟨rfl, q2, rfl⟩
  have hB5 := below_drewN hB4 q2
  clear HI3
  go_wp2
  go_ret
  exact ⟨rfl, hB5⟩

theorem readR_back (xs : List Int) (h : bytesE xs 600 = 0) : readR (cobsL xs) = (0, xs) := by
  have hb := byte_range (bytes_of_ok h).1
  have hl := (bytes_of_ok h).2
  obtain ⟨h1, h2, h3, h4⟩ := cobs_all xs.length xs (Nat.le_refl _) hb
  unfold readR
  rw [bytesE_ok (fun x hx => by have := h2 x hx; omega) (by omega), if_neg (by simp), if_neg (cobsL_ne _), h1]
  simp only [readM]
  rw [if_neg (by omega)]

set_option maxHeartbeats 1000000 in
theorem cobsBack_any (A : Option Addr) (n c : Nat) (xs : List Int) (w : World) (hr : Rds w 1 A n (ic xs)) (hn : n ≤ maxLen) (hnc : n ≤ c) :
    Calls Try.prog 6 #[.slice A n c] w fun e w' => e = .returned (.bool true) ∧ Below w.heap.size w w' := by
  have hB := Below.refl w.heap.size w
  have HL := Lib.hid hr.len_int
  have HN := Lib.hid hn
  by_cases h : bytesE xs 600 = 0
  · have HE := Lib.hid h
    have hl := (bytes_of_ok h).2
    obtain ⟨h1, h2, h3, h4⟩ := cobs_all xs.length xs (Nat.le_refl _) (byte_range (bytes_of_ok h).1)
    have hxl : xs.length ≤ 600 := by omega
    have HP := Lib.hid (readR_back xs h)
    have H2 := Lib.hid h2
    have hn600 : n ≤ 600 := by rw [HL.out]; exact hxl
    have hm1 : n < (cobsL xs).length := by rw [HL.out]; exact h3
    have hm2 : (cobsL xs).length ≤ n + 1 + n / 254 := by rw [HL.out]; omega
    have hm3 : ((cobsL xs).length : Int) ≤ (n : Int) + 1 + (n : Int) / 254 := by omega
    have hm4 : (cobsL xs).length ≤ 1000 := by omega
    clear h hl h1 h2 h3 h4 hn
    go_enter Try.func6, Try.ntmps6
    go_wp2_with fail
    (go_at_call 16; refine (cobsFact_any _).mono ?_; rintro e w1 ⟨rfl, hb⟩; replace hB := below_call hB hb; clear hb)
    go_wp2_with fail
    refine (write_ok _ _ _ _ _ (hr.below hB) HN.out hnc HE.out).mono ?_
    rintro e w2 ⟨A1, c1, rfl, ho1, hc1, hc2, hB1⟩
    replace hB := below_call hB hB1
    have hrm := ho1.rds
    have HP' : Hid (readR (cobsL xs) = (0, xs)) := HP
    have H2' : Hid (∀ x ∈ cobsL xs, 1 ≤ x ∧ x ≤ 255) := H2
    clear ho1 hB1 HP H2
    generalize cobsL xs = m at *
    have HML := Lib.hid (show m.length ≤ maxLen from by unfold maxLen; omega)
    go_wp2_with fail
    go_loop [6] (fun i => ∃ k : Nat, k ≤ m.length ∧ i = .int .i64 k) (fun i => m.length - (intOf i).toNat)
    case atStart => exact ⟨0, Nat.zero_le _, rfl⟩
    case round =>
      obtain ⟨k, hk, rfl⟩ := hrel
      by_cases hlt : k < m.length
      · obtain ⟨b, off, hk', rfl, hcell⟩ := hrm.int hlt
        have hin : inB m[k] 1 255 = true := inB_true.2 (H2'.out _ (List.getElem_mem hk'))
        go_wp2_with (go_at_call 10; refine (in_any _ _ _ _).mono ?_; rintro e w' ⟨rfl, rfl⟩)
        go_round
        case rel => exact ⟨k + 1, by omega, by go_num⟩
        case measure => simp [intOf]; omega
      · go_wp2_with fail
        refine (read_any _ _ _ _ _ hrm HML.out hc1).mono ?_
        rintro e w3 ⟨hp, _⟩
        obtain ⟨A2, c2, rfl, ho2, hc3, hc4, hB2⟩ := hp xs HP'.out
        replace hB := below_call hB hB2
        have HI := Lib.hid (ints_any A2 A xs.length c2 n c xs xs w3 ho2.rds (hr.below hB) (Nat.le_trans hc3 hc4) HN.out)
        clear hp hB2 ho2
        go_wp2_with fail
        refine HI.out.mono ?_
        rintro e w4 ⟨rfl, q, rfl⟩
        replace hB := below_drewN hB q
        go_wp2
        go_ret
        exact ⟨rfl, hB⟩
  · have HE := Lib.hid h
    clear h hn
    go_enter Try.func6, Try.ntmps6
    go_wp2_with (first
      | (go_at_call 16; refine (cobsFact_any _).mono ?_; rintro e w1 ⟨rfl, hb⟩; replace hB := below_call hB hb; clear hb)
      | (go_at_call 17; refine (write_err _ _ _ _ _ _ (hr.below hB) HN.out rfl HE.out).mono ?_; rintro e w' ⟨rfl, rfl⟩))
    go_ret
    exact ⟨rfl, hB⟩

/-! ### CobsJoin -/
theorem bytesE_ne {xs : List Int} {m : Int} (hl : (xs.length : Int) ≤ m) : bytesE xs m ≠ 0 ↔ allB xs 0 255 = false := by
  unfold bytesE
  rw [if_neg (by omega)]
  cases allB xs 0 255 <;> simp
theorem rev_get (xs : List Int) (k : Nat) (hk : k < xs.length) : xs.reverse[k]'(by simpa using hk) = xs[xs.length - 1 - k]'(by omega) := List.getElem_reverse _
theorem own_ne {A B : Option Addr} {n c : Nat} (h : ∀ a b, B = some a → A = some b → b.block < a.block) : ∀ a, B = some a → (Value.slice A n c).ownBlock ≠ some a.block := by
  intro a ha e
  rw [ownBlock_slice] at e
  cases A with
  | none => cases e
  | some b =>
    have e2 : b.block = a.block := by simpa using e
    have := h a b ha rfl
    omega
theorem own_ne2 {A B : Option Addr} {n c k : Nat} {v : Value} {K : Nat} (h : ∀ a b, B = some a → A = some b → b.block < a.block) (hr : ∀ a, B = some a → k ≤ a.block ∧ a.block < K)
    (hv : v.ownBlock = (Value.slice A n c).ownBlock ∨ v.ownBlock = some (K + 1)) : ∀ a, B = some a → v.ownBlock ≠ some a.block := by
  intro a ha
  rcases hv with e | e
  · rw [e]; exact own_ne h a ha
  · rw [e]; intro e2; injection e2 with e2; have := hr a ha; omega
theorem allB_both (xs ys : List Int) : allB (xs ++ [0] ++ ys) 0 255 = (allB xs 0 255 && allB ys 0 255) := by
  simp [allB, inB]

set_option maxHeartbeats 4000000 in
set_option maxRecDepth 100000 in
theorem cobsJoin_any (A : Option Addr) (n c : Nat) (xs : List Int) (B : Option Addr) (m d : Nat) (ys : List Int) (w : World)
    (hr : Rds w 1 A n (ic xs)) (hn : n ≤ maxLen) (hnc : n ≤ c) (hbig : n ≤ 17592186044416) (hr2 : Rds w 1 B m (ic ys)) (hm : m ≤ maxLen) (hmd : m ≤ d) (hbig2 : m ≤ 17592186044416) :
    Calls Try.prog 7 #[.slice A n c, .slice B m d] w fun e w' => e = .returned (.bool true) ∧ Below w.heap.size w w' := by
  have hB := Below.refl w.heap.size w
  obtain rfl : n = xs.length := hr.len_int
  obtain rfl : m = ys.length := hr2.len_int
  have HN := Lib.hid hn
  have HM := Lib.hid hm
  clear hn hm
  by_cases h600 : 600 ≤ xs.length + ys.length
  · go_enter Try.func7, Try.ntmps7
    go_wp2_with (go_at_call 16; refine (cobsFact_any _).mono ?_; rintro e w1 ⟨rfl, hb⟩; replace hB := below_call hB hb; clear hb)
    go_ret
    exact ⟨rfl, hB⟩
  · have hn6 : xs.length < 600 := by omega
    have hm6 : ys.length < 600 := by omega
    have HW := Lib.hid (Own.nil_ w w.heap.size)
    go_enter Try.func7, Try.ntmps7
    go_wp2_with fail
    (go_at_call 16; refine (cobsFact_any _).mono ?_; rintro e w1 ⟨rfl, hb⟩; replace hB := below_call hB hb; clear hb)
    have hr' := hr.below hB
    have hw0 := (HW.out).below hB
    go_wp2_with (first
      | (at_builtin; refine wp_append_ints _ rfl (.tmp 23) _ rfl w w.heap.size (.slice none 0 0) [] rfl hw0 A xs.length c xs rfl hr' (by simp; omega) hB.size hB ?_; intro A1 c1 w2 ho1 hc1 hc2 hB1 _ _; simp only [List.nil_append, List.length_nil, Nat.zero_add] at ho1 hc1)
      | (at_builtin; refine wp_append_int w2 rfl (.tmp 26) _ rfl w w.heap.size (.slice A1 xs.length c1) xs rfl ho1 0 rfl (by omega) hB1.size hB1 ?_; intro A2 c2 w3 ho2 hc3 hc4 hB2 _ _)
      | (at_builtin; refine wp_append_ints w3 rfl (.tmp 29) _ rfl w w.heap.size (.slice A2 (xs.length + 1) c2) (xs ++ [0]) rfl ho2 B ys.length d ys rfl (hr2.below hB2) (by simp; omega) hB2.size hB2 ?_; intro A3 c3 w4 ho3 hc5 hc6 hB3 _ _; rw [List.length_append, List.length_singleton] at ho3 hc5))
    have hrb := ho3.rds
    have hbl : ((xs ++ [0] ++ ys).length : Int) ≤ 600 := by simp; omega
    have HBL := Lib.hid (show xs.length + 1 + ys.length ≤ maxLen from by unfold maxLen; omega)
    have HAB := Lib.hid (allB_both xs ys)
    clear hB hB1 hB2 hr' hw0 ho1 ho2 ho3 hc1 hc2 hc3 hc4
    simp only [List.length_append, List.length_singleton] at hrb
    by_cases ha : bytesE xs 600 = 0
    · by_cases hb : bytesE ys 600 = 0
      · have hE2 : bytesE (xs ++ [0] ++ ys) 600 = 0 := by
          refine bytesE_ok (fun x hx => ?_) hbl
          simp only [List.mem_append, List.mem_singleton] at hx
          rcases hx with (hx | hx) | hx
          · exact byte_range (bytes_of_ok ha).1 x hx
          · omega
          · exact byte_range (bytes_of_ok hb).1 x hx
        have HE := Lib.hid ha
        have HE2 := Lib.hid hE2
        have HE3 := Lib.hid hb
        have HJ := Lib.hid (show cobsL (xs ++ [0] ++ ys) = cobsL xs ++ mark xs ++ cobsL ys from by rw [← cobs_join xs.length xs ys (Nat.le_refl _)]; simp)
        clear ha hb hE2 hbl
        go_wp2_with fail
        refine (write_ok _ _ _ _ _ (hr.below hB3) HN.out hnc HE.out).mono ?_
        rintro e w5 ⟨A4, c4, rfl, hoX, hcx1, hcx2, hB4⟩
        have hrb5 := hrb.below hB4
        have hB5 := below_call hB3 hB4
        go_wp2_with fail
        refine (write_ok _ _ _ _ _ (hr2.below hB5) HM.out hmd HE3.out).mono ?_
        rintro e w6 ⟨A5, c5, rfl, hoY, hcy1, hcy2, hB6⟩
        have hrb6 := hrb5.below hB6
        have hB7 := below_call hB5 hB6
        go_wp2_with fail
        refine (write_ok _ _ _ _ _ hrb6 HBL.out hc5 HE2.out).mono ?_
        rintro e w7 ⟨A6, c6, rfl, hoZ, hcz1, hcz2, hB8⟩
        have hB9 := below_call hB7 hB8
        have r4 := hoX.range
        have r5 := hoY.range
        have r6 := hoZ.range
        have s5 := hB6.size
        have s6 := hB8.size
        have hX := (((hoX.mono hB3.size).below hB6).below hB8)
        have hY := hoY.rds.below hB8
        have hZ := hoZ.rds
        have hcx : (cobsL xs).length ≤ 1000 := by have := (cobs_all xs.length xs (Nat.le_refl _) (byte_range (bytes_of_ok HE.out).1)).2.2.2; omega
        have hcy : (cobsL ys).length ≤ 1000 := by have := (cobs_all ys.length ys (Nat.le_refl _) (byte_range (bytes_of_ok HE3.out).1)).2.2.2; omega
        have HJ' : Hid (cobsL (xs ++ [0] ++ ys) = cobsL xs ++ mark xs ++ cobsL ys) := HJ
        have HR := Lib.hid hr
        clear hrb hrb5 hrb6 hB3 hB4 hB5 hB6 hB7 hB8 hoX hoY hoZ HJ hr hr2 HE HE2 HE3 HAB HBL
        generalize cobsL xs = X at *
        generalize cobsL ys = Y at *
        generalize cobsL (xs ++ [0] ++ ys) = Z at *
        have hT : tailN xs ≤ xs.length := by unfold tailN; have := idx_le 0 xs.reverse; simpa using this
        have HZM := Lib.hid (show Z.length ≤ maxLen from Nat.le_trans hcz1 hcz2)
        have d64 : ∀ a b, A6 = some a → A4 = some b → b.block < a.block := by
          intro a b h1 h2
          have := (r6 a h1).1; have := (r4 b h2).2; omega
        have d54 : ∀ a b, A5 = some a → A4 = some b → b.block < a.block := by
          intro a b h1 h2
          have := (r5 a h1).1; have := (r4 b h2).2; omega
        have D64 := Lib.hid d64
        have D54 := Lib.hid d54
        have R6 := Lib.hid r6
        have R5 := Lib.hid r5
        clear r4 r5 r6 d64 d54
        go_wp2_with fail
        go_loop [13] (fun i => ∃ k : Nat, k ≤ xs.length ∧ i = .int .i64 k ∧ k ≤ tailN xs) (fun i => xs.length - (intOf i).toNat)
        case atStart => exact ⟨0, Nat.zero_le _, rfl, Nat.zero_le _⟩
        case round =>
          obtain ⟨k, hk, rfl, hkt⟩ := hrel
          by_cases hlt : k < xs.length
          · obtain ⟨b, off, hk', rfl, hcell⟩ := (HR.out.below hB9).int (k := xs.length - 1 - k) (by omega)
            have HI0 := Lib.hid (idx_at 0 xs.reverse k (by simpa using hlt) hkt)
            have HG := Lib.hid (rev_get xs k hlt)
            by_cases hz : xs[xs.length - 1 - k] = 0
            · have HT : Hid (tailN xs = k) := Lib.hid (HI0.out.1 (by rw [HG.out]; exact hz.symm))
              rw [hz] at hcell
              clear hz hT HI0 HG
              by_cases hmk : 0 < k ∧ k % 254 = 0
              · have HJ2 := Lib.hid (show Z = X ++ [1] ++ Y from by rw [HJ'.out]; unfold mark; rw [HT.out, if_pos hmk])
                have hk1 : (0 : Int) < (k : Int) := by omega
                have hk2 : ((k : Int) % 254 == 0) = true := by rw [beq_iff_eq]; omega
                clear hmk
                go_wp2_with (first
                  | (at_builtin; refine wp_append_int w7 rfl (.tmp 91) _ rfl w w.heap.size (.slice A4 X.length c4) X rfl hX 1 rfl (by omega) hB9.size hB9 ?_; intro A7 c7 w8 ho7 hc7 hc8 hB10 hg1 hv1; have hY8 := (hY.alloc _).grown hg1 (own_ne D54.out); have hZ8 := (hZ.alloc _).grown hg1 (own_ne D64.out))
                  | (at_builtin; refine wp_append_ints w8 rfl (.tmp 95) _ rfl w w.heap.size (.slice A7 (X.length + 1) c7) (X ++ [1]) rfl ho7 A5 Y.length c5 Y rfl hY8 (by simp; omega) hB10.size hB10 ?_; intro A8 c8 w9 ho8 hc9 hc10 hB11 hg2 _; have hZ9 := hZ8.grown hg2 (own_ne2 D64.out R6.out hv1)))
                have hr8 := ho8.rds
                simp only [List.length_append, List.length_singleton] at hr8 hc9
                have HI := Lib.hid (ints_any A6 A8 Z.length c6 (X.length + 1 + Y.length) c8 Z (X ++ [1] ++ Y) w9 hZ9 hr8 HZM.out (Nat.le_trans hc9 hc10))
                refine HI.out.mono ?_
                rintro e w10 ⟨rfl, q, rfl⟩
                have hB12 := below_drewN hB11 q
                go_wp2
                go_ret
                exact ⟨ret_eq (bool_eq (by simp [HJ2.out])), hB12⟩
              · have HJ2 := Lib.hid (show Z = X ++ Y from by rw [HJ'.out]; unfold mark; rw [HT.out, if_neg hmk]; simp)
                by_cases hk0 : 0 < k
                · have hk1 : (0 : Int) < (k : Int) := by omega
                  have hk2 : ((k : Int) % 254 == 0) = false := by rw [beq_eq_false_iff_ne]; omega
                  clear hmk
                  go_wp2_with (at_builtin; refine wp_append_ints w7 rfl (.tmp 95) _ rfl w w.heap.size (.slice A4 X.length c4) X rfl hX A5 Y.length c5 Y rfl hY (by omega) hB9.size hB9 ?_; intro A8 c8 w9 ho8 hc9 hc10 hB11 hg2 _; have hZ9 := hZ.grown hg2 (own_ne D64.out))
                  have hr8 := ho8.rds
                  simp only [List.length_append] at hr8
                  have HI := Lib.hid (ints_any A6 A8 Z.length c6 (X.length + Y.length) c8 Z (X ++ Y) w9 hZ9 hr8 HZM.out (Nat.le_trans hc9 hc10))
                  refine HI.out.mono ?_
                  rintro e w10 ⟨rfl, q, rfl⟩
                  have hB12 := below_drewN hB11 q
                  go_wp2
                  go_ret
                  exact ⟨ret_eq (bool_eq (by simp [HJ2.out])), hB12⟩
                · have hk1 : decide ((0 : Int) < (k : Int)) = false := decide_eq_false (by omega)
                  clear hmk
                  go_wp2_with (at_builtin; refine wp_append_ints w7 rfl (.tmp 95) _ rfl w w.heap.size (.slice A4 X.length c4) X rfl hX A5 Y.length c5 Y rfl hY (by omega) hB9.size hB9 ?_; intro A8 c8 w9 ho8 hc9 hc10 hB11 hg2 _; have hZ9 := hZ.grown hg2 (own_ne D64.out))
                  have hr8 := ho8.rds
                  simp only [List.length_append] at hr8
                  have HI := Lib.hid (ints_any A6 A8 Z.length c6 (X.length + Y.length) c8 Z (X ++ Y) w9 hZ9 hr8 HZM.out (Nat.le_trans hc9 hc10))
                  refine HI.out.mono ?_
                  rintro e w10 ⟨rfl, q, rfl⟩
                  have hB12 := below_drewN hB11 q
                  go_wp2
                  go_ret
                  exact ⟨ret_eq (bool_eq (by simp [HJ2.out])), hB12⟩
            · have hz1 : (xs[xs.length - 1 - k] != 0) = true := by rw [bne_iff_ne]; exact hz
              have HZ := Lib.hid hz
              clear hz
              go_wp2
              go_round
              case rel => exact ⟨k + 1, by omega, by go_num, HI0.out.2 (by rw [HG.out]; exact fun e => HZ.out e.symm)⟩
              case measure => simp [intOf]; omega
          · have HT : Hid (tailN xs = k) := Lib.hid (by omega)
            clear hT
            by_cases hmk : 0 < k ∧ k % 254 = 0
            · have HJ2 := Lib.hid (show Z = X ++ [1] ++ Y from by rw [HJ'.out]; unfold mark; rw [HT.out, if_pos hmk])
              have hk1 : (0 : Int) < (k : Int) := by omega
              have hk2 : ((k : Int) % 254 == 0) = true := by rw [beq_iff_eq]; omega
              clear hmk
              go_wp2_with (first
                | (at_builtin; refine wp_append_int w7 rfl (.tmp 91) _ rfl w w.heap.size (.slice A4 X.length c4) X rfl hX 1 rfl (by omega) hB9.size hB9 ?_; intro A7 c7 w8 ho7 hc7 hc8 hB10 hg1 hv1; have hY8 := (hY.alloc _).grown hg1 (own_ne D54.out); have hZ8 := (hZ.alloc _).grown hg1 (own_ne D64.out))
                | (at_builtin; refine wp_append_ints w8 rfl (.tmp 95) _ rfl w w.heap.size (.slice A7 (X.length + 1) c7) (X ++ [1]) rfl ho7 A5 Y.length c5 Y rfl hY8 (by simp; omega) hB10.size hB10 ?_; intro A8 c8 w9 ho8 hc9 hc10 hB11 hg2 _; have hZ9 := hZ8.grown hg2 (own_ne2 D64.out R6.out hv1)))
              have hr8 := ho8.rds
              simp only [List.length_append, List.length_singleton] at hr8 hc9
              have HI := Lib.hid (ints_any A6 A8 Z.length c6 (X.length + 1 + Y.length) c8 Z (X ++ [1] ++ Y) w9 hZ9 hr8 HZM.out (Nat.le_trans hc9 hc10))
              refine HI.out.mono ?_
              rintro e w10 ⟨rfl, q, rfl⟩
              have hB12 := below_drewN hB11 q
              go_wp2
              go_ret
              exact ⟨ret_eq (bool_eq (by simp [HJ2.out])), hB12⟩
            · have HJ2 := Lib.hid (show Z = X ++ Y from by rw [HJ'.out]; unfold mark; rw [HT.out, if_neg hmk]; simp)
              by_cases hk0 : 0 < k
              · have hk1 : (0 : Int) < (k : Int) := by omega
                have hk2 : ((k : Int) % 254 == 0) = false := by rw [beq_eq_false_iff_ne]; omega
                clear hmk
                go_wp2_with (at_builtin; refine wp_append_ints w7 rfl (.tmp 95) _ rfl w w.heap.size (.slice A4 X.length c4) X rfl hX A5 Y.length c5 Y rfl hY (by omega) hB9.size hB9 ?_; intro A8 c8 w9 ho8 hc9 hc10 hB11 hg2 _; have hZ9 := hZ.grown hg2 (own_ne D64.out))
                have hr8 := ho8.rds
                simp only [List.length_append] at hr8
                have HI := Lib.hid (ints_any A6 A8 Z.length c6 (X.length + Y.length) c8 Z (X ++ Y) w9 hZ9 hr8 HZM.out (Nat.le_trans hc9 hc10))
                refine HI.out.mono ?_
                rintro e w10 ⟨rfl, q, rfl⟩
                have hB12 := below_drewN hB11 q
                go_wp2
                go_ret
                exact ⟨ret_eq (bool_eq (by simp [HJ2.out])), hB12⟩
              · have hk1 : decide ((0 : Int) < (k : Int)) = false := decide_eq_false (by omega)
                clear hmk
                go_wp2_with (at_builtin; refine wp_append_ints w7 rfl (.tmp 95) _ rfl w w.heap.size (.slice A4 X.length c4) X rfl hX A5 Y.length c5 Y rfl hY (by omega) hB9.size hB9 ?_; intro A8 c8 w9 ho8 hc9 hc10 hB11 hg2 _; have hZ9 := hZ.grown hg2 (own_ne D64.out))
                have hr8 := ho8.rds
                simp only [List.length_append] at hr8
                have HI := Lib.hid (ints_any A6 A8 Z.length c6 (X.length + Y.length) c8 Z (X ++ Y) w9 hZ9 hr8 HZM.out (Nat.le_trans hc9 hc10))
                refine HI.out.mono ?_
                rintro e w10 ⟨rfl, q, rfl⟩
                have hB12 := below_drewN hB11 q
                go_wp2
                go_ret
                exact ⟨ret_eq (bool_eq (by simp [HJ2.out])), hB12⟩
      · have HE := Lib.hid ha
        have hE2 : bytesE (xs ++ [0] ++ ys) 600 ≠ 0 := by
          have h1 := (bytesE_ne (by omega)).1 hb
          rw [bytesE_ne hbl, HAB.out, h1, Bool.and_false]
        have HE2 := Lib.hid hE2
        have HE3 := Lib.hid hb
        clear ha hE2 hbl hb
        go_wp2_with fail
        refine (write_ok _ _ _ _ _ (hr.below hB3) HN.out hnc HE.out).mono ?_
        rintro e w5 ⟨A4, c4, rfl, ho4, hc7, hc8, hB4⟩
        have hrb5 := hrb.below hB4
        replace hB4 := below_call hB3 hB4
        go_wp2_with fail
        (refine (write_err _ _ _ _ _ _ (hr2.below hB4) HM.out rfl HE3.out).mono ?_; rintro e w' ⟨rfl, rfl⟩)
        go_wp2_with fail
        (refine (write_err _ _ _ _ _ _ hrb5 HBL.out rfl HE2.out).mono ?_; rintro e w' ⟨rfl, rfl⟩)
        go_wp2
        go_ret
        exact ⟨rfl, hB4⟩
    · have HE := Lib.hid ha
      have hE2 : bytesE (xs ++ [0] ++ ys) 600 ≠ 0 := by
        have h1 := (bytesE_ne (by omega)).1 ha
        rw [bytesE_ne hbl, HAB.out, h1]; rfl
      have HE2 := Lib.hid hE2
      clear ha hE2 hbl
      by_cases hb : bytesE ys 600 = 0
      · have HE3 := Lib.hid hb
        clear hb
        go_wp2_with fail
        (refine (write_err _ _ _ _ _ _ (hr.below hB3) HN.out rfl HE.out).mono ?_; rintro e w' ⟨rfl, rfl⟩)
        go_wp2_with fail
        refine (write_ok _ _ _ _ _ (hr2.below hB3) HM.out hmd HE3.out).mono ?_
        rintro e w5 ⟨A4, c4, rfl, ho4, hc7, hc8, hB4⟩
        have hrb5 := hrb.below hB4
        replace hB4 := below_call hB3 hB4
        go_wp2_with fail
        (refine (write_err _ _ _ _ _ _ hrb5 HBL.out rfl HE2.out).mono ?_; rintro e w' ⟨rfl, rfl⟩)
        go_wp2
        go_ret
        exact ⟨rfl, hB4⟩
      · have HE3 := Lib.hid hb
        clear hb
        go_wp2_with fail
        (refine (write_err _ _ _ _ _ _ (hr.below hB3) HN.out rfl HE.out).mono ?_; rintro e w' ⟨rfl, rfl⟩)
        go_wp2_with fail
        (refine (write_err _ _ _ _ _ _ (hr2.below hB3) HM.out rfl HE3.out).mono ?_; rintro e w' ⟨rfl, rfl⟩)
        go_wp2_with fail
        (refine (write_err _ _ _ _ _ _ hrb HBL.out rfl HE2.out).mono ?_; rintro e w' ⟨rfl, rfl⟩)
        go_wp2
        go_ret
        exact ⟨rfl, hB3⟩
end Go.Proofs.Ytalehbhimnhnjaa
