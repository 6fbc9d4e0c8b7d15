/- The walk of the law LpmDrop. -/
import Derived.Test.YtfgpppgehbpblaaDoorLpmLongestLaw
import Derived.Test.YtfgpppgehbpblaaDoorRtSame
import Derived.Test.YtfgpppgehbpblaaDoorHadB
import Derived.Test.YtfgpppgehbpblaaDoorPEq
namespace Go.Proofs.YtfgpppgehbpblaaDoor
open Go.RowKit Lp
theorem routes_short (h : Hops) : (routesL h).length ≤ 200000 := by
  have := preR_len h 16 0 0
  show (preR h 16 0 0).length ≤ _
  omega
theorem hadB_iff {h : Hops} {A L : Nat} (hc : checkE A L = 0) : hadB (routesL h) A L = true ↔ 0 ≤ h L (pn A L) := by
  obtain ⟨_, a1, _, l1, hm⟩ := checkE_ok hc
  have hz : szI (L : Int) = ((2 ^ (16 - L) : Nat) : Int) := rfl
  rw [hz] at hm
  have hp := Px.pow_pos (16 - L)
  have hal : A % 2 ^ (16 - L) = 0 := by
    have : ((A % 2 ^ (16 - L) : Nat) : Int) = 0 := by rw [← hm]; simp
    omega
  unfold hadB
  rw [List.any_eq_true]
  constructor
  · rintro ⟨t, ht, he⟩
    obtain ⟨k, hk, u, hu, h0, rfl⟩ := routes_mem.1 ht
    rw [Bool.and_eq_true, beq_iff_eq, beq_iff_eq] at he
    obtain ⟨e1, e2⟩ := he
    replace e1 : ((u * 2 ^ (16 - k) : Nat) : Int) = (A : Int) := e1
    replace e2 : (k : Int) = (L : Int) := e2
    obtain rfl : k = L := by omega
    have e3 : u * 2 ^ (16 - k) = A := by omega
    have e4 : pn A k = u := by rw [← e3]; unfold pn; exact Nat.mul_div_cancel _ hp
    rw [e4]; exact h0
  · intro h0
    refine ⟨rt h L (pn A L), routes_mem.2 ⟨L, by omega, pn A L, pn_lt (by omega) (by omega), h0, rfl⟩, ?_⟩
    rw [Bool.and_eq_true, beq_iff_eq, beq_iff_eq]
    refine ⟨?_, rfl⟩
    show ((pn A L * 2 ^ (16 - L) : Nat) : Int) = (A : Int)
    have e := Nat.div_add_mod A (2 ^ (16 - L))
    rw [hal, Nat.add_zero, Nat.mul_comm] at e
    unfold pn
    rw [e]
theorem hadB_take {xs : List Rt} {a l : Int} {k : Nat} (hk : k < xs.length) {ta tl th : Int} (hT : xs[k] = (ta, tl, th)) : hadB (xs.take (k + 1)) a l = (hadB (xs.take k) a l || (ta == a && tl == l)) := by
  unfold hadB
  rw [List.take_succ_eq_append_getElem hk, List.any_append, hT]
  simp
theorem setE_fine {h : Hops} {many a l z : Int} (hE : setE h many a l z = 0) : checkE a l = 0 ∧ inB z 0 9 = true := by
  unfold setE at hE
  by_cases h1 : checkE a l = 0
  · rw [if_neg (by simpa using h1)] at hE
    refine ⟨h1, ?_⟩
    rcases h2 : inB z 0 9 with _ | _
    · rw [if_pos h2] at hE; cases hE
    · rfl
  · rw [if_pos h1] at hE; exact absurd hE h1
set_option maxRecDepth 100000 in
set_option maxHeartbeats 8000000 in
theorem lpmDrop_any (A : Option Addr) (n c : Nat) (xss : List (List Int)) (a l z : Int) (w : World) (hr : RowsW w A n xss) (hn : n ≤ maxLen) (hl : LaidW w) :
    Calls Tryd.prog 5 #[.slice A n c, .agg #[.int .i64 a, .int .i64 l, .int .i64 z]] w fun e w' => e = .returned (.bool true) ∧ Below w.heap.size w w' := by
  have hB : Below w.heap.size w (w.alloc (.cells #[.int .i64 a, .int .i64 l, .int .i64 z] 52)) := (Below.refl _ _).alloc (Nat.le_refl _) _
  have hp1 : (w.alloc (.cells #[.int .i64 a, .int .i64 l, .int .i64 z] 52)).cell? ⟨w.heap.size, 0, none⟩ = some (.int .i64 a) := by simp
  have hp2 : (w.alloc (.cells #[.int .i64 a, .int .i64 l, .int .i64 z] 52)).cell? ⟨w.heap.size, 1, none⟩ = some (.int .i64 l) := by simp
  have hp3 : (w.alloc (.cells #[.int .i64 a, .int .i64 l, .int .i64 z] 52)).cell? ⟨w.heap.size, 2, none⟩ = some (.int .i64 z) := by simp
  have HN := Lib.hid hn
  have HL := Lib.hid hl
  clear hn hl
  go_enter Tryd.func5, Tryd.ntmps5
  go_wp2_with fail
  (with_reducible refine (lpmFact_any _).mono ?_)
  rintro e w1 ⟨rfl, hb⟩
  replace hp1 := (hb.cell (p := ⟨w.heap.size, 0, none⟩) (cell_lt hp1)).trans hp1
  replace hp2 := (hb.cell (p := ⟨w.heap.size, 1, none⟩) (cell_lt hp2)).trans hp2
  replace hp3 := (hb.cell (p := ⟨w.heap.size, 2, none⟩) (cell_lt hp3)).trans hp3
  have hlt1 : w.heap.size < w1.heap.size := cell_lt hp1
  replace hB := below_call hB hb
  clear hb
  go_wp2_with fail
  (with_reducible refine (routed_any _ _ _ _ _ (hr.below hB) HN.out).mono ?_)
  rintro e w2 ⟨tb, r, F, h, many, S, rfl, t, hmany, hb⟩
  have hlo : ∀ i, S i → w1.heap.size ≤ i := fun i hi => (t.lows i hi).1
  have hhi : ∀ i, S i → i < w2.heap.size := fun i hi => (t.lows i hi).2
  replace hp1 := (hb.cell (p := ⟨w.heap.size, 0, none⟩) (cell_lt hp1)).trans hp1
  replace hp2 := (hb.cell (p := ⟨w.heap.size, 1, none⟩) (cell_lt hp2)).trans hp2
  replace hp3 := (hb.cell (p := ⟨w.heap.size, 2, none⟩) (cell_lt hp3)).trans hp3
  have hsz12 := hb.size
  replace hB := below_call hB hb
  clear hb
  have HRT := Lib.hid (routes_any w2 t.tab (fun i hi => (t.lows i hi).2))
  go_wp2_with fail
  (with_reducible refine HRT.out.mono ?_)
  rintro e w3 ⟨v3, rfl, ho, hb⟩
  obtain ⟨A3, c3, rfl⟩ := ho.shape
  have t3 : TabIn w1.heap.size w3 tb r F h many S := t.below hb
  replace hp1 := (hb.cell (p := ⟨w.heap.size, 0, none⟩) (cell_lt hp1)).trans hp1
  replace hp2 := (hb.cell (p := ⟨w.heap.size, 1, none⟩) (cell_lt hp2)).trans hp2
  replace hp3 := (hb.cell (p := ⟨w.heap.size, 2, none⟩) (cell_lt hp3)).trans hp3
  have hsz23 := hb.size
  replace hB := below_call hB hb
  clear hb HRT t
  obtain ⟨xs, hxs⟩ : ∃ xs, routesL h = xs := ⟨_, rfl⟩
  have HXS := Lib.hid hxs
  have hxl : xs.length ≤ 200000 := by rw [← hxs]; exact routes_short h
  rw [hxs] at ho
  rw [hxs]
  clear hxs
  have HAT : Hid (∀ b off, A3 = some ⟨b, off, none⟩ → w2.heap.size ≤ b ∧ b < w3.heap.size) := Lib.hid (fun b off e => by subst e; exact ho.at_)
  have HO := Lib.hid ho.rds
  clear ho
  have HT3 := Lib.hid t3
  clear t3
  obtain ⟨pb, hpb⟩ : ∃ pb, w.heap.size = pb := ⟨_, rfl⟩
  rw [hpb] at hp1 hp2 hp3 hlt1
  have HP1 := Lib.hid hp1
  have HP2 := Lib.hid hp2
  have HP3 := Lib.hid hp3
  have HPB := Lib.hid hpb
  rw [hpb]
  go_wp2_with fail
  obtain ⟨wo, rfl⟩ : ∃ wo : World, wo = w3 := ⟨_, rfl⟩
  go_loopw [8, 9] (fun f i wr => ∃ k : Nat, k ≤ xs.length ∧ i = .int .i64 k ∧ f = .bool (hadB (xs.take k) a l) ∧ Grew wo wr) (fun _ i _ => xs.length - (intOf i).toNat)
  case atStart => exact ⟨0, Nat.zero_le _, rfl, rfl, Grew.refl _⟩
  case round =>
    obtain ⟨k, hk, rfl, rfl, hG⟩ := hrel
    by_cases hlt : k < xs.length
    · obtain ⟨b, off, hk', rfl, hx1, hx2, hx3⟩ := ((HO.out).below hG.below).rte hlt
      obtain ⟨⟨ta, tl, th⟩, hT⟩ : ∃ t, xs[k] = t := ⟨_, rfl⟩
      have HTK := Lib.hid (hadB_take (a := a) (l := l) hk' hT)
      rw [hT] at hx1 hx2 hx3
      simp only at hx1 hx2 hx3
      replace hp1 := hG.cell (cell_lt HP1.out) HP1.out
      replace hp2 := hG.cell (cell_lt HP2.out) HP2.out
      replace hp3 := hG.cell (cell_lt HP3.out) HP3.out
      clear hT
      have hz1 : (0 : Int) ≤ (k : Int) ∧ (k : Int) < (xs.length : Int) := by omega
      obtain ⟨fb, hfb⟩ : ∃ fb, hadB (xs.take k) a l = fb := ⟨_, rfl⟩
      rw [hfb] at HTK
      rw [hfb]
      clear hfb
      obtain ⟨q1, hq1⟩ : ∃ q1, (ta == a) = q1 := ⟨_, rfl⟩
      obtain ⟨q2, hq2⟩ : ∃ q2, (tl == l) = q2 := ⟨_, rfl⟩
      rw [hq1, hq2] at HTK
      rcases fb with _ | _
      · rcases q1 with _ | _
        all_goals
          rcases q2 with _ | _
          all_goals
            go_wp2_with fail
            go_quiet (fail)
            go_wp2
            go_roundw
            case rel => exact ⟨k + 1, by omega, by go_num, by rw [HTK.out]; rfl, hG.drewN _⟩
            case measure => simp [intOf]; omega
      · clear hq1 hq2
        go_wp2_with fail
        go_quiet (fail)
        go_wp2
        go_roundw
        case rel => exact ⟨k + 1, by omega, by go_num, by rw [HTK.out, Bool.true_or], hG.drewN _⟩
        case measure => simp [intOf]; omega
    · obtain rfl : k = xs.length := by omega
      rw [List.take_length]
      have hB4 := below_call hB hG.below
      have t4 := (HT3.out).below hG.below
      have HAT4 : Hid (∀ b off, A3 = some ⟨b, off, none⟩ → w2.heap.size ≤ b ∧ b < wr.heap.size) := Lib.hid (fun b off e => ⟨(HAT.out b off e).1, Nat.lt_of_lt_of_le (HAT.out b off e).2 hG.size⟩)
      replace hp1 := hG.cell (cell_lt HP1.out) HP1.out
      replace hp2 := hG.cell (cell_lt HP2.out) HP2.out
      replace hp3 := hG.cell (cell_lt HP3.out) HP3.out
      have HO4 := Lib.hid ((HO.out).below hG.below)
      have hsz4 : w1.heap.size ≤ wr.heap.size := by have := hG.size; omega
      have hsz24 : w2.heap.size ≤ wr.heap.size := by have := hG.size; omega
      clear hG hB
      have HSA := Lib.hid (set_any a l z wr t4.tab (fun i hi => (t4.lows i hi).2))
      obtain ⟨hb, HHB⟩ : ∃ hb, Hid (hadB xs a l = hb) := ⟨_, Lib.hid rfl⟩
      rw [HHB.out]
      have HT4 := Lib.hid t4
      clear t4
      by_cases hE : setE h many a l z = 0
      · obtain ⟨hc, hz9⟩ := setE_fine hE
        obtain ⟨hz0, hz1⟩ := inB_true.1 hz9
        obtain ⟨ca0, ca1, cl0, cl1, _⟩ := checkE_ok hc
        obtain ⟨A, rfl⟩ := Int.eq_ofNat_of_zero_le ca0
        obtain ⟨L, rfl⟩ := Int.eq_ofNat_of_zero_le cl0
        have hL16 : L ≤ 16 := by omega
        have HC := Lib.hid hc
        have HE := Lib.hid hE
        have hv : pn A L < 2 ^ L := pn_lt (by omega) hL16
        have HIF := Lib.hid (hadB_iff (h := h) hc)
        rw [HXS.out, HHB.out] at HIF
        have HLN := Lib.hid (routes_len h z hL16 hv)
        rw [HXS.out, if_pos hz0] at HLN
        clear hc hE hz9 ca0 cl0 hv
        go_wp2_with fail
        (with_reducible refine HSA.out.mono ?_)
        rintro e w5 ⟨_, s2⟩
        obtain ⟨rfl, S', F', T⟩ := s2 HE.out
        replace T : TabTo wr S tb r (upd h L (pn A L) z) (if h L (pn A L) < 0 then many + 1 else many) w5 S' F' := T
        obtain ⟨m1, HM1⟩ : ∃ m1, Hid ((if h L (pn A L) < 0 then many + 1 else many) = m1) := ⟨_, Lib.hid rfl⟩
        rw [HM1.out] at T
        have hm1 : -900 < m1 := by rw [← HM1.out]; split <;> omega
        obtain ⟨t5, hb5⟩ := (HT4.out).to hsz4 T
        have hB5 := hB4.trans (hb5.mono (by omega))
        have HSN : Hid (∀ i, S' i → S i ∨ wr.heap.size ≤ i) := Lib.hid (fun i hi => (T.new i hi).imp id And.left)
        have hRB : ¬ S pb := fun hs => by have h1 := hlo _ hs; omega
        have hRB' : ¬ S' pb := fun hs => by
          rcases HSN.out _ hs with h1 | h1
          · exact hRB h1
          · omega
        (replace hp1 := T.chg.cell hRB hp1); (replace hp2 := T.chg.cell hRB hp2); (replace hp3 := T.chg.cell hRB hp3)
        have HO5 := Lib.hid ((HO4.out).chg T.chg (fun b off e => ⟨fun hs => by have h1 := hhi _ hs; have h2 := (HAT4.out b off e).1; omega, (HAT4.out b off e).2⟩))
        have hsz45 := T.chg.size
        clear s2 T HSA hb5 hB4
        have HRT5 := Lib.hid (routes_any w5 t5.tab (fun i hi => (t5.lows i hi).2))
        go_wp2_with fail
        (with_reducible refine HRT5.out.mono ?_)
        rintro e w6 ⟨v6, rfl, ho6, hb6⟩
        obtain ⟨A6, c6, rfl⟩ := ho6.shape
        obtain ⟨m, hm⟩ : ∃ m, (routesL (upd h L (pn A L) z)).length = m := ⟨_, rfl⟩
        rw [hm] at HLN
        rw [hm]
        clear hm ho6 HRT5
        have hB6 := below_call hB5 hb6
        (replace hp1 := (hb6.cell (p := ⟨pb, 0, none⟩) (cell_lt hp1)).trans hp1); (replace hp2 := (hb6.cell (p := ⟨pb, 1, none⟩) (cell_lt hp2)).trans hp2); (replace hp3 := (hb6.cell (p := ⟨pb, 2, none⟩) (cell_lt hp3)).trans hp3)
        have HO6 := Lib.hid ((HO5.out).below hb6)
        have t6 := t5.below hb6
        have hsz56 := hb6.size
        have HRB := Lib.hid hRB'
        clear hb6 t5 hB5 hRB hRB'
        by_cases hhad : 0 ≤ h L (pn A L)
        · have ehb : hb = true := HIF.out.2 hhad
          rw [if_pos hhad] at HLN
          have hmx := HLN.out
          obtain rfl : m = xs.length := by omega
          subst ehb
          clear HLN hhad hmx
          go_wp2
          go_ret
          exact ⟨rfl, hB6⟩
        · have ehb : hb = false := by
            rcases hb with _ | _
            · rfl
            · exact absurd (HIF.out.1 rfl) hhad
          rw [if_neg hhad] at HLN
          have hmx := HLN.out
          have hmb : ((m : Int) == (xs.length : Int) + 1) = true := by rw [beq_iff_eq]; omega
          have hneg1 : h L (pn A L) = -1 := by have := (HT3.out).tab.rng L (pn A L); omega
          have HBK := Lib.hid (upd_back h (z := z) hneg1)
          have HD1 : Hid (dropE (upd h L (pn A L) z) A L = 0) := Lib.hid (by
            unfold dropE
            rw [if_neg (by simpa using HC.out)]
            show (if upd h L (pn A L) z L (pn A L) < 0 then (5 : Int) else 0) = 0
            rw [upd_at, if_neg (by omega)])
          have HD2 : Hid (dropE h A L = 5) := Lib.hid (by
            unfold dropE
            rw [if_neg (by simpa using HC.out)]
            show (if h L (pn A L) < 0 then (5 : Int) else 0) = 5
            rw [if_pos (by omega)])
          subst ehb
          clear HLN hhad hmx hneg1
          have HDR := Lib.hid (drop_any A L w6 t6.tab (by omega))
          go_wp2_with fail
          (with_reducible refine HDR.out.mono ?_)
          rintro e w7 ⟨_, s2⟩
          obtain ⟨rfl, T⟩ := s2 HD1.out
          replace T : TabTo w6 S' tb r (upd (upd h L (pn A L) z) L (pn A L) (-1)) (m1 - 1) w7 S' F' := T
          rw [HBK.out] at T
          obtain ⟨t7, hb7⟩ := t6.to (by omega) T
          have hB7 := hB6.trans (hb7.mono (by omega))
          (replace hp1 := T.chg.cell HRB.out hp1); (replace hp2 := T.chg.cell HRB.out hp2); (replace hp3 := T.chg.cell HRB.out hp3)
          have HO7 := Lib.hid ((HO6.out).chg T.chg (fun b off e => ⟨fun hs => by
            have h2 := HAT4.out b off e
            rcases HSN.out _ hs with h1 | h1
            · have h3 := hhi _ h1; omega
            · omega, by have h2 := (HAT4.out b off e).2; omega⟩))
          clear s2 T HDR hb7 hB6 t6
          have HRT7 := Lib.hid (routes_any w7 t7.tab (fun i hi => (t7.lows i hi).2))
          go_wp2_with fail
          (with_reducible refine HRT7.out.mono ?_)
          rintro e w8 ⟨v8, rfl, ho8, hb8⟩
          obtain ⟨A8, c8, rfl⟩ := ho8.shape
          rw [HXS.out] at ho8
          rw [HXS.out]
          have HO8 := Lib.hid ((HO7.out).below hb8)
          have HO8' := Lib.hid ho8.rds
          (replace hp1 := (hb8.cell (p := ⟨pb, 0, none⟩) (cell_lt hp1)).trans hp1); (replace hp2 := (hb8.cell (p := ⟨pb, 1, none⟩) (cell_lt hp2)).trans hp2); (replace hp3 := (hb8.cell (p := ⟨pb, 2, none⟩) (cell_lt hp3)).trans hp3)
          have hB8 := below_call hB7 hb8
          have t8 := t7.below hb8
          clear hb8 ho8 t7 hB7 HRT7
          go_wp2_with fail
          (with_reducible refine (sameRoutes_any xs _ _ _ _ w8 HO8'.out HO8.out (by omega)).mono ?_)
          rintro e w9 ⟨rfl, g9⟩
          replace hp1 := g9.cell (cell_lt hp1) hp1
          replace hp2 := g9.cell (cell_lt hp2) hp2
          replace hp3 := g9.cell (cell_lt hp3) hp3
          have hB9 := below_call hB8 g9.below
          have t9 := t8.below g9.below
          clear g9 t8 hB8
          have HDR := Lib.hid (drop_any A L w9 t9.tab (by omega))
          go_wp2_with fail
          (with_reducible refine HDR.out.mono ?_)
          rintro e w10 ⟨s1, _⟩
          obtain ⟨rfl, g10⟩ := s1 (by rw [HD2.out]; decide)
          rw [HD2.out]
          have hB10 := below_call hB9 g10.below
          clear s1 g10 HDR t9 hB9 hp1 hp2 hp3
          go_wp2_with fail
          (with_reducible refine (error_errno 5 5 _ (HL.out.below (hpb ▸ hB10))).mono ?_)
          rintro e w11 ⟨rfl, hb11⟩
          go_wp2
          go_ret
          exact ⟨rfl, below_call hB10 hb11⟩
      · go_wp2_with fail
        (with_reducible refine HSA.out.mono ?_)
        rintro e w5 ⟨s1, _⟩
        obtain ⟨rfl, g5⟩ := s1 hE
        have t5 := (HT4.out).below g5.below
        have HO5 := Lib.hid ((HO4.out).below g5.below)
        have hB5 := below_call hB4 g5.below
        clear s1 g5 HSA hB4 hp1 hp2 hp3
        generalize setE h many a l z = se at *
        have HRT5 := Lib.hid (routes_any w5 t5.tab (fun i hi => (t5.lows i hi).2))
        clear t5
        go_wp2_with fail
        (with_reducible refine HRT5.out.mono ?_)
        rintro e w6 ⟨v6, rfl, ho6, hb6⟩
        obtain ⟨A6, c6, rfl⟩ := ho6.shape
        rw [HXS.out] at ho6
        rw [HXS.out]
        have HO6 := Lib.hid ((HO5.out).below hb6)
        have HO6' := Lib.hid ho6.rds
        have hB6 := below_call hB5 hb6
        clear hb6 ho6 hB5 HRT5
        go_wp2_with fail
        (with_reducible refine (sameRoutes_any xs _ _ _ _ w6 HO6'.out HO6.out (by omega)).mono ?_)
        rintro e w7 ⟨rfl, g7⟩
        go_wp2
        go_ret
        exact ⟨rfl, below_call hB6 g7.below⟩
end Go.Proofs.YtfgpppgehbpblaaDoor
