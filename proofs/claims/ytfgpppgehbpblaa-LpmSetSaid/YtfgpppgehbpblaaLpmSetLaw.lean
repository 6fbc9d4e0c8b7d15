/- The walk of the law LpmSet. -/
import Derived.Test.YtfgpppgehbpblaaLpmFact
import Derived.Test.YtfgpppgehbpblaaLawIn
namespace Go.Proofs.Ytfgpppgehbpblaa
open Go.RowKit Lp
theorem setE_ok {h : Hops} {many a l z : Int} (hE : setE h many a l z = 0) : checkE a l = 0 ∧ inB z 0 9 = true := by
  unfold setE at hE
  by_cases h1 : checkE a l = 0
  · rw [if_neg (by simpa using h1)] at hE
    refine ⟨h1, ?_⟩
    rcases h2 : inB z 0 9 with _ | _
    · rw [if_pos h2] at hE; cases hE
    · rfl
  · rw [if_pos h1] at hE; exact absurd hE h1
set_option maxRecDepth 100000 in
set_option maxHeartbeats 8000000 in
theorem lpmSet_any (A : Option Addr) (n c : Nat) (xss : List (List Int)) (a l z ad : Int) (w : World) (hr : RowsW w A n xss) (hn : n ≤ maxLen) :
    Calls Try.prog 3 #[.slice A n c, .agg #[.int .i64 a, .int .i64 l, .int .i64 z], .int .i64 ad] w fun e w' => e = .returned (.bool true) ∧ Below w.heap.size w w' := by
  have hB : Below w.heap.size w (w.alloc (.cells #[.int .i64 a, .int .i64 l, .int .i64 z] 26)) := (Below.refl _ _).alloc (Nat.le_refl _) _
  have hp1 : (w.alloc (.cells #[.int .i64 a, .int .i64 l, .int .i64 z] 26)).cell? ⟨w.heap.size, 0, none⟩ = some (.int .i64 a) := by simp
  have hp2 : (w.alloc (.cells #[.int .i64 a, .int .i64 l, .int .i64 z] 26)).cell? ⟨w.heap.size, 1, none⟩ = some (.int .i64 l) := by simp
  have hp3 : (w.alloc (.cells #[.int .i64 a, .int .i64 l, .int .i64 z] 26)).cell? ⟨w.heap.size, 2, none⟩ = some (.int .i64 z) := by simp
  have HN := Lib.hid hn
  clear hn
  go_enter Try.func3, Try.ntmps3
  go_wp2_with fail
  (with_reducible refine (lpmFact_any _).mono ?_)
  rintro e w1 ⟨rfl, hb⟩
  replace hp1 := (hb.cell (p := ⟨w.heap.size, 0, none⟩) (cell_lt hp1)).trans hp1
  replace hp2 := (hb.cell (p := ⟨w.heap.size, 1, none⟩) (cell_lt hp2)).trans hp2
  replace hp3 := (hb.cell (p := ⟨w.heap.size, 2, none⟩) (cell_lt hp3)).trans hp3
  have hlt1 : w.heap.size < w1.heap.size := cell_lt hp1
  have hsz1 := hB.size
  replace hB := below_call hB hb
  clear hb
  go_wp2_with fail
  (with_reducible refine (routed_any _ _ _ _ _ (hr.below hB) HN.out).mono ?_)
  rintro e w2 ⟨tb, r, F, h, many, S, rfl, t, _, hb⟩
  have hlo : ∀ i, S i → w1.heap.size ≤ i := fun i hi => (t.lows i hi).1
  replace hp1 := (hb.cell (p := ⟨w.heap.size, 0, none⟩) (cell_lt hp1)).trans hp1
  replace hp2 := (hb.cell (p := ⟨w.heap.size, 1, none⟩) (cell_lt hp2)).trans hp2
  replace hp3 := (hb.cell (p := ⟨w.heap.size, 2, none⟩) (cell_lt hp3)).trans hp3
  have hRB : ¬ S w.heap.size := fun hs => by
    have h1 := hlo _ hs
    omega
  replace hB := below_call hB hb
  have hbs := hb.size
  clear hb
  rcases hin : inB ad 0 65535 with _ | _
  · go_wp2_with fail
    (with_reducible refine (find_bad (tb := tb) _ _ hin).mono ?_)
    rintro e w3 ⟨rfl, rfl⟩
    go_wp2_with ((go_at_call 13; refine (in_any _ _ _ _).mono ?_; rintro e w' ⟨rfl, rfl⟩); rw [hin])
    go_ret
    exact ⟨rfl, hB⟩
  · obtain ⟨x0, x1⟩ := inB_true.1 hin
    obtain ⟨x, rfl⟩ := Int.eq_ofNat_of_zero_le x0
    have hx : x < 65536 := by omega
    obtain ⟨B, HBB⟩ : ∃ B, Hid (best h x 17 = B) := ⟨_, Lib.hid rfl⟩
    obtain ⟨b1, b2, b3⟩ := best_range h x 17
    rw [HBB.out] at b1 b2 b3
    have HB3 := Lib.hid b3
    clear b3
    have hsz2 : w1.heap.size ≤ w2.heap.size := hbs
    have HF := Lib.hid (find_in x w2 t.tab hx)
    rw [HBB.out] at HF
    by_cases hneg : B.1 < 0
    · by_cases hE : setE h many a l z = 0
      · obtain ⟨hc, hz9⟩ := setE_ok hE; (obtain ⟨hz0, hz1⟩ := inB_true.1 hz9); (obtain ⟨ca0, ca1, cl0, cl1, _⟩ := checkE_ok hc); (obtain ⟨A, rfl⟩ := Int.eq_ofNat_of_zero_le ca0); (obtain ⟨L, rfl⟩ := Int.eq_ofNat_of_zero_le cl0); (have hL16 : L ≤ 16 := by omega)
        by_cases hp : pn x L = pn A L
        · have HIN : Hid (inPB A L x = true) := Lib.hid (by rw [inPB_pn hc]; exact decide_eq_true hp)
          have HB2 : Hid (best (upd h L (pn A L) z) x 17 = (z, L)) := Lib.hid ((best_upd hL16 hz0).1 hp (.inl (by rw [HBB.out]; exact hneg)))
          have hpos2 : 0 ≤ ((z, L) : Int × Nat).1 := hz0
          have HCE := Lib.hid hc; have HEE := Lib.hid hE; clear hc hE; go_wp2_with fail; refine HF.out.mono ?_; rintro e w3 ⟨f1, f2, g3⟩; (obtain rfl := f1 hneg); clear f1 f2 HF; replace hp1 := g3.cell (cell_lt hp1) hp1; replace hp2 := g3.cell (cell_lt hp2) hp2; replace hp3 := g3.cell (cell_lt hp3) hp3; have t3 := t.below g3.below; replace hB := below_call hB g3.below; have hsz3 : w1.heap.size ≤ w3.heap.size := Nat.le_trans hsz2 g3.size; clear g3 t; have HS := Lib.hid (set_any A L z w3 t3.tab (fun i hi => (t3.lows i hi).2)); go_wp2_with ((go_at_call 13; refine (in_any _ _ _ _).mono ?_; rintro e w' ⟨rfl, rfl⟩); rw [hin]); refine HS.out.mono ?_; rintro e w4 ⟨s1, s2⟩; clear HS; (obtain ⟨rfl, S', F', T⟩ := s2 HEE.out); replace T : TabTo w3 S tb r (upd h L (pn A L) z) _ w4 S' F' := T; (obtain ⟨t4, hb4⟩ := t3.to hsz3 T); replace hB := hB.trans (hb4.mono (Nat.le_of_lt hlt1)); replace hp1 := T.chg.cell hRB hp1; replace hp2 := T.chg.cell hRB hp2; replace hp3 := T.chg.cell hRB hp3; clear s1 s2 T t3 hb4
          have HF2 := Lib.hid (find_in x w4 t4.tab hx); rw [HB2.out] at HF2; go_wp2_with fail; refine HF2.out.mono ?_; rintro e w5 ⟨f3, f4, g5⟩; (obtain rfl := f4 hpos2); clear f3 f4 HF2 t4; replace hp1 := g5.cell (cell_lt hp1) hp1; replace hp2 := g5.cell (cell_lt hp2) hp2; replace hp3 := g5.cell (cell_lt hp3) hp3; replace hB := below_call hB g5.below; clear g5
          go_wp2_with fail; (with_reducible refine (refInP_any _ _ _ _ HCE.out ⟨x0, x1⟩).mono ?_); rintro e w6 ⟨rfl, g6⟩; rw [HIN.out]; replace hp1 := g6.cell (cell_lt hp1) hp1; replace hp2 := g6.cell (cell_lt hp2) hp2; replace hp3 := g6.cell (cell_lt hp3) hp3; replace hB := below_call hB g6.below; clear g6
          go_wp2
          go_ret
          exact ⟨rfl, hB⟩
        · have HIN : Hid (inPB A L x = false) := Lib.hid (by rw [inPB_pn hc]; exact decide_eq_false hp)
          have HB2 : Hid (best (upd h L (pn A L) z) x 17 = B) := Lib.hid (((best_upd hL16 hz0).2 (fun h => hp h.1)).trans HBB.out)
          have hpos2 := hneg
          have HCE := Lib.hid hc; have HEE := Lib.hid hE; clear hc hE; go_wp2_with fail; refine HF.out.mono ?_; rintro e w3 ⟨f1, f2, g3⟩; (obtain rfl := f1 hneg); clear f1 f2 HF; replace hp1 := g3.cell (cell_lt hp1) hp1; replace hp2 := g3.cell (cell_lt hp2) hp2; replace hp3 := g3.cell (cell_lt hp3) hp3; have t3 := t.below g3.below; replace hB := below_call hB g3.below; have hsz3 : w1.heap.size ≤ w3.heap.size := Nat.le_trans hsz2 g3.size; clear g3 t; have HS := Lib.hid (set_any A L z w3 t3.tab (fun i hi => (t3.lows i hi).2)); go_wp2_with ((go_at_call 13; refine (in_any _ _ _ _).mono ?_; rintro e w' ⟨rfl, rfl⟩); rw [hin]); refine HS.out.mono ?_; rintro e w4 ⟨s1, s2⟩; clear HS; (obtain ⟨rfl, S', F', T⟩ := s2 HEE.out); replace T : TabTo w3 S tb r (upd h L (pn A L) z) _ w4 S' F' := T; (obtain ⟨t4, hb4⟩ := t3.to hsz3 T); replace hB := hB.trans (hb4.mono (Nat.le_of_lt hlt1)); replace hp1 := T.chg.cell hRB hp1; replace hp2 := T.chg.cell hRB hp2; replace hp3 := T.chg.cell hRB hp3; clear s1 s2 T t3 hb4
          have HF2 := Lib.hid (find_in x w4 t4.tab hx); rw [HB2.out] at HF2; go_wp2_with fail; refine HF2.out.mono ?_; rintro e w5 ⟨f3, f4, g5⟩; (obtain rfl := f3 hpos2); clear f3 f4 HF2 t4; replace hp1 := g5.cell (cell_lt hp1) hp1; replace hp2 := g5.cell (cell_lt hp2) hp2; replace hp3 := g5.cell (cell_lt hp3) hp3; replace hB := below_call hB g5.below; clear g5
          go_wp2_with fail; (with_reducible refine (refInP_any _ _ _ _ HCE.out ⟨x0, x1⟩).mono ?_); rintro e w6 ⟨rfl, g6⟩; rw [HIN.out]; replace hp1 := g6.cell (cell_lt hp1) hp1; replace hp2 := g6.cell (cell_lt hp2) hp2; replace hp3 := g6.cell (cell_lt hp3) hp3; replace hB := below_call hB g6.below; clear g6
          go_wp2_with fail
          go_quiet (fail)
          go_wp2
          go_ret
          exact ⟨rfl, below_drewN hB _⟩
      · go_wp2_with fail; refine HF.out.mono ?_; rintro e w3 ⟨f1, f2, g3⟩; (obtain rfl := f1 hneg); clear f1 f2 HF; replace hp1 := g3.cell (cell_lt hp1) hp1; replace hp2 := g3.cell (cell_lt hp2) hp2; replace hp3 := g3.cell (cell_lt hp3) hp3; have t3 := t.below g3.below; replace hB := below_call hB g3.below; have hsz3 := g3.size; have htz := t.tab; clear g3 t; have HS := Lib.hid (set_any a l z w3 t3.tab (fun i hi => (t3.lows i hi).2)); go_wp2_with ((go_at_call 13; refine (in_any _ _ _ _).mono ?_; rintro e w' ⟨rfl, rfl⟩); rw [hin]); refine HS.out.mono ?_; rintro e w4 ⟨s1, s2⟩; clear HS; (obtain ⟨rfl, g4⟩ := s1 hE); go_wp2; go_ret; exact ⟨rfl, below_call hB g4.below⟩
    · have hpos : 0 ≤ B.1 := Int.not_lt.1 hneg
      clear hneg
      by_cases hE : setE h many a l z = 0
      · obtain ⟨hc, hz9⟩ := setE_ok hE; (obtain ⟨hz0, hz1⟩ := inB_true.1 hz9); (obtain ⟨ca0, ca1, cl0, cl1, _⟩ := checkE_ok hc); (obtain ⟨A, rfl⟩ := Int.eq_ofNat_of_zero_le ca0); (obtain ⟨L, rfl⟩ := Int.eq_ofNat_of_zero_le cl0); (have hL16 : L ≤ 16 := by omega)
        by_cases hp : pn x L = pn A L
        · have HIN : Hid (inPB A L x = true) := Lib.hid (by rw [inPB_pn hc]; exact decide_eq_true hp)
          by_cases hlong : B.2 ≤ L
          · have HB2 : Hid (best (upd h L (pn A L) z) x 17 = (z, L)) := Lib.hid ((best_upd hL16 hz0).1 hp (.inr (by rw [HBB.out]; exact hlong)))
            have hpos2 : 0 ≤ ((z, L) : Int × Nat).1 := hz0
            have hlong' : (B.2 : Int) ≤ (L : Int) := by omega
            have HCE := Lib.hid hc; have HEE := Lib.hid hE; clear hc hE; go_wp2_with fail; refine HF.out.mono ?_; rintro e w3 ⟨f1, f2, g3⟩; (obtain rfl := f2 hpos); clear f1 f2 HF; replace hp1 := g3.cell (cell_lt hp1) hp1; replace hp2 := g3.cell (cell_lt hp2) hp2; replace hp3 := g3.cell (cell_lt hp3) hp3; have t3 := t.below g3.below; replace hB := below_call hB g3.below; have hsz3 : w1.heap.size ≤ w3.heap.size := Nat.le_trans hsz2 g3.size; clear g3 t; have HS := Lib.hid (set_any A L z w3 t3.tab (fun i hi => (t3.lows i hi).2)); go_wp2_with ((go_at_call 13; refine (in_any _ _ _ _).mono ?_; rintro e w' ⟨rfl, rfl⟩); rw [hin]); refine HS.out.mono ?_; rintro e w4 ⟨s1, s2⟩; clear HS; (obtain ⟨rfl, S', F', T⟩ := s2 HEE.out); replace T : TabTo w3 S tb r (upd h L (pn A L) z) _ w4 S' F' := T; (obtain ⟨t4, hb4⟩ := t3.to hsz3 T); replace hB := hB.trans (hb4.mono (Nat.le_of_lt hlt1)); replace hp1 := T.chg.cell hRB hp1; replace hp2 := T.chg.cell hRB hp2; replace hp3 := T.chg.cell hRB hp3; clear s1 s2 T t3 hb4
            have HF2 := Lib.hid (find_in x w4 t4.tab hx); rw [HB2.out] at HF2; go_wp2_with fail; refine HF2.out.mono ?_; rintro e w5 ⟨f3, f4, g5⟩; (obtain rfl := f4 hpos2); clear f3 f4 HF2 t4; replace hp1 := g5.cell (cell_lt hp1) hp1; replace hp2 := g5.cell (cell_lt hp2) hp2; replace hp3 := g5.cell (cell_lt hp3) hp3; replace hB := below_call hB g5.below; clear g5
            go_wp2_with fail; (with_reducible refine (refInP_any _ _ _ _ HCE.out ⟨x0, x1⟩).mono ?_); rintro e w6 ⟨rfl, g6⟩; rw [HIN.out]; replace hp1 := g6.cell (cell_lt hp1) hp1; replace hp2 := g6.cell (cell_lt hp2) hp2; replace hp3 := g6.cell (cell_lt hp3) hp3; replace hB := below_call hB g6.below; clear g6
            go_wp2
            go_ret
            exact ⟨rfl, hB⟩
          · have HB2 : Hid (best (upd h L (pn A L) z) x 17 = B) := Lib.hid (((best_upd hL16 hz0).2 (fun h => by rw [HBB.out] at h; exact absurd h.2 (by omega))).trans HBB.out)
            have hpos2 := hpos
            have hlong' : ¬ (B.2 : Int) ≤ (L : Int) := by omega
            have HCE := Lib.hid hc; have HEE := Lib.hid hE; clear hc hE; go_wp2_with fail; refine HF.out.mono ?_; rintro e w3 ⟨f1, f2, g3⟩; (obtain rfl := f2 hpos); clear f1 f2 HF; replace hp1 := g3.cell (cell_lt hp1) hp1; replace hp2 := g3.cell (cell_lt hp2) hp2; replace hp3 := g3.cell (cell_lt hp3) hp3; have t3 := t.below g3.below; replace hB := below_call hB g3.below; have hsz3 : w1.heap.size ≤ w3.heap.size := Nat.le_trans hsz2 g3.size; clear g3 t; have HS := Lib.hid (set_any A L z w3 t3.tab (fun i hi => (t3.lows i hi).2)); go_wp2_with ((go_at_call 13; refine (in_any _ _ _ _).mono ?_; rintro e w' ⟨rfl, rfl⟩); rw [hin]); refine HS.out.mono ?_; rintro e w4 ⟨s1, s2⟩; clear HS; (obtain ⟨rfl, S', F', T⟩ := s2 HEE.out); replace T : TabTo w3 S tb r (upd h L (pn A L) z) _ w4 S' F' := T; (obtain ⟨t4, hb4⟩ := t3.to hsz3 T); replace hB := hB.trans (hb4.mono (Nat.le_of_lt hlt1)); replace hp1 := T.chg.cell hRB hp1; replace hp2 := T.chg.cell hRB hp2; replace hp3 := T.chg.cell hRB hp3; clear s1 s2 T t3 hb4
            have HF2 := Lib.hid (find_in x w4 t4.tab hx); rw [HB2.out] at HF2; go_wp2_with fail; refine HF2.out.mono ?_; rintro e w5 ⟨f3, f4, g5⟩; (obtain rfl := f4 hpos2); clear f3 f4 HF2 t4; replace hp1 := g5.cell (cell_lt hp1) hp1; replace hp2 := g5.cell (cell_lt hp2) hp2; replace hp3 := g5.cell (cell_lt hp3) hp3; replace hB := below_call hB g5.below; clear g5
            go_wp2_with fail; (with_reducible refine (refInP_any _ _ _ _ HCE.out ⟨x0, x1⟩).mono ?_); rintro e w6 ⟨rfl, g6⟩; rw [HIN.out]; replace hp1 := g6.cell (cell_lt hp1) hp1; replace hp2 := g6.cell (cell_lt hp2) hp2; replace hp3 := g6.cell (cell_lt hp3) hp3; replace hB := below_call hB g6.below; clear g6
            go_wp2_with fail
            go_quiet (fail)
            go_wp2
            go_ret
            exact ⟨rfl, below_drewN hB _⟩
        · have HIN : Hid (inPB A L x = false) := Lib.hid (by rw [inPB_pn hc]; exact decide_eq_false hp)
          have HB2 : Hid (best (upd h L (pn A L) z) x 17 = B) := Lib.hid (((best_upd hL16 hz0).2 (fun h => hp h.1)).trans HBB.out)
          have hpos2 := hpos
          have HCE := Lib.hid hc; have HEE := Lib.hid hE; clear hc hE; go_wp2_with fail; refine HF.out.mono ?_; rintro e w3 ⟨f1, f2, g3⟩; (obtain rfl := f2 hpos); clear f1 f2 HF; replace hp1 := g3.cell (cell_lt hp1) hp1; replace hp2 := g3.cell (cell_lt hp2) hp2; replace hp3 := g3.cell (cell_lt hp3) hp3; have t3 := t.below g3.below; replace hB := below_call hB g3.below; have hsz3 : w1.heap.size ≤ w3.heap.size := Nat.le_trans hsz2 g3.size; clear g3 t; have HS := Lib.hid (set_any A L z w3 t3.tab (fun i hi => (t3.lows i hi).2)); go_wp2_with ((go_at_call 13; refine (in_any _ _ _ _).mono ?_; rintro e w' ⟨rfl, rfl⟩); rw [hin]); refine HS.out.mono ?_; rintro e w4 ⟨s1, s2⟩; clear HS; (obtain ⟨rfl, S', F', T⟩ := s2 HEE.out); replace T : TabTo w3 S tb r (upd h L (pn A L) z) _ w4 S' F' := T; (obtain ⟨t4, hb4⟩ := t3.to hsz3 T); replace hB := hB.trans (hb4.mono (Nat.le_of_lt hlt1)); replace hp1 := T.chg.cell hRB hp1; replace hp2 := T.chg.cell hRB hp2; replace hp3 := T.chg.cell hRB hp3; clear s1 s2 T t3 hb4
          have HF2 := Lib.hid (find_in x w4 t4.tab hx); rw [HB2.out] at HF2; go_wp2_with fail; refine HF2.out.mono ?_; rintro e w5 ⟨f3, f4, g5⟩; (obtain rfl := f4 hpos2); clear f3 f4 HF2 t4; replace hp1 := g5.cell (cell_lt hp1) hp1; replace hp2 := g5.cell (cell_lt hp2) hp2; replace hp3 := g5.cell (cell_lt hp3) hp3; replace hB := below_call hB g5.below; clear g5
          go_wp2_with fail; (with_reducible refine (refInP_any _ _ _ _ HCE.out ⟨x0, x1⟩).mono ?_); rintro e w6 ⟨rfl, g6⟩; rw [HIN.out]; replace hp1 := g6.cell (cell_lt hp1) hp1; replace hp2 := g6.cell (cell_lt hp2) hp2; replace hp3 := g6.cell (cell_lt hp3) hp3; replace hB := below_call hB g6.below; clear g6
          go_wp2_with fail
          go_quiet (fail)
          go_wp2
          go_ret
          exact ⟨rfl, below_drewN hB _⟩
      · go_wp2_with fail; refine HF.out.mono ?_; rintro e w3 ⟨f1, f2, g3⟩; (obtain rfl := f2 hpos); clear f1 f2 HF; replace hp1 := g3.cell (cell_lt hp1) hp1; replace hp2 := g3.cell (cell_lt hp2) hp2; replace hp3 := g3.cell (cell_lt hp3) hp3; have t3 := t.below g3.below; replace hB := below_call hB g3.below; have hsz3 := g3.size; have htz := t.tab; clear g3 t; have HS := Lib.hid (set_any a l z w3 t3.tab (fun i hi => (t3.lows i hi).2)); go_wp2_with ((go_at_call 13; refine (in_any _ _ _ _).mono ?_; rintro e w' ⟨rfl, rfl⟩); rw [hin]); refine HS.out.mono ?_; rintro e w4 ⟨s1, s2⟩; clear HS; (obtain ⟨rfl, g4⟩ := s1 hE); go_wp2; go_ret; exact ⟨rfl, below_call hB g4.below⟩
end Go.Proofs.Ytfgpppgehbpblaa
