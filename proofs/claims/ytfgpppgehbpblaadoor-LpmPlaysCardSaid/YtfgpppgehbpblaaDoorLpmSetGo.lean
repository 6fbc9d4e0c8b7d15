/- The contract of lpm.Set. -/
import Derived.Test.YtfgpppgehbpblaaDoorLpmFind
import Derived.Deep.DeepCutAuto
import Derived.Deep.CutRange
import Derived.Deep.CutBlock
import Derived.Deep.RegionHeld3
namespace Go.Proofs.YtfgpppgehbpblaaDoor
open Go.RowKit Lp
attribute [local go_sem ↓] Go.wp_at_zero Go.wp_at_succ
/-- What is wrong with a route that is to be set. -/
def setE (h : Hops) (many a l z : Int) : Int := if checkE a l ≠ 0 then checkE a l else if inB z 0 9 = false then 1 else if h l.toNat (pn a.toNat l.toNat) < 0 ∧ many = 32 then 4 else 0
/-- The table behind a change: it holds h, and nothing else has changed. -/
structure TabTo (w : World) (S : Nat → Prop) (tb r : Nat) (h : Hops) (many : Int) (w' : World) (S' : Nat → Prop) (F' : Nat → Nat → Option Nat) : Prop where
  tab : TabF w' S' tb r F' h many
  chg : Chg S w w'
  more : ∀ i, S i → S' i
  new : ∀ i, S' i → S i ∨ (w.heap.size ≤ i ∧ i < w'.heap.size)
def SetPost (S : Nat → Prop) (tb r : Nat) (h : Hops) (many a l z : Int) (w : World) (e : Ending) (w' : World) : Prop :=
  (setE h many a l z ≠ 0 → e = .returned (.iface 66 (.int .i64 (setE h many a l z))) ∧ Grew w w') ∧
  (setE h many a l z = 0 → e = .returned .nilIface ∧ ∃ S' F', TabTo w S tb r (upd h l.toNat (pn a.toNat l.toNat) z) (if h l.toNat (pn a.toNat l.toNat) < 0 then many + 1 else many) w' S' F')
theorem Chg.cell {S : Nat → Prop} {w w' : World} (h : Chg S w w') {p : Addr} {v : Value} (hn : ¬ S p.block) (hv : w.cell? p = some v) : w'.cell? p = some v :=
  (World.cell?_of_block (w := w) (h.block p.block (cell_lt hv) hn)).trans hv
section
variable {S S' : Nat → Prop} {tb r : Nat} {F F' : Nat → Nat → Option Nat} {h : Hops} {many : Int}
theorem TabTo.refl' {w : World} (t : TabF w S tb r F h many) : TabTo w S tb r h many w S F := ⟨t, Chg.refl _ _, fun _ h => h, fun _ h => .inl h⟩
theorem TabTo.add {w wr : World} (T : TabTo w S tb r h many wr S' F') {k v b j : Nat} (hb : F' k v = some b) (hj : j < 2) (hn : F' (k + 1) (2 * v + j) = none) (hk : k < 16) :
    TabTo w S tb r h many ((wr.alloc (.cells #[.pointer none, .pointer none, .int .i64 (-1)] 81)).setCell ⟨b, j, none⟩ (.pointer (some ⟨wr.heap.size, 0, none⟩))) (fun i => S' i ∨ i = wr.heap.size) (addF F' (k + 1) (2 * v + j) wr.heap.size) := by
  refine ⟨T.tab.add hb hj hn hk, ?_, fun i hi => .inl (T.more i hi), fun i hi => ?_⟩
  · refine T.chg.trans (((Chg.refl S' wr).alloc _).setCell (.inl (T.tab.mine _ _ _ hb).1) j _) fun i hi => ?_
    rcases T.new i hi with h1 | h1
    · exact .inl h1
    · exact .inr h1.1
  · have := T.chg.size
    rcases hi with hi | hi
    · rcases T.new i hi with h1 | h1
      · exact .inl h1
      · exact .inr ⟨h1.1, by simp; omega⟩
    · subst hi
      exact .inr ⟨this, by simp⟩
theorem TabTo.hop {w wr : World} (T : TabTo w S tb r h many wr S' F') {k v b : Nat} (hb : F' k v = some b) {z : Int} (hz : -1 ≤ z ∧ z ≤ 9) :
    TabTo w S tb r (upd h k v z) many (wr.setCell ⟨b, 2, none⟩ (.int .i64 z)) S' F' := by
  refine ⟨T.tab.set_hop hb hz, ?_, T.more, fun i hi => ?_⟩
  · refine T.chg.trans ((Chg.refl S' wr).setCell (.inl (T.tab.mine _ _ _ hb).1) 2 _) fun i hi => ?_
    rcases T.new i hi with h1 | h1
    · exact .inl h1
    · exact .inr h1.1
  · rcases T.new i hi with h1 | h1
    · exact .inl h1
    · exact .inr ⟨h1.1, by simp; exact h1.2⟩
/-- What was so far is one step more. -/
theorem TabTo.after {w w1 wr : World} {h0 : Hops} {m0 : Int} {F0 : Nat → Nat → Option Nat} (c : Chg S w w1) (_ : TabF w1 S tb r F0 h0 m0) (T : TabTo w1 S tb r h many wr S' F') : TabTo w S tb r h many wr S' F' :=
  ⟨T.tab, c.trans T.chg fun _ h => .inl h, T.more, fun i hi => by
    rcases T.new i hi with h1 | h1
    · exact .inl h1
    · exact .inr ⟨Nat.le_trans c.size h1.1, h1.2⟩⟩
set_option maxRecDepth 100000 in
set_option maxHeartbeats 8000000 in
theorem set_any (a l z : Int) (w : World) (t : TabF w S tb r F h many) (hS : ∀ i, S i → i < w.heap.size) :
    Calls Tryd.prog 22 #[.pointer (some ⟨tb, 0, none⟩), .agg #[.int .i64 a, .int .i64 l, .int .i64 z]] w (SetPost S tb r h many a l z w) := by
  have hG : Grew w (w.alloc (.cells #[.int .i64 a, .int .i64 l, .int .i64 z] 52)) := (Grew.refl w).alloc _
  have hp1 : (w.alloc (.cells #[.int .i64 a, .int .i64 l, .int .i64 z] 52)).cell? ⟨w.heap.size, 0, none⟩ = some (.int .i64 a) := by simp
  have hp2 : (w.alloc (.cells #[.int .i64 a, .int .i64 l, .int .i64 z] 52)).cell? ⟨w.heap.size, 1, none⟩ = some (.int .i64 l) := by simp
  have hp3 : (w.alloc (.cells #[.int .i64 a, .int .i64 l, .int .i64 z] 52)).cell? ⟨w.heap.size, 2, none⟩ = some (.int .i64 z) := by simp
  have hRB : ¬ S w.heap.size := fun h => absurd (hS _ h) (Nat.lt_irrefl _)
  by_cases hc : checkE a l = 0
  · have HC := Lib.hid hc
    obtain ⟨a0, a1, l0, l1, _⟩ := checkE_ok hc
    rcases hz : inB z 0 9 with _ | _
    · have HE : Hid (setE h many a l z = 1) := Lib.hid (by unfold setE; rw [if_neg (by simpa using hc), if_pos hz])
      clear hc
      go_enter Tryd.func22, Tryd.ntmps22
      go_wp2_with fail
      (with_reducible refine (check_okW _ _ _ HC.out).mono ?_)
      rintro e w2 ⟨rfl, hG2⟩
      have q3 := hG2.cell (cell_lt hp3) hp3
      go_wp2_with ((go_at_call 31; refine (within_any _ _ _ _).mono ?_; rintro e w' ⟨rfl, rfl⟩); rw [hz])
      go_ret
      exact ⟨fun _ => ⟨by rw [HE.out]; rfl, hG.trans' hG2⟩, fun h0 => by rw [HE.out] at h0; cases h0⟩
    · obtain ⟨z0, z9⟩ := inB_true.1 hz
      obtain ⟨A, rfl⟩ := Int.eq_ofNat_of_zero_le a0
      obtain ⟨L, rfl⟩ := Int.eq_ofNat_of_zero_le l0
      have hA : A < 65536 := by omega
      have hL : L ≤ 16 := by omega
      have HE : Hid (setE h many A L z = if h L (pn A L) < 0 ∧ many = 32 then 4 else 0) := Lib.hid (by unfold setE; rw [if_neg (by simpa using hc), if_neg (by rw [hz]; simp)]; rfl)
      obtain ⟨m0, m32⟩ := t.mrng
      clear hc
      go_enter Tryd.func22, Tryd.ntmps22
      go_wp2_with fail
      (with_reducible refine (check_okW _ _ _ HC.out).mono ?_)
      rintro e w2 ⟨rfl, hG2⟩
      replace hp1 := hG2.cell (cell_lt hp1) hp1
      replace hp2 := hG2.cell (cell_lt hp2) hp2
      replace hp3 := hG2.cell (cell_lt hp3) hp3
      replace hG := hG.trans' hG2
      clear hG2
      go_upto_region 6 with ((go_at_call 31; refine (within_any _ _ _ _).mono ?_; rintro e w' ⟨rfl, rfl⟩); rw [hz])
      go_cut [34] from 20 to 34 (fun s wx => s = .bool (decide (h L (pn A L) < 0)) ∧ Grew w2 wx)
      case first =>
        have t2 := t.grew hG
        rcases hF : F L (pn A L) with _ | b
        · have HX : Hid (decide (h L (pn A L) < 0) = true) := Lib.hid (by rw [t.no _ _ hF]; rfl)
          go_wp2_with fail
          (with_reducible refine (at_any A L _ t2 hA hL).mono ?_)
          rintro e w3 ⟨rfl, hG3⟩
          rw [hF, ptrV_none]
          clear hF
          go_wp2_with fail
          go_meet
          case rel => exact ⟨by rw [HX.out], hG3⟩
        · have HF := Lib.hid hF
          go_wp2_with fail
          (with_reducible refine (at_any A L _ t2 hA hL).mono ?_)
          rintro e w3 ⟨rfl, hG3⟩
          rw [hF, ptrV_some]
          have q1 := hG3.cell (cell_lt hp1) hp1
          have q2 := hG3.cell (cell_lt hp2) hp2
          clear hF
          go_wp2_with fail
          (with_reducible refine (at_any A L _ (t2.grew hG3) hA hL).mono ?_)
          rintro e w4 ⟨rfl, hG4⟩
          rw [HF.out, ptrV_some]
          have hh := ((t2.grew hG3).grew hG4).hop_cell HF.out
          by_cases hneg : h L (pn A L) < 0
          · have HX : Hid (decide (h L (pn A L) < 0) = true) := Lib.hid (decide_eq_true hneg)
            generalize h L (pn A L) = hv at *
            go_wp2_with fail
            go_meet
            case rel => exact ⟨by rw [HX.out], hG3.trans' hG4⟩
          · have HX : Hid (decide (h L (pn A L) < 0) = false) := Lib.hid (decide_eq_false hneg)
            generalize h L (pn A L) = hv at *
            go_wp2_with fail
            go_meet
            case rel => exact ⟨by rw [HX.out], hG3.trans' hG4⟩
      case rest =>
      obtain ⟨rfl, hG5⟩ := hcut
      obtain ⟨w5, rfl⟩ : ∃ w5 : World, w5 = wc := ⟨_, rfl⟩
      replace hp1 := hG5.cell (cell_lt hp1) hp1
      replace hp2 := hG5.cell (cell_lt hp2) hp2
      replace hp3 := hG5.cell (cell_lt hp3) hp3
      replace hG := hG.trans' hG5
      clear hG5
      have t5 := t.grew hG
      obtain ⟨m1, HM⟩ : ∃ m1, Hid ((if h L (pn A L) < 0 then many + 1 else many) = m1) := ⟨_, Lib.hid rfl⟩
      obtain ⟨db, HDB⟩ : ∃ db, Hid (decide (h L (pn A L) < 0) = db) := ⟨_, Lib.hid rfl⟩
      rw [HDB.out]
      go_upto_if 34 with (fail)
      go_cut [39] from 35 to 47 (fun _ wx => TabF wx S tb r F h m1 ∧ Chg S w wx ∧ Chg S w5 wx ∧ setE h many A L z = 0)
      case first =>
        have hmc := t5.many_cell
        have hmz := t5.tab_unfrozen 1
        rcases db with _ | _
        rotate_left
        · have hneg : h L (pn A L) < 0 := of_decide_eq_true HDB.out
          by_cases h32 : many = 32
          · have HX : Hid (setE h many A L z = 4) := Lib.hid (by rw [HE.out, if_pos ⟨hneg, h32⟩])
            have hb : (many == 32) = true := beq_iff_eq.2 h32
            clear hneg h32
            go_wp2
            go_ret
            exact ⟨fun _ => ⟨by rw [HX.out]; rfl, hG⟩, fun h0 => by rw [HX.out] at h0; cases h0⟩
          · have HX : Hid (setE h many A L z = 0) := Lib.hid (by rw [HE.out, if_neg (fun h => h32 h.2)])
            have hb : (many == 32) = false := beq_eq_false_iff_ne.2 h32
            have HM2 : Hid (many + 1 = m1) := Lib.hid (by rw [← HM.out, if_pos hneg])
            have hm31 : many ≤ 31 := by omega
            clear hneg h32
            go_wp2_with fail
            go_meet
            case rel =>
              rw [← HM2.out]
              exact ⟨t5.set_many ⟨by omega, by omega⟩, (Chg.of_grew hG).setCell (.inl t.tmine) 1 _, (Chg.refl S w5).setCell (.inl t.tmine) 1 _, HX.out⟩
        · have hneg : ¬ h L (pn A L) < 0 := of_decide_eq_false HDB.out
          have HX : Hid (setE h many A L z = 0) := Lib.hid (by rw [HE.out, if_neg (fun h => hneg h.1)])
          have HM2 : Hid (many = m1) := Lib.hid (by rw [← HM.out, if_neg hneg])
          clear hneg
          go_wp2_with fail
          go_meet
          case rel =>
            rw [← HM2.out]
            exact ⟨t5, Chg.of_grew hG, Chg.refl S w5, HX.out⟩
      case rest =>
      obtain ⟨t7, hC7, hC57, hX⟩ := hcut
      obtain ⟨w7, rfl⟩ : ∃ w7 : World, w7 = wc := ⟨_, rfl⟩
      have HX := Lib.hid hX
      replace hp1 := hC57.cell hRB hp1
      replace hp2 := hC57.cell hRB hp2
      replace hp3 := hC57.cell hRB hp3
      have hrc := t7.root_cell
      have HP0 := Lib.hid (pn_zero hA)
      clear hX hC57 t5 HE
      go_wp2_with fail
      go_loopw [6, 55] (fun n i wr => ∃ (k : Nat) (S' : Nat → Prop) (F' : Nat → Nat → Option Nat) (b : Nat), k ≤ L ∧ i = .int .i64 k ∧ n = .pointer (some ⟨b, 0, none⟩) ∧ F' k (pn A k) = some b ∧ TabTo w7 S tb r h m1 wr S' F') (fun _ i _ => L - (intOf i).toNat)
      case atStart => exact ⟨0, S, F, r, Nat.zero_le _, rfl, rfl, by rw [HP0.out]; exact t7.root, TabTo.refl' t7⟩
      case round =>
        obtain ⟨k, S', F', b, hk, rfl, rfl, hF, T⟩ := hrel
        have hq1 := T.chg.cell hRB hp1
        have hq2 := T.chg.cell hRB hp2
        have hq3 := T.chg.cell hRB hp3
        by_cases hlt : k < L
        · have hk16 : k < 16 := by omega
          have HB := Lib.hid (fun w => bit_any A k w hA hk16)
          have hpn := pn_succ A hk16
          have hk0 := T.tab.kid0 hF
          have hk1 := T.tab.kid1 hF
          have hf0 := T.tab.unfrozen hF 0
          have hf1 := T.tab.unfrozen hF 1
          have hbl := T.tab.lt hF
          rcases bv_cases A k with hb | hb
          · rw [hb] at HB hpn
            have e0 : pn A (k + 1) = 2 * pn A k := by omega
            clear hk1 hf1 hb hpn
            rcases hN : F' (k + 1) (2 * pn A k) with _ | c
            · rw [hN, ptrV_none] at hk0
              have T2 := T.add (j := 0) hF (by omega) hN hk16
              rw [World.setCell_alloc_past _ _ _ _ hbl] at T2
              have HF2 : Hid (addF F' (k + 1) (2 * pn A k + 0) wr.heap.size (k + 1) (pn A (k + 1)) = some wr.heap.size) := Lib.hid (by rw [e0]; exact addF_at _ _ _ _)
              clear hN e0 hF
              go_wp2_with (go_at_call 43; (with_reducible refine (HB.out _).mono ?_); rintro e w' ⟨rfl, rfl⟩)
              go_roundw
              case rel => exact ⟨k + 1, _, _, wr.heap.size, by omega, by go_num, rfl, HF2.out, T2⟩
              case measure => simp [intOf]; omega
            · rw [hN, ptrV_some] at hk0
              have HF2 : Hid (F' (k + 1) (pn A (k + 1)) = some c) := Lib.hid (by rw [e0]; exact hN)
              clear hN e0 hF
              go_wp2_with (go_at_call 43; (with_reducible refine (HB.out _).mono ?_); rintro e w' ⟨rfl, rfl⟩)
              go_roundw
              case rel => exact ⟨k + 1, S', F', c, by omega, by go_num, rfl, HF2.out, T⟩
              case measure => simp [intOf]; omega
          · rw [hb] at HB hpn
            have e0 : pn A (k + 1) = 2 * pn A k + 1 := by omega
            clear hk0 hf0 hb hpn
            rcases hN : F' (k + 1) (2 * pn A k + 1) with _ | c
            · rw [hN, ptrV_none] at hk1
              have T2 := T.add (j := 1) hF (by omega) hN hk16
              rw [World.setCell_alloc_past _ _ _ _ hbl] at T2
              have HF2 : Hid (addF F' (k + 1) (2 * pn A k + 1) wr.heap.size (k + 1) (pn A (k + 1)) = some wr.heap.size) := Lib.hid (by rw [e0]; exact addF_at _ _ _ _)
              clear hN e0 hF
              go_wp2_with (go_at_call 43; (with_reducible refine (HB.out _).mono ?_); rintro e w' ⟨rfl, rfl⟩)
              go_roundw
              case rel => exact ⟨k + 1, _, _, wr.heap.size, by omega, by go_num, rfl, HF2.out, T2⟩
              case measure => simp [intOf]; omega
            · rw [hN, ptrV_some] at hk1
              have HF2 : Hid (F' (k + 1) (pn A (k + 1)) = some c) := Lib.hid (by rw [e0]; exact hN)
              clear hN e0 hF
              go_wp2_with (go_at_call 43; (with_reducible refine (HB.out _).mono ?_); rintro e w' ⟨rfl, rfl⟩)
              go_roundw
              case rel => exact ⟨k + 1, S', F', c, by omega, by go_num, rfl, HF2.out, T⟩
              case measure => simp [intOf]; omega
        · obtain rfl : k = L := by omega
          have hh := T.tab.hop_cell hF
          have hf2 := T.tab.unfrozen hF 2
          have HT := Lib.hid (TabTo.after hC7 t7 (T.hop hF ⟨by omega, z9⟩))
          clear hF
          go_wp2
          go_ret
          refine ⟨fun h0 => absurd HX.out h0, fun _ => ⟨rfl, S', F', ?_⟩⟩
          have e : (if h k (pn A k) < 0 then many + 1 else many) = m1 := HM.out
          show TabTo w S tb r (upd h k (pn A k) z) (if h k (pn A k) < 0 then many + 1 else many) _ S' F'
          rw [e]
          exact HT.out
  · have HC : Hid (∀ w, Calls Tryd.prog 9 #[.agg #[.int .i64 a, .int .i64 l]] w fun e w' => e = .returned (.iface 66 (.int .i64 (checkE a l))) ∧ Grew w w') := Lib.hid (fun w => check_errW a l _ w rfl hc)
    have HE : Hid (setE h many a l z = checkE a l) := Lib.hid (by unfold setE; rw [if_pos hc])
    have HN := Lib.hid hc
    clear hc
    go_enter Tryd.func22, Tryd.ntmps22
    go_wp2_with fail
    (with_reducible refine (HC.out _).mono ?_)
    rintro e w2 ⟨rfl, hG2⟩
    go_wp2
    go_ret
    exact ⟨fun _ => ⟨by rw [HE.out]; rfl, hG.trans' hG2⟩, fun h0 => absurd (HE.out.symm.trans h0) HN.out⟩
end
end Go.Proofs.YtfgpppgehbpblaaDoor
