/- The contract of lpm.Drop; what Set and Drop do to any table. -/
import Derived.Test.YtfgpppgehbpblaaDoorLpmSetGo
namespace Go.Proofs.YtfgpppgehbpblaaDoor
open Go.RowKit Lp
/-- What is wrong with a prefix that is to be dropped. -/
def dropE (h : Hops) (a l : Int) : Int := if checkE a l ≠ 0 then checkE a l else if h l.toNat (pn a.toNat l.toNat) < 0 then 5 else 0
def DropPost (S : Nat → Prop) (tb r : Nat) (F : Nat → Nat → Option Nat) (h : Hops) (many a l : Int) (w : World) (e : Ending) (w' : World) : Prop :=
  (dropE h a l ≠ 0 → e = .returned (.iface 66 (.int .i64 (dropE h a l))) ∧ Grew w w') ∧
  (dropE h a l = 0 → e = .returned .nilIface ∧ TabTo w S tb r (upd h l.toNat (pn a.toNat l.toNat) (-1)) (many - 1) w' S F)
section
variable {S S' : Nat → Prop} {tb r : Nat} {F F' : Nat → Nat → Option Nat} {h : Hops} {many : Int}
set_option maxHeartbeats 4000000 in
theorem drop_any (a l : Int) (w : World) (t : TabF w S tb r F h many) (hm : -1000 < many) :
    Calls Tryd.prog 24 #[.pointer (some ⟨tb, 0, none⟩), .agg #[.int .i64 a, .int .i64 l]] w (DropPost S tb r F h many a l w) := by
  have hG : Grew w (w.alloc (.cells #[.int .i64 a, .int .i64 l] 23)) := (Grew.refl w).alloc _
  have hp1 : (w.alloc (.cells #[.int .i64 a, .int .i64 l] 23)).cell? ⟨w.heap.size, 0, none⟩ = some (.int .i64 a) := by simp
  have hp2 : (w.alloc (.cells #[.int .i64 a, .int .i64 l] 23)).cell? ⟨w.heap.size, 1, none⟩ = some (.int .i64 l) := by simp
  by_cases hc : checkE a l = 0
  · have HC := Lib.hid hc
    obtain ⟨a0, a1, l0, l1, _⟩ := checkE_ok hc
    obtain ⟨A, rfl⟩ := Int.eq_ofNat_of_zero_le a0
    obtain ⟨L, rfl⟩ := Int.eq_ofNat_of_zero_le l0
    have hA : A < 65536 := by omega
    have hL : L ≤ 16 := by omega
    have HE : Hid (dropE h A L = if h L (pn A L) < 0 then 5 else 0) := Lib.hid (by unfold dropE; rw [if_neg (by simpa using hc)]; rfl)
    obtain ⟨m0, m32⟩ := t.mrng
    clear hc
    rcases hF : F L (pn A L) with _ | b
    · have HX : Hid (dropE h A L = 5) := Lib.hid (by rw [HE.out, t.no _ _ hF]; rfl)
      go_enter Tryd.func24, Tryd.ntmps24
      go_wp2_with fail
      (with_reducible refine (check_okW _ _ _ HC.out).mono ?_)
      rintro e w2 ⟨rfl, hG2⟩
      replace hp1 := hG2.cell (cell_lt hp1) hp1
      replace hp2 := hG2.cell (cell_lt hp2) hp2
      replace hG := hG.trans' hG2
      clear hG2
      go_wp2_with fail
      (with_reducible refine (at_any A L _ (t.grew hG) hA hL).mono ?_)
      rintro e w3 ⟨rfl, hG3⟩
      rw [hF, ptrV_none]
      clear hF
      go_wp2
      go_ret
      exact ⟨fun _ => ⟨by rw [HX.out]; rfl, hG.trans' hG3⟩, fun h0 => by rw [HX.out] at h0; cases h0⟩
    · have HF := Lib.hid hF
      go_enter Tryd.func24, Tryd.ntmps24
      go_wp2_with fail
      (with_reducible refine (check_okW _ _ _ HC.out).mono ?_)
      rintro e w2 ⟨rfl, hG2⟩
      replace hp1 := hG2.cell (cell_lt hp1) hp1
      replace hp2 := hG2.cell (cell_lt hp2) hp2
      replace hG := hG.trans' hG2
      clear hG2
      go_wp2_with fail
      (with_reducible refine (at_any A L _ (t.grew hG) hA hL).mono ?_)
      rintro e w3 ⟨rfl, hG3⟩
      rw [hF, ptrV_some]
      replace hG := hG.trans' hG3
      have t3 := t.grew hG
      have hh := t3.hop_cell HF.out
      have hf := t3.unfrozen HF.out 2
      have hmc := t3.many_cell
      have hmf := t3.tab_unfrozen 1
      have hne : b ≠ tb := (t.mine _ _ _ hF).2
      clear hF hG3
      by_cases hneg : h L (pn A L) < 0
      · have HX : Hid (dropE h A L = 5) := Lib.hid (by rw [HE.out, if_pos hneg])
        generalize h L (pn A L) = hv at *
        go_wp2
        go_ret
        exact ⟨fun _ => ⟨by rw [HX.out]; rfl, hG⟩, fun h0 => by rw [HX.out] at h0; cases h0⟩
      · have HX : Hid (dropE h A L = 0) := Lib.hid (by rw [HE.out, if_neg hneg])
        have T := (((TabTo.refl' t).hop HF.out (z := -1) (by decide)))
        have HT : Hid (TabTo w S tb r (upd h L (pn A L) (-1)) (many - 1) ((w3.setCell ⟨b, 2, none⟩ (.int .i64 (-1))).setCell ⟨tb, 1, none⟩ (.int .i64 (many - 1))) S F) := Lib.hid (by
          have t4 := (t3.set_hop HF.out (z := -1) (by decide)).set_many (m := many - 1) ⟨by omega, by omega⟩
          exact ⟨t4, ((Chg.of_grew hG).setCell (.inl (t.mine _ _ _ HF.out).1) 2 _).setCell (.inl t.tmine) 1 _, fun _ h => h, fun _ h => .inl h⟩)
        have hmc2 : (w3.setCell ⟨b, 2, none⟩ (.int .i64 (-1))).cell? ⟨tb, 1, none⟩ = some (.int .i64 many) := (t3.set_hop HF.out (z := -1) (by decide)).many_cell
        have hmf2 : (w3.setCell ⟨b, 2, none⟩ (.int .i64 (-1))).frozen? ⟨tb, 1, none⟩ = false := (t3.set_hop HF.out (z := -1) (by decide)).tab_unfrozen 1
        clear T
        generalize h L (pn A L) = hv at *
        go_wp2
        go_ret
        exact ⟨fun h0 => absurd HX.out h0, fun _ => ⟨rfl, HT.out⟩⟩
  · have HC : Hid (∀ w, Calls Tryd.prog 9 #[.agg #[.int .i64 a, .int .i64 l]] w fun e w' => e = .returned (.iface 66 (.int .i64 (checkE a l))) ∧ Grew w w') := Lib.hid (fun w => check_errW a l _ w rfl hc)
    have HE : Hid (dropE h a l = checkE a l) := Lib.hid (by unfold dropE; rw [if_pos hc])
    have HN := Lib.hid hc
    clear hc
    go_enter Tryd.func24, Tryd.ntmps24
    go_wp2_with fail
    (with_reducible refine (HC.out _).mono ?_)
    rintro e w2 ⟨rfl, hG2⟩
    go_wp2
    go_ret
    exact ⟨fun _ => ⟨by rw [HE.out]; rfl, hG.trans' hG2⟩, fun h0 => absurd (HE.out.symm.trans h0) HN.out⟩
theorem TabTo.of_grew {w w' : World} (t : TabF w S tb r F h many) (g : Grew w w') : TabTo w S tb r h many w' S F := ⟨t.grew g, Chg.of_grew g, fun _ h => h, fun _ h => .inl h⟩
/-- Behind Set there is a table, whatever was told. -/
def SomeTab (S : Nat → Prop) (tb r : Nat) (many : Int) (w : World) (e : Ending) (w' : World) : Prop :=
  ∃ v, e = .returned v ∧ ∃ S' F' h' m', TabTo w S tb r h' m' w' S' F' ∧ many - 1 ≤ m'
theorem set_some (a l z : Int) (w : World) (t : TabF w S tb r F h many) (hS : ∀ i, S i → i < w.heap.size) :
    Calls Tryd.prog 22 #[.pointer (some ⟨tb, 0, none⟩), .agg #[.int .i64 a, .int .i64 l, .int .i64 z]] w (SomeTab S tb r many w) := by
  refine (set_any a l z w t hS).mono ?_
  rintro e w' ⟨h1, h2⟩
  by_cases hE : setE h many a l z = 0
  · obtain ⟨rfl, S', F', T⟩ := h2 hE
    exact ⟨_, rfl, S', F', _, _, T, by split <;> omega⟩
  · obtain ⟨rfl, g⟩ := h1 hE
    exact ⟨_, rfl, S, F, h, many, .of_grew t g, by omega⟩
theorem drop_some (a l : Int) (w : World) (t : TabF w S tb r F h many) (hm : -1000 < many) :
    Calls Tryd.prog 24 #[.pointer (some ⟨tb, 0, none⟩), .agg #[.int .i64 a, .int .i64 l]] w (SomeTab S tb r many w) := by
  refine (drop_any a l w t hm).mono ?_
  rintro e w' ⟨h1, h2⟩
  by_cases hE : dropE h a l = 0
  · obtain ⟨rfl, T⟩ := h2 hE
    exact ⟨_, rfl, S, F, _, _, T, Int.le_refl _⟩
  · obtain ⟨rfl, g⟩ := h1 hE
    exact ⟨_, rfl, S, F, h, many, .of_grew t g, by omega⟩
end
end Go.Proofs.YtfgpppgehbpblaaDoor
