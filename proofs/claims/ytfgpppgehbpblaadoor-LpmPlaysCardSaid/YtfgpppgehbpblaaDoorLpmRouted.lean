/- The laws' table in which something was done, and the closed fact of tables. -/
import Derived.Test.YtfgpppgehbpblaaDoorLpmDropGo
import Derived.Test.YtfgpppgehbpblaaDoorRowsArg
namespace Go.Proofs.YtfgpppgehbpblaaDoor
open Go.RowKit Lp
attribute [local go_sem ↓] Go.wp_at_zero Go.wp_at_succ
/-- There is a table at tb, of the call's own. -/
structure TabIn (lo : Nat) (w : World) (tb r : Nat) (F : Nat → Nat → Option Nat) (h : Hops) (many : Int) (S : Nat → Prop) : Prop where
  tab : TabF w S tb r F h many
  lows : ∀ i, S i → lo ≤ i ∧ i < w.heap.size
theorem TabIn.to {lo : Nat} {w w' : World} {tb r : Nat} {F F' : Nat → Nat → Option Nat} {h h' : Hops} {many m' : Int} {S S' : Nat → Prop} (t : TabIn lo w tb r F h many S) (hl : lo ≤ w.heap.size) (T : TabTo w S tb r h' m' w' S' F') : TabIn lo w' tb r F' h' m' S' ∧ Below lo w w' := by
  refine ⟨⟨T.tab, fun i hi => ?_⟩, T.chg.below (fun i hi hs => by have := (t.lows i hs).1; omega) hl⟩
  rcases T.new i hi with h1 | h1
  · have := t.lows i h1
    have := T.chg.size
    omega
  · omega
theorem TabIn.below {lo : Nat} {w w' : World} {tb r : Nat} {F : Nat → Nat → Option Nat} {h : Hops} {many : Int} {S : Nat → Prop} (t : TabIn lo w tb r F h many S) (hb : Below w.heap.size w w') : TabIn lo w' tb r F h many S :=
  ⟨t.tab.below hb, fun i hi => ⟨(t.lows i hi).1, Nat.lt_of_lt_of_le (t.lows i hi).2 hb.size⟩⟩
theorem lpmNew_in (w : World) (lo : Nat) (hlo : lo ≤ w.heap.size) :
    Calls Tryd.prog 25 #[] w fun e w' => e = .returned (.pointer (some ⟨w.heap.size + 1, 0, none⟩)) ∧ Below w.heap.size w w' ∧
      TabIn lo w' (w.heap.size + 1) w.heap.size (fun k v => if k = 0 ∧ v = 0 then some w.heap.size else none) (fun _ _ => -1) 0 (fun i => i = w.heap.size ∨ i = w.heap.size + 1) :=
  (lpmNew_any w).mono fun e w' ⟨h1, h2, h3, h4⟩ => ⟨h1, h2, h4, fun i hi => by rw [h3]; omega⟩
def RoutedPost (w : World) (e : Ending) (w' : World) : Prop :=
  ∃ tb r F h many S, e = .returned (.pointer (some ⟨tb, 0, none⟩)) ∧ TabIn w.heap.size w' tb r F h many S ∧ -200 ≤ many ∧ Below w.heap.size w w'
set_option maxHeartbeats 4000000 in
theorem routed_any (A : Option Addr) (n c : Nat) (xss : List (List Int)) (w : World) (hr : RowsW w A n xss) (hn : n ≤ maxLen) :
    Calls Tryd.prog 19 #[.slice A n c] w (RoutedPost w) := by
  obtain ⟨rfl, _⟩ := id hr
  go_enter Tryd.func19, Tryd.ntmps19
  go_wp2_with fail
  (with_reducible refine (lpmNew_in w w.heap.size (Nat.le_refl _)).mono ?_)
  rintro e w1 ⟨rfl, hB1, t1⟩
  generalize w.heap.size + 1 = tb at *
  go_wp2_with fail
  go_loopw [4] (fun i wr => ∃ (k : Nat) (r : Nat) (F : Nat → Nat → Option Nat) (h : Hops) (many : Int) (S : Nat → Prop), k ≤ xss.length ∧ i = .int .i64 k ∧ k ≤ 60 ∧ -(2 * (k : Int)) ≤ many ∧ TabIn w.heap.size wr tb r F h many S ∧ Below w.heap.size w wr) (fun i _ => xss.length - (intOf i).toNat)
  case atStart => exact ⟨0, _, _, _, 0, _, Nat.zero_le _, rfl, by omega, by omega, t1, hB1⟩
  case round =>
    obtain ⟨k, r, F, h, many, S, hk, rfl, hk60, hm, t, hB⟩ := hrel
    by_cases hlt : k < xss.length
    · by_cases h60 : k < 60
      · obtain ⟨b, off, B, c', rfl, hcl, hrd, hc1, hc2⟩ := hr.2 k hlt
        have hk60' : (k : Int) < 60 := by omega
        obtain ⟨xs, hxs⟩ : ∃ xs, xss[k] = xs := ⟨_, rfl⟩
        rw [hxs] at hcl hrd hc1
        clear hxs
        replace hcl := (hB.cell (p := ⟨b, off + k, none⟩) (cell_lt hcl)).trans hcl
        have hlow := hB.size
        have td : TabIn w.heap.size wr.drew tb r F h many S := t.below (below_drewN (Below.refl _ _) 1)
        have hSl : ∀ i, S i → i < wr.drew.heap.size := fun i hi => (t.lows i hi).2
        have hBd : Below w.heap.size w wr.drew := below_drewN hB 1
        by_cases h3 : xs.length = 3
        · match xs, h3 with
          | [x0, x1, x2], _ =>
            obtain ⟨b2, o2, _, rfl, hx0⟩ := hrd.int (k := 0) (by simp)
            obtain ⟨_, _, _, e1, hx1⟩ := hrd.int (k := 1) (by simp)
            obtain ⟨_, _, _, e2, hx2⟩ := hrd.int (k := 2) (by simp)
            injection e1 with e1
            injection e1 with e1 e1'
            subst e1
            subst e1'
            injection e2 with e2
            injection e2 with e2 e2'
            subst e2
            subst e2'
            simp only [List.getElem_cons_zero, List.getElem_cons_succ, Nat.add_zero] at hx0 hx1 hx2
            have hnS : ¬ S b2 := fun hs => absurd (t.lows _ hs).1 (Nat.not_le_of_lt (cell_lt hx0))
            replace hx1 := (hB.cell (p := ⟨b2, o2 + 1, none⟩) (cell_lt hx1)).trans hx1
            replace hx2 := (hB.cell (p := ⟨b2, o2 + 2, none⟩) (cell_lt hx2)).trans hx2
            replace hx0 := (hB.cell (p := ⟨b2, o2, none⟩) (cell_lt hx0)).trans hx0
            have HS := Lib.hid (set_some x0 x1 x2 wr.drew td.tab hSl)
            simp only [List.length_cons, List.length_nil, Nat.zero_add, Nat.reduceAdd] at hcl hc1 ⊢
            clear hrd
            go_wp2_with fail
            go_region_held3 (fun w' => w'.cell? ⟨b2, o2, none⟩ = some (.int .i64 x0) ∧ w'.cell? ⟨b2, o2 + 1, none⟩ = some (.int .i64 x1) ∧ w'.cell? ⟨b2, o2 + 2, none⟩ = some (.int .i64 x2)) (go_keep)
              ((go_at_call 22; (with_reducible refine HS.out.mono ?_); rintro e w5 ⟨v, rfl, S', F', h', m', T, hm'⟩; have y0 := T.chg.cell (p := ⟨b2, o2, none⟩) hnS hx0; have y1 := T.chg.cell (p := ⟨b2, o2 + 1, none⟩) hnS hx1; have y2 := T.chg.cell (p := ⟨b2, o2 + 2, none⟩) hnS hx2))
            all_goals
              (try go_simp)
              go_wp2
              obtain ⟨t2, hb⟩ := td.to hBd.size T
              go_roundw
              case rel => exact ⟨k + 1, r, F', h', m', S', by omega, by go_num, by omega, by omega, t2, hBd.trans hb⟩
              case measure => simp [intOf]; omega
        · have h3' : ((xs.length : Int) == 3) = false := by rw [beq_eq_false_iff_ne]; omega
          by_cases h2 : xs.length = 2
          · match xs, h2 with
            | [x0, x1], _ =>
              obtain ⟨b2, o2, _, rfl, hx0⟩ := hrd.int (k := 0) (by simp)
              obtain ⟨_, _, _, e1, hx1⟩ := hrd.int (k := 1) (by simp)
              injection e1 with e1
              injection e1 with e1 e1'
              subst e1
              subst e1'
              simp only [List.getElem_cons_zero, List.getElem_cons_succ, Nat.add_zero] at hx0 hx1
              have hnS : ¬ S b2 := fun hs => absurd (t.lows _ hs).1 (Nat.not_le_of_lt (cell_lt hx0))
              replace hx1 := (hB.cell (p := ⟨b2, o2 + 1, none⟩) (cell_lt hx1)).trans hx1
              replace hx0 := (hB.cell (p := ⟨b2, o2, none⟩) (cell_lt hx0)).trans hx0
              have HS := Lib.hid (drop_some x0 x1 wr.drew td.tab (by omega))
              simp only [List.length_cons, List.length_nil, Nat.zero_add, Nat.reduceAdd] at hcl hc1 ⊢
              clear hrd h3'
              go_wp2_with fail
              go_region_held3 (fun w' => w'.cell? ⟨b2, o2, none⟩ = some (.int .i64 x0) ∧ w'.cell? ⟨b2, o2 + 1, none⟩ = some (.int .i64 x1)) (go_keep)
                ((go_at_call 24; (with_reducible refine HS.out.mono ?_); rintro e w5 ⟨v, rfl, S', F', h', m', T, hm'⟩; have y0 := T.chg.cell (p := ⟨b2, o2, none⟩) hnS hx0; have y1 := T.chg.cell (p := ⟨b2, o2 + 1, none⟩) hnS hx1))
              all_goals
                (try go_simp)
                go_wp2
                obtain ⟨t2, hb⟩ := td.to hBd.size T
                go_roundw
                case rel => exact ⟨k + 1, r, F', h', m', S', by omega, by go_num, by omega, by omega, t2, hBd.trans hb⟩
                case measure => simp [intOf]; omega
          · have h2' : ((xs.length : Int) == 2) = false := by rw [beq_eq_false_iff_ne]; omega
            clear h3 h2
            go_wp2
            go_roundw
            case rel => exact ⟨k + 1, r, F, h, many, S, by omega, by go_num, by omega, by omega, t, hB⟩
            case measure => simp [intOf]; omega
      · have h60' : ¬ (k : Int) < 60 := by omega
        go_wp2
        go_ret
        exact ⟨tb, r, F, h, many, S, rfl, t, by omega, hB⟩
    · go_wp2
      go_ret
      exact ⟨tb, r, F, h, many, S, rfl, t, by omega, hB⟩
end Go.Proofs.YtfgpppgehbpblaaDoor
