/- The document's few and Fewest: what they return is what the program makes. -/
import Derived.Test.YtfgpppgehbpblaaDoorFewLem
import Derived.Test.YtfgpppgehbpblaaDoorPRow2
import Derived.Test.YtfgpppgehbpblaaDoorCidrFew
import Derived.Deep.RegionHeld3
import Derived.Deep.QuietTactic
import Derived.BigQuiet
import Derived.Outline
namespace Go.Proofs.YtfgpppgehbpblaaDoor
open Go.RowKit Px
attribute [local go_sem ↓] Go.wp_at_zero Go.wp_at_succ
/-- What a function hands back: prefixes of the call's own. -/
def RetPs (W : World) (ys : List (Int × Int)) (e : Ending) (w' : World) : Prop :=
  ∃ A c, e = .returned (.slice A ys.length c) ∧ OwnP w' W.heap.size (.slice A ys.length c) ys ∧ Below W.heap.size W w'
theorem ownP_lit (w : World) (base : Nat) (hb : base ≤ w.heap.size) (z : Int × Int) : OwnP (w.alloc (.cells #[.int .i64 z.1, .int .i64 z.2] 23)) base (.slice (some ⟨w.heap.size, 0, none⟩) 1 1) [z] :=
  World.ownsRow_lit w #[.int .i64 z.1, .int .i64 z.2] 1 hb (by unfold maxLen; omega) rfl
theorem OwnP.base {w : World} {base base' : Nat} {v : Value} {xs : List (Int × Int)} (h : OwnP w base v xs) (hb : base' ≤ base) : OwnP w base' v xs := by
  refine ⟨h.1, ?_⟩
  rcases h.2 with h0 | ⟨g, cap, cur, e, hg, h3⟩
  · exact .inl h0
  · exact .inr ⟨g, cap, cur, e, Nat.le_trans hb hg, h3⟩
set_option maxRecDepth 100000 in
set_option maxHeartbeats 2000000 in
theorem refFew_step (A : Option Addr) (n c : Nat) (xs : List (Int × Int)) (hn : n ≤ 1000) (he : errP xs = 0) (k : Nat)
    (ih : ∀ k', k = k' + 1 → ∀ (a : Nat) (l : Int) (w : World), l = 16 - (k' : Int) → V (a, k') → Rds w 2 A n (pc xs) → Calls Tryd.prog 34 #[.slice A n c, .agg #[.int .i64 a, .int .i64 l]] w (RetPs w (fewRI xs k' a)))
    (a : Nat) (l : Int) (w : World) (hl : l = 16 - (k : Int)) (hv : V (a, k)) (hr : Rds w 2 A n (pc xs)) :
    Calls Tryd.prog 34 #[.slice A n c, .agg #[.int .i64 a, .int .i64 l]] w (RetPs w (fewRI xs k a)) := by
  obtain rfl : n = xs.length := hr.plen
  have HV := Lib.hid (errP_all.1 he)
  have HE := Lib.hid he
  have hce := check_toI hv
  have hto : toI (a, k) = ((a : Int), l) := by unfold toI; rw [hl]
  rw [hto] at hce
  simp only at hce
  have HCP := Lib.hid hce
  have HTO := Lib.hid hto
  have HVV := Lib.hid hv
  have HLL := Lib.hid hl
  have HIH := Lib.hid ih
  have hk16 : k ≤ 16 := hv.1
  have ha1 : (a : Int) ≤ 65535 := by have := hv.2.2; simp only at this; omega
  have ha0 : 0 ≤ (a : Int) := by omega
  have hl0 : 0 ≤ l := by omega
  have hl16 : l ≤ 16 := by omega
  have hszk : szI l = ((2 ^ k : Nat) : Int) := by
    unfold szI
    rw [show 16 - l.toNat = k from by omega]
  have HSZ := Lib.hid hszk
  have HS := Lib.hid (fun w => powerL_any l w hl0 hl16)
  have z1 := szI_pos l
  have z2 := szI_le l
  have HF0 := Lib.hid (fun h => fewRI_whole (xs := xs) (k := k) (a := a) h)
  have HF1 := Lib.hid (fun h1 h2 => fewRI_none (xs := xs) (k := k) (a := a) h1 h2)
  obtain ⟨R, HR⟩ : ∃ R, Hid (fewRI xs k a = R) := ⟨_, Lib.hid rfl⟩
  rw [HR.out] at HF0 HF1 ⊢
  clear hl hv hce hto he ih hszk
  generalize szI l = s at *
  have hB : Below w.heap.size w (w.alloc (.cells #[.int .i64 a, .int .i64 l] 23)) := (Below.refl _ _).alloc (Nat.le_refl _) _
  have hp1 : (w.alloc (.cells #[.int .i64 a, .int .i64 l] 23)).cell? ⟨w.heap.size, 0, none⟩ = some (.int .i64 a) := by simp
  have hp2 : (w.alloc (.cells #[.int .i64 a, .int .i64 l] 23)).cell? ⟨w.heap.size, 1, none⟩ = some (.int .i64 l) := by simp
  have hr1 := hr.alloc (.cells #[.int .i64 a, .int .i64 l] 23)
  have hBw := hB
  have hsz1 := hB.size
  have hw16 : IntKind.i64.wrap (16 - l) = 16 - l := IntWalk.i64_in _ (by constructor <;> omega)
  clear hr
  go_enter Tryd.func34, Tryd.ntmps34
  go_upto_region 1 with (fail)
  generalize hw1 : w.alloc (.cells #[.int .i64 a, .int .i64 l] 23) = w1 at *
  clear hw1 hB
  go_wp2_with (go_at_call 16; (with_reducible refine (HS.out _).mono ?_); rintro e w' ⟨rfl, rfl⟩)
  go_loopw [6, 7] (fun s v wr => ∃ i : Nat, i ≤ xs.length ∧ v = .int .i64 i ∧ s = .bool (someI (xs.take i) (a, k)) ∧ wholeI (xs.take i) (a, k) = false ∧ Below w1.heap.size w1 wr) (fun _ v _ => xs.length - (intOf v).toNat)
  case atStart => exact ⟨0, Nat.zero_le _, rfl, rfl, rfl, Below.refl _ _⟩
  case round =>
    obtain ⟨i, hi, rfl, rfl, hwh, hG⟩ := hrel
    have hPl1 := cell_lt hp1
    have hPl : w.heap.size < wr.heap.size := Nat.lt_of_lt_of_le hPl1 hG.size
    replace hp1 := (hG.cell (p := ⟨w.heap.size, 0, none⟩) hPl1).trans hp1
    replace hp2 := (hG.cell (p := ⟨w.heap.size, 1, none⟩) hPl1).trans hp2
    have hrw := hr1.below hG
    have HW := Lib.hid hwh
    clear hwh hPl1
    by_cases hlt : i < xs.length
    · obtain ⟨b, off, hk', rfl, hx1, hx2⟩ := hrw.pfx hlt
      have HCX := Lib.hid (HV.out _ (List.getElem_mem hk'))
      have hws := wholeI_snoc xs (a, k) HVV.out i hk' HCX.out
      have hss := someI_snoc xs (a, k) HVV.out i hk' HCX.out
      rw [HTO.out] at hws hss
      have hbl : b < wr.heap.size := cell_lt hx1
      obtain ⟨x, hX⟩ : ∃ x, xs[i] = x := ⟨_, rfl⟩
      rw [hX] at hx1 hx2 HCX hws hss
      obtain ⟨x0, x1, _, _, _⟩ := checkE_ok HCX.out
      simp only at hws hss
      rw [HW.out, Bool.false_or] at hws
      obtain ⟨b1, hb1⟩ : ∃ b1, inPB x.1 x.2 (a : Int) = b1 := ⟨_, rfl⟩
      obtain ⟨b2, hb2⟩ : ∃ b2, inPB (a : Int) l x.1 = b2 := ⟨_, rfl⟩
      obtain ⟨d1, hd1⟩ : ∃ d1, decide (x.2 ≤ l) = d1 := ⟨_, rfl⟩
      obtain ⟨so, hso⟩ : ∃ so, someI (xs.take i) (a, k) = so := ⟨_, rfl⟩
      rw [hb1, hd1] at hws
      rw [hb2, hso] at hss
      rw [hso]
      have HIN1 := Lib.hid (fun w => (refInP_any x.1 x.2 a w HCX.out ⟨ha0, ha1⟩).mono fun e w' (h : e = .returned (.bool (inPB x.1 x.2 a)) ∧ Grew w w') => (⟨by rw [h.1, hb1], h.2⟩ : e = .returned (.bool b1) ∧ Grew w w'))
      have HIN2 := Lib.hid (fun w => (refInP_any a l x.1 w HCP.out ⟨x0, x1⟩).mono fun e w' (h : e = .returned (.bool (inPB a l x.1)) ∧ Grew w w') => (⟨by rw [h.1, hb2], h.2⟩ : e = .returned (.bool b2) ∧ Grew w w'))
      have HSS := Lib.hid hss
      have HWS := Lib.hid hws
      clear hb1 hb2 hss hX hrw hso hws
      by_cases hret : b1 = true ∧ d1 = true
      · obtain ⟨rfl, rfl⟩ := hret
        have HRR := Lib.hid (HF0.out (wholeI_take HWS.out))
        go_wp2_with fail
        go_region_held3 (fun w' => w'.cell? ⟨b, off + i * 2, none⟩ = some (.int .i64 x.1) ∧ w'.cell? ⟨b, off + i * 2 + 1, none⟩ = some (.int .i64 x.2) ∧ w'.cell? ⟨w.heap.size, 0, none⟩ = some (.int .i64 a) ∧ w'.cell? ⟨w.heap.size, 1, none⟩ = some (.int .i64 l)) (go_keep) ((go_at_call 12; (with_reducible refine (HIN1.out _).mono ?_); rintro e w5 ⟨rfl, g5⟩; have y1 := g5.cell (a := ⟨b, off + i * 2, none⟩) hbl hx1; have y2 := g5.cell (a := ⟨b, off + i * 2 + 1, none⟩) hbl hx2; have y3 := g5.cell (a := ⟨w.heap.size, 0, none⟩) hPl hp1; have y4 := g5.cell (a := ⟨w.heap.size, 1, none⟩) hPl hp2))
        all_goals
          (try go_simp)
          go_wp2
          go_ret
          rw [RetPs, HRR.out, HTO.out]
          exact ⟨_, _, rfl, ownP_lit _ _ (Nat.le_trans (Nat.le_of_lt hPl) g5.size) ((a : Int), l), (below_call (below_call (hBw.trans (hG.mono hsz1)) (show Below wr.heap.size wr w5 from ((Below.refl _ wr).drew).trans g5.below)) ((Below.refl _ _).alloc (Nat.le_refl _) _))⟩
      · have HWF : Hid (wholeI (xs.take (i + 1)) (a, k) = false) := Lib.hid (by
          rw [HWS.out]
          rcases b1 with _ | _ <;> rcases d1 with _ | _ <;> simp_all)
        have hbd : (b1 = true ∧ d1 = false) ∨ b1 = false := by
          rcases b1 with _ | _ <;> rcases d1 with _ | _ <;> simp_all
        clear hret HF0 HF1 HWS HR
        rcases hbd with ⟨rfl, rfl⟩ | rfl
        · go_wp2_with fail
          go_region_held3 (fun w' => w'.cell? ⟨b, off + i * 2, none⟩ = some (.int .i64 x.1) ∧ w'.cell? ⟨b, off + i * 2 + 1, none⟩ = some (.int .i64 x.2) ∧ w'.cell? ⟨w.heap.size, 0, none⟩ = some (.int .i64 a) ∧ w'.cell? ⟨w.heap.size, 1, none⟩ = some (.int .i64 l)) (go_keep) ((go_at_call 12; (with_reducible refine (HIN1.out _).mono ?_); rintro e w5 ⟨rfl, g5⟩; have y1 := g5.cell (a := ⟨b, off + i * 2, none⟩) hbl hx1; have y2 := g5.cell (a := ⟨b, off + i * 2 + 1, none⟩) hbl hx2; have y3 := g5.cell (a := ⟨w.heap.size, 0, none⟩) hPl hp1; have y4 := g5.cell (a := ⟨w.heap.size, 1, none⟩) hPl hp2))
          (try go_simp)
          have h8 := below_call hG (show Below wr.heap.size wr w5 from ((Below.refl _ wr).drew).trans g5.below)
          have hbl8 : b < w5.heap.size := cell_lt y1
          have hPl8 : w.heap.size < w5.heap.size := cell_lt y3
          clear hx1 hx2 hp1 hp2 hPl hbl g5
          rcases so with _ | _
          · go_wp2_with fail
            go_region_held3 (fun w' => w'.cell? ⟨b, off + i * 2, none⟩ = some (.int .i64 x.1) ∧ w'.cell? ⟨b, off + i * 2 + 1, none⟩ = some (.int .i64 x.2) ∧ w'.cell? ⟨w.heap.size, 0, none⟩ = some (.int .i64 a) ∧ w'.cell? ⟨w.heap.size, 1, none⟩ = some (.int .i64 l)) (go_keep) ((go_at_call 12; (with_reducible refine (HIN2.out _).mono ?_); rintro e w6 ⟨rfl, g6⟩; have z1 := g6.cell (a := ⟨b, off + i * 2, none⟩) hbl8 y1; have z2 := g6.cell (a := ⟨b, off + i * 2 + 1, none⟩) hbl8 y2; have z3 := g6.cell (a := ⟨w.heap.size, 0, none⟩) hPl8 y3; have z4 := g6.cell (a := ⟨w.heap.size, 1, none⟩) hPl8 y4))
            all_goals
              (try go_simp)
              go_wp2_with fail
              go_roundw
              case rel => exact ⟨i + 1, by omega, by go_num, by rw [HSS.out]; rfl, HWF.out, below_call h8 (show Below w5.heap.size w5 w6 from ((Below.refl _ w5).drew).trans g6.below)⟩
              case measure => simp [intOf]; omega
          · go_wp2_with fail
            go_quiet (fail)
            go_wp2_with fail
            go_roundw
            case rel => exact ⟨i + 1, by omega, by go_num, by rw [HSS.out]; rfl, HWF.out, below_drewN h8 _⟩
            case measure => simp [intOf]; omega
        · go_wp2_with fail
          refine wp_region_held_drew (S := fun w' => w'.cell? ⟨b, off + i * 2, none⟩ = some (.int .i64 x.1) ∧ w'.cell? ⟨b, off + i * 2 + 1, none⟩ = some (.int .i64 x.2) ∧ w'.cell? ⟨w.heap.size, 0, none⟩ = some (.int .i64 a) ∧ w'.cell? ⟨w.heap.size, 1, none⟩ = some (.int .i64 l)) (by kernel_rfl) ⟨hx1, hx2, hp1, hp2⟩ (fun hS0 => ?_)
          (refine wpAnyH_take (i := 0) (v := ?_) rfl (by kernel_rfl) (by kernel_rfl) (by kernel_rfl) (fun _ _ _ h => h) (Or.inl ⟨by rfl, ?_⟩) (by assumption) ?_); rotate_left; (focus (intro w' hSw; (try dsimp only at hSw); go_simp; try (with_reducible rfl))); (simp only [List.getElem_toArray, List.getElem_cons_succ, List.getElem_cons_zero, Act.put, List.setIfInBounds_toArray, List.set_cons_zero, List.set_cons_succ])
          (refine wpAnyH_take (i := 1) (v := ?_) rfl (by kernel_rfl) (by kernel_rfl) (by kernel_rfl) (fun _ _ _ h => h) (Or.inl ⟨by rfl, ?_⟩) (by assumption) ?_); rotate_left; (focus (intro w' hSw; (try dsimp only at hSw); go_simp; try (with_reducible rfl))); (simp only [List.getElem_toArray, List.getElem_cons_succ, List.getElem_cons_zero, Act.put, List.setIfInBounds_toArray, List.set_cons_zero, List.set_cons_succ])
          (refine wpAnyH_take (i := 2) (v := ?_) rfl (by kernel_rfl) (by kernel_rfl) (by kernel_rfl) (fun _ _ _ h => h) (Or.inl ⟨by rfl, ?_⟩) (by assumption) ?_); rotate_left; (focus (intro w' hSw; (try dsimp only at hSw); go_simp; try (with_reducible rfl))); (simp only [List.getElem_toArray, List.getElem_cons_succ, List.getElem_cons_zero, Act.put, List.setIfInBounds_toArray, List.set_cons_zero, List.set_cons_succ])
          (refine wpAnyH_take (i := 3) (v := ?_) rfl (by kernel_rfl) (by kernel_rfl) (by kernel_rfl) (fun _ _ _ h => h) (Or.inl ⟨by rfl, ?_⟩) (by assumption) ?_); rotate_left; (focus (intro w' hSw; (try dsimp only at hSw); go_simp; try (with_reducible rfl))); (simp only [List.getElem_toArray, List.getElem_cons_succ, List.getElem_cons_zero, Act.put, List.setIfInBounds_toArray, List.set_cons_zero, List.set_cons_succ])
          (refine wpAnyH_take (i := 4) (v := ?_) rfl (by kernel_rfl) (by kernel_rfl) (by kernel_rfl) (fun _ _ _ h => h) (Or.inl ⟨by rfl, ?_⟩) (by assumption) ?_); rotate_left; (focus (intro w' hSw; (try dsimp only at hSw); go_simp; try (with_reducible rfl))); (simp only [List.getElem_toArray, List.getElem_cons_succ, List.getElem_cons_zero, Act.put, List.setIfInBounds_toArray, List.set_cons_zero, List.set_cons_succ])
          (refine wpAnyH_take (i := 5) (v := ?_) rfl (by kernel_rfl) (by kernel_rfl) (by kernel_rfl) (fun _ _ _ h => h) (Or.inl ⟨by rfl, ?_⟩) (by assumption) ?_); rotate_left; (focus (intro w' hSw; (try dsimp only at hSw); go_simp; try (with_reducible rfl))); (simp only [List.getElem_toArray, List.getElem_cons_succ, List.getElem_cons_zero, Act.put, List.setIfInBounds_toArray, List.set_cons_zero, List.set_cons_succ])
          refine wpAnyH_ready (rs := [6]) (by kernel_rfl) (by simp) ?_
          refine AllReadyH.cons rfl (fun K hK => ?_) AllReadyH.nil
          rw [if_pos (by rfl)]
          go_simp
          (with_reducible refine (HIN1.out _).mono ?_)
          rintro e w5 ⟨rfl, g5⟩
          have y1 := g5.cell (a := ⟨b, off + i * 2, none⟩) hbl hx1
          have y2 := g5.cell (a := ⟨b, off + i * 2 + 1, none⟩) hbl hx2
          have y3 := g5.cell (a := ⟨w.heap.size, 0, none⟩) hPl hp1
          have y4 := g5.cell (a := ⟨w.heap.size, 1, none⟩) hPl hp2
          refine hK.out _ _ ⟨y1, y2, y3, y4⟩ (fun hS1 => ?_)
          clear hK hS0
          (try simp only [List.getElem_toArray, List.getElem_cons_succ, List.getElem_cons_zero, Act.put, List.setIfInBounds_toArray, List.set_cons_zero, List.set_cons_succ])
          (refine wpAnyH_take (i := 7) (v := ?_) rfl (by kernel_rfl) (by kernel_rfl) (by kernel_rfl) (fun _ _ _ h => h) (Or.inl ⟨by rfl, ?_⟩) (by assumption) ?_); rotate_left; (focus (intro w' hSw; (try dsimp only at hSw); go_simp; try (with_reducible rfl))); (simp only [List.getElem_toArray, List.getElem_cons_succ, List.getElem_cons_zero, Act.put, List.setIfInBounds_toArray, List.set_cons_zero, List.set_cons_succ])
          (refine wpAnyH_take (i := 8) (v := undef) rfl (by kernel_rfl) (by kernel_rfl) (by kernel_rfl) (fun _ _ _ h => h) (Or.inr ⟨by rfl, rfl⟩) (by assumption) ?_); (simp only [List.getElem_toArray, List.getElem_cons_succ, List.getElem_cons_zero, Act.put, List.setIfInBounds_toArray, List.set_cons_zero, List.set_cons_succ])
          (refine wpAnyH_take (i := 9) (v := undef) rfl (by kernel_rfl) (by kernel_rfl) (by kernel_rfl) (fun _ _ _ h => h) (Or.inr ⟨by rfl, rfl⟩) (by assumption) ?_); (simp only [List.getElem_toArray, List.getElem_cons_succ, List.getElem_cons_zero, Act.put, List.setIfInBounds_toArray, List.set_cons_zero, List.set_cons_succ])
          (refine wpAnyH_take (i := 10) (v := undef) rfl (by kernel_rfl) (by kernel_rfl) (by kernel_rfl) (fun _ _ _ h => h) (Or.inr ⟨by rfl, rfl⟩) (by assumption) ?_); (simp only [List.getElem_toArray, List.getElem_cons_succ, List.getElem_cons_zero, Act.put, List.setIfInBounds_toArray, List.set_cons_zero, List.set_cons_succ])
          (refine wpAnyH_take (i := 11) (v := undef) rfl (by kernel_rfl) (by kernel_rfl) (by kernel_rfl) (fun _ _ _ h => h) (Or.inr ⟨by rfl, rfl⟩) (by assumption) ?_); (simp only [List.getElem_toArray, List.getElem_cons_succ, List.getElem_cons_zero, Act.put, List.setIfInBounds_toArray, List.set_cons_zero, List.set_cons_succ])
          (refine wpAnyH_take (i := 12) (v := undef) rfl (by kernel_rfl) (by kernel_rfl) (by kernel_rfl) (fun _ _ _ h => h) (Or.inr ⟨by rfl, rfl⟩) (by assumption) ?_); (simp only [List.getElem_toArray, List.getElem_cons_succ, List.getElem_cons_zero, Act.put, List.setIfInBounds_toArray, List.set_cons_zero, List.set_cons_succ])
          (refine wpAnyH_take (i := 13) (v := undef) rfl (by kernel_rfl) (by kernel_rfl) (by kernel_rfl) (fun _ _ _ h => h) (Or.inr ⟨by rfl, rfl⟩) (by assumption) ?_); (simp only [List.getElem_toArray, List.getElem_cons_succ, List.getElem_cons_zero, Act.put, List.setIfInBounds_toArray, List.set_cons_zero, List.set_cons_succ])
          (refine wpAnyH_take (i := 14) (v := undef) rfl (by kernel_rfl) (by kernel_rfl) (by kernel_rfl) (fun _ _ _ h => h) (Or.inr ⟨by rfl, rfl⟩) (by assumption) ?_); (simp only [List.getElem_toArray, List.getElem_cons_succ, List.getElem_cons_zero, Act.put, List.setIfInBounds_toArray, List.set_cons_zero, List.set_cons_succ])
          (refine wpAnyH_take (i := 15) (v := undef) rfl (by kernel_rfl) (by kernel_rfl) (by kernel_rfl) (fun _ _ _ h => h) (Or.inr ⟨by rfl, rfl⟩) (by assumption) ?_); (simp only [List.getElem_toArray, List.getElem_cons_succ, List.getElem_cons_zero, Act.put, List.setIfInBounds_toArray, List.set_cons_zero, List.set_cons_succ])
          (refine wpAnyH_take (i := 16) (v := ?_) rfl (by kernel_rfl) (by kernel_rfl) (by kernel_rfl) (fun _ _ _ h => h) (Or.inl ⟨by rfl, ?_⟩) (by assumption) ?_); rotate_left; (focus (intro w' hSw; (try dsimp only at hSw); go_simp; try (with_reducible rfl))); (simp only [List.getElem_toArray, List.getElem_cons_succ, List.getElem_cons_zero, Act.put, List.setIfInBounds_toArray, List.set_cons_zero, List.set_cons_succ])
          refine wpAnyH_done (by kernel_rfl) ?_ _
          have h8 := below_call hG (show Below wr.heap.size wr w5 from ((Below.refl _ wr).drew).trans g5.below)
          have hbl8 : b < w5.heap.size := cell_lt y1
          have hPl8 : w.heap.size < w5.heap.size := cell_lt y3
          clear hx1 hx2 hp1 hp2 hPl hbl g5
          rcases so with _ | _
          · go_wp2_with fail
            go_region_held3 (fun w' => w'.cell? ⟨b, off + i * 2, none⟩ = some (.int .i64 x.1) ∧ w'.cell? ⟨b, off + i * 2 + 1, none⟩ = some (.int .i64 x.2) ∧ w'.cell? ⟨w.heap.size, 0, none⟩ = some (.int .i64 a) ∧ w'.cell? ⟨w.heap.size, 1, none⟩ = some (.int .i64 l)) (go_keep) ((go_at_call 12; (with_reducible refine (HIN2.out _).mono ?_); rintro e w6 ⟨rfl, g6⟩; have z1 := g6.cell (a := ⟨b, off + i * 2, none⟩) hbl8 y1; have z2 := g6.cell (a := ⟨b, off + i * 2 + 1, none⟩) hbl8 y2; have z3 := g6.cell (a := ⟨w.heap.size, 0, none⟩) hPl8 y3; have z4 := g6.cell (a := ⟨w.heap.size, 1, none⟩) hPl8 y4))
            all_goals
              (try go_simp)
              go_wp2_with fail
              go_roundw
              case rel => exact ⟨i + 1, by omega, by go_num, by rw [HSS.out]; rfl, HWF.out, below_call h8 (show Below w5.heap.size w5 w6 from ((Below.refl _ w5).drew).trans g6.below)⟩
              case measure => simp [intOf]; omega
          · go_wp2_with fail
            go_quiet (fail)
            go_wp2_with fail
            go_roundw
            case rel => exact ⟨i + 1, by omega, by go_num, by rw [HSS.out]; rfl, HWF.out, below_drewN h8 _⟩
            case measure => simp [intOf]; omega
    · obtain rfl : i = xs.length := by omega
      rw [List.take_length] at HW ⊢
      rcases hso : someI xs (a, k) with _ | _
      · have HN := Lib.hid (HF1.out HW.out hso)
        go_wp2
        go_ret
        rw [RetPs, HN.out]
        exact ⟨none, 0, rfl, ownsRow_nil _ _ _ _, hBw.trans (hG.mono hsz1)⟩
      · rcases k with _ | k
        · rw [some_whole_zero HW.out] at hso
          cases hso
        · have hsu := fewRI_succ HW.out hso
          rw [HR.out] at hsu
          obtain ⟨hva, hvb⟩ := half_v HVV.out
          have HVA := Lib.hid hva
          have HVB := Lib.hid hvb
          have hll := HLL.out
          have hl1 : l + 1 = 16 - (k : Int) := by omega
          rw [← hl1] at hsu
          have hlA := fewRI_len xs k a (by omega)
          have hlB := fewRI_len xs k (a + 2 ^ k) (by omega)
          obtain ⟨LA, hLA⟩ : ∃ LA, fewRI xs k a = LA := ⟨_, rfl⟩
          obtain ⟨LB, hLB⟩ : ∃ LB, fewRI xs k (a + 2 ^ k) = LB := ⟨_, rfl⟩
          rw [hLA, hLB] at hsu
          rw [hLA] at hlA
          rw [hLB] at hlB
          have HCA := Lib.hid (HIH.out k rfl a (l + 1) wr hl1 hva hrw)
          have HCB := Lib.hid (fun w' h => HIH.out k rfl (a + 2 ^ k) (l + 1) w' hl1 hvb h)
          rw [hLA] at HCA
          rw [hLB] at HCB
          have hsk := HSZ.out
          obtain ⟨h2, hh2⟩ : ∃ h2 : Nat, 2 ^ k = h2 := ⟨_, rfl⟩
          have hs2 : s = ((h2 * 2 : Nat) : Int) := by rw [hsk, Nat.pow_succ, hh2]
          rw [hh2] at HCB
          simp only [Int.natCast_add] at HCB
          have hvb3 := hvb.2.2
          simp only [hh2] at hvb3
          have HSU := Lib.hid hsu
          have HL1 := Lib.hid hl1
          have hl15 : l ≤ 15 := by omega
          have HTOK : Hid (toI (a, k + 1) = ((a : Int), l)) := Lib.hid (by unfold toI; simp only; rw [Prod.mk.injEq]; exact ⟨rfl, by omega⟩)
          clear HVV HIH HF0 HF1 hva hvb hLA hLB hso HSZ hsk hh2 hsu hll hl1
          subst hs2
          have hwl : IntKind.i64.wrap (l + 1) = l + 1 := IntWalk.i64_in _ (by constructor <;> omega)
          go_wp2_with fail
          (with_reducible refine HCA.out.mono ?_)
          rintro e w2 ⟨A1, c1, rfl, hoA, hbA⟩
          replace hp1 := (hbA.cell (p := ⟨w.heap.size, 0, none⟩) hPl).trans hp1
          replace hp2 := (hbA.cell (p := ⟨w.heap.size, 1, none⟩) hPl).trans hp2
          have hrA := hrw.below hbA
          have hBA := below_call (hBw.trans (hG.mono hsz1)) hbA
          have hPl2 : w.heap.size < w2.heap.size := cell_lt hp1
          replace hoA := hoA.base (Nat.le_of_lt hPl)
          clear hbA hrw
          go_wp2_with fail
          (with_reducible refine (HCB.out w2 hrA).mono ?_)
          rintro e w3 ⟨A2, c2, rfl, hoB, hbB⟩
          replace hp1 := (hbB.cell (p := ⟨w.heap.size, 0, none⟩) hPl2).trans hp1
          replace hp2 := (hbB.cell (p := ⟨w.heap.size, 1, none⟩) hPl2).trans hp2
          have hBB := below_call hBA hbB
          replace hoA := hoA.keep hbB
          replace hoB := hoB.base (Nat.le_of_lt hPl2)
          have hPl3 : w.heap.size < w3.heap.size := cell_lt hp1
          have HBB := Lib.hid hBB
          have HOA := Lib.hid hoA
          have HOB := Lib.hid hoB
          clear hbB hrA hoA hoB hBA hBB
          by_cases hA1 : LA.length = 1
          rotate_left
          · have HR2 : Hid (R = LA ++ LB) := Lib.hid (by
              rw [HSU.out, if_neg]
              rw [Bool.and_eq_true]
              rintro ⟨h, _⟩
              match LA, hA1, h with
              | [], _, h => cases h
              | _ :: _ :: _, _, h => cases h
              | [_], h0, _ => exact h0 rfl)
            have hA0 : ((LA.length : Int) == 1) = false := by rw [beq_eq_false_iff_ne]; omega
            clear hA1
            go_wp2_with fail
            go_quiet (fail)
            go_wp2_with (at_builtin; refine wp_append_pfxs _ rfl (.tmp 100) (.tmp 101) rfl w.heap.size _ (LA) (by rfl) HOA.out _ (LB.length) _ (LB) rfl HOB.out.rds (by first | omega | (simp; done) | (simp; omega)) (Nat.le_of_lt hPl3) ?_; intro A6 c6 w6 ho6 hB6)
            go_ret
            rw [RetPs, HR2.out, List.length_append]
            exact ⟨A6, c6, rfl, ho6, (below_drewN HBB.out _).trans hB6⟩
          obtain ⟨x, rfl⟩ := List.length_eq_one_iff.1 hA1
          clear hA1 hlA
          simp only [List.length_cons, List.length_nil, Nat.zero_add] at HOA ⊢
          by_cases hB1 : LB.length = 1
          rotate_left
          · have HR2 : Hid (R = [x] ++ LB) := Lib.hid (by
              rw [HSU.out, if_neg]
              rw [Bool.and_eq_true]
              rintro ⟨_, h⟩
              match LB, hB1, h with
              | [], _, h => cases h
              | _ :: _ :: _, _, h => cases h
              | [_], h0, _ => exact h0 rfl)
            have hB0 : ((LB.length : Int) == 1) = false := by rw [beq_eq_false_iff_ne]; omega
            clear hB1
            go_wp2_with fail
            go_quiet (fail)
            go_wp2_with (at_builtin; refine wp_append_pfxs _ rfl (.tmp 100) (.tmp 101) rfl w.heap.size _ ([x]) (by rfl) HOA.out _ (LB.length) _ (LB) rfl HOB.out.rds (by first | omega | (simp; done) | (simp; omega)) (Nat.le_of_lt hPl3) ?_; intro A6 c6 w6 ho6 hB6)
            go_ret
            rw [RetPs, HR2.out, List.length_append]
            exact ⟨A6, c6, rfl, ho6, (below_drewN HBB.out _).trans hB6⟩
          obtain ⟨y, rfl⟩ := List.length_eq_one_iff.1 hB1
          clear hB1 hlB
          simp only [List.length_cons, List.length_nil, Nat.zero_add] at HOB ⊢
          obtain ⟨ga, ca, ea, _, hga, hca, _⟩ := HOA.out.full (by simp)
          obtain ⟨gb, cb, eb, _, hgb, hcb, _⟩ := HOB.out.full (by simp)
          cases ea
          cases eb
          have hxa := (HOA.out.cells 0 (by simp)).2
          have hyb := (HOB.out.cells 0 (by simp)).2
          simp only [Nat.zero_mul, Nat.zero_add, List.getElem_cons_zero] at hxa hyb
          by_cases hx : x.2 = l + 1
          · by_cases hy : y.2 = l + 1
            · have hxe : (x.2 == l + 1) = true := by rw [beq_iff_eq]; exact hx
              have hye : (y.2 == l + 1) = true := by rw [beq_iff_eq]; exact hy
              have HR2 : Hid (R = [((a : Int), l)]) := Lib.hid (by
                rw [HSU.out, if_pos, HTOK.out]
                show (x.2 == l + 1 && y.2 == l + 1) = true
                rw [hxe, hye]; rfl)
              clear hx hy
              go_wp2_with fail
              go_quiet (fail)
              go_wp2_with fail
              go_ret
              rw [RetPs, HR2.out]
              exact ⟨_, _, rfl, ownP_lit _ _ (Nat.le_of_lt hPl3) ((a : Int), l), below_call (below_drewN HBB.out _) ((Below.refl _ _).alloc (Nat.le_refl _) _)⟩
            · have hxe : (x.2 == l + 1) = true := by rw [beq_iff_eq]; exact hx
              have hye : (y.2 == l + 1) = false := by rw [beq_eq_false_iff_ne]; exact hy
              have HR2 : Hid (R = [x] ++ [y]) := Lib.hid (by
                rw [HSU.out, if_neg]
                show ¬ (x.2 == l + 1 && y.2 == l + 1) = true
                rw [hye]; simp)
              clear hx hy
              go_wp2_with fail
              go_quiet (fail)
              go_wp2_with (at_builtin; refine wp_append_pfxs _ rfl (.tmp 100) (.tmp 101) rfl w.heap.size _ ([x]) (by rfl) HOA.out _ (1) _ ([y]) rfl HOB.out.rds (by first | omega | (simp; done) | (simp; omega)) (Nat.le_of_lt hPl3) ?_; intro A6 c6 w6 ho6 hB6)
              go_ret
              rw [RetPs, HR2.out, List.length_append]
              exact ⟨A6, c6, rfl, ho6, (below_drewN HBB.out _).trans hB6⟩
          · have hxe : (x.2 == l + 1) = false := by rw [beq_eq_false_iff_ne]; exact hx
            have HR2 : Hid (R = [x] ++ [y]) := Lib.hid (by
              rw [HSU.out, if_neg]
              show ¬ (x.2 == l + 1 && y.2 == l + 1) = true
              rw [hxe]; simp)
            clear hx
            go_wp2_with fail
            go_quiet (fail)
            go_wp2_with (at_builtin; refine wp_append_pfxs _ rfl (.tmp 100) (.tmp 101) rfl w.heap.size _ ([x]) (by rfl) HOA.out _ (1) _ ([y]) rfl HOB.out.rds (by first | omega | (simp; done) | (simp; omega)) (Nat.le_of_lt hPl3) ?_; intro A6 c6 w6 ho6 hB6)
            go_ret
            rw [RetPs, HR2.out, List.length_append]
            exact ⟨A6, c6, rfl, ho6, (below_drewN HBB.out _).trans hB6⟩
theorem refFew_any (A : Option Addr) (n c : Nat) (xs : List (Int × Int)) (hn : n ≤ 1000) (he : errP xs = 0) : ∀ (k a : Nat) (l : Int) (w : World), l = 16 - (k : Int) → V (a, k) → Rds w 2 A n (pc xs) →
    Calls Tryd.prog 34 #[.slice A n c, .agg #[.int .i64 a, .int .i64 l]] w (RetPs w (fewRI xs k a)) := by
  intro k
  induction k with
  | zero => exact refFew_step A n c xs hn he 0 (fun k' h => by omega)
  | succ k ih => exact refFew_step A n c xs hn he (k + 1) (fun k' h => by obtain rfl : k = k' := by omega
                                                                          exact ih)
end Go.Proofs.YtfgpppgehbpblaaDoor
