/- The document's word on parts: ferryhythelaw1.FragSays returns true. -/
import Derived.Test.YtbmajajndckfoaaDoorRefAgain
import Derived.Test.YtbmajajndckfoaaDoorRefJoin
import Derived.Test.YtbmajajndckfoaaDoorErrV
import Derived.Test.YtbmajajndckfoaaDoorWantPlain
import Derived.Test.YtbmajajndckfoaaDoorPartArg
import Derived.BigQuiet
namespace Go.Proofs.YtbmajajndckfoaaDoor
open Go.RowKit
attribute [local go_sem ↓] Go.wp_at_zero Go.wp_at_succ
theorem len_appQ (xs ys : List Pt) : (xs ++ ys).length = xs.length + ys.length := List.length_append
theorem cutV_le (t : ByteArray) (size : Int) : (cutV t size).length ≤ 40 := by
  by_cases h : cutE t size = 0
  · obtain ⟨sz, rfl, s1, s2, ht, hM, hV, hC⟩ := cutE_ok h
    rw [hV, partsL_len]; exact hM
  · rw [cutV_bad h]; simp
theorem againV_le (p : Pt) (size : Int) : (againV p size).length ≤ 40 := by
  unfold againV
  split
  · rw [List.length_map]; exact cutV_le _ _
  · simp
theorem same_none (w : World) : Calls Tryd.prog 24 #[.slice none 0 0, .slice none 0 0] w fun e w' => e = .returned (.bool true) ∧ Grew w w' :=
  sameParts_any [] none none 0 0 w (Rds.qnil _) (Rds.qnil _) (by simp)
theorem same_at (ws : List Pt) (n : Nat) (h : ws.length = n) (A B : Option Addr) (c d : Nat) (w : World) (hr : Rds w 3 A n (qc ws)) (hs : Rds w 3 B n (qc ws)) (hl : n ≤ 40) :
    Calls Tryd.prog 24 #[.slice A n c, .slice B n d] w fun e w' => e = .returned (.bool true) ∧ Grew w w' := by
  subst h
  exact sameParts_any ws A B c d w hr hs (by omega)
set_option maxRecDepth 100000 in
set_option maxHeartbeats 4000000 in
theorem fragSays_any (t : ByteArray) (size : Int) (p : Pt) (A : Option Addr) (n c : Nat) (xs : List Pt) (w : World) (hm : t.size ≤ maxLen) (hp : FitP p) (hr : Rds w 3 A n (qc xs)) (hn : n ≤ maxLen) (hl : LaidW w) :
    Calls Tryd.prog 5 #[.string t, .int .i64 size, .agg #[.int .i64 p.1, .bool p.2.1, .string p.2.2], .slice A n c] w fun e w' => e = .returned (.bool true) ∧ Below w.heap.size w w' := by
  obtain rfl : n = xs.length := hr.qlen
  have HP0 := Lib.hid hp.2.2
  obtain ⟨a, m, s⟩ := p
  simp only at HP0 ⊢
  have hB : Below w.heap.size w (w.alloc (.cells #[.int .i64 a, .bool m, .string s] 50)) := (Below.refl _ _).alloc (Nat.le_refl _) _
  have hp1 : (w.alloc (.cells #[.int .i64 a, .bool m, .string s] 50)).cell? ⟨w.heap.size, 0, none⟩ = some (.int .i64 a) := by simp
  have hp2 : (w.alloc (.cells #[.int .i64 a, .bool m, .string s] 50)).cell? ⟨w.heap.size, 1, none⟩ = some (.bool m) := by simp
  have hp3 : (w.alloc (.cells #[.int .i64 a, .bool m, .string s] 50)).cell? ⟨w.heap.size, 2, none⟩ = some (.string s) := by simp
  have HM := Lib.hid hm
  have HR := Lib.hid hr
  have HN := Lib.hid hn
  have HL := Lib.hid hl
  clear hm hp hr hn hl
  go_enter Tryd.func5, Tryd.ntmps5
  go_wp2_with fail
  (with_reducible refine (refCut_any _ _ _ HM.out).mono ?_)
  rintro e w1 ⟨A1, c1, rfl, ho1, hb⟩
  have hPl : w.heap.size < (w.alloc (.cells #[.int .i64 a, .bool m, .string s] 50)).heap.size := cell_lt hp1
  have HP1 := Lib.hid ((hb.cell (p := ⟨w.heap.size, 0, none⟩) hPl).trans hp1)
  have HP2 := Lib.hid ((hb.cell (p := ⟨w.heap.size, 1, none⟩) hPl).trans hp2)
  have HP3 := Lib.hid ((hb.cell (p := ⟨w.heap.size, 2, none⟩) hPl).trans hp3)
  have HB := Lib.hid (below_call hB hb)
  have HX := Lib.hid ho1.rds
  have HLE := Lib.hid (cutV_le t size)
  clear hp1 hp2 hp3 hB hPl hb ho1
  go_wp2_with fail
  (with_reducible refine (cut_law _ _ _ HM.out).mono ?_)
  rintro e w2 ⟨A2, c2, rfl, ho2, hC⟩
  have HX2 := Lib.hid (HX.out.below hC)
  have HY := Lib.hid ho2.rds
  have HC := Lib.hid hC
  clear HX ho2 hC
  generalize cutV t size = L at *
  generalize cutE t size = ce at *
  go_wp2_with fail
  (with_reducible refine (error_same _ _ (HL.out.below (below_call HB.out HC.out))).mono ?_)
  rintro e w3 ⟨rfl, hb⟩
  have HX3 := Lib.hid (HX2.out.below hb)
  have HY3 := Lib.hid (HY.out.below hb)
  have HC3 := Lib.hid (below_call HC.out hb)
  clear HX2 HY HC hb
  go_wp2_with fail
  (with_reducible refine (sameParts_any L _ _ _ _ _ HY3.out HX3.out (by have := HLE.out; omega)).mono ?_)
  rintro e w4 ⟨rfl, hb⟩
  have HC4 := Lib.hid (below_call HC3.out hb.below)
  clear HX3 HY3 HC3 HLE hb HM
  have hp1 := (HC4.out.cell (cell_lt HP1.out)).trans HP1.out
  have hp2 := (HC4.out.cell (cell_lt HP2.out)).trans HP2.out
  have hp3 := (HC4.out.cell (cell_lt HP3.out)).trans HP3.out
  go_wp2_with fail
  (with_reducible refine (refAgain_any (a, m, s) _ _ HP0.out).mono ?_)
  rintro e w5 ⟨A3, c3, rfl, ho3, hb⟩
  have HC5 := Lib.hid (below_call HC4.out hb)
  have HX5 := Lib.hid ho3.rds
  have HLE := Lib.hid (againV_le (a, m, s) size)
  replace hp1 := (HC5.out.cell (cell_lt HP1.out)).trans HP1.out
  replace hp2 := (HC5.out.cell (cell_lt HP2.out)).trans HP2.out
  replace hp3 := (HC5.out.cell (cell_lt HP3.out)).trans HP3.out
  clear HC4 ho3 hb
  go_wp2_with fail
  (with_reducible refine (again_law (a, m, s) _ _ HP0.out).mono ?_)
  rintro e w6 ⟨A4, c4, rfl, ho4, hb⟩
  have HC6 := Lib.hid (below_call HC5.out hb)
  have HX6 := Lib.hid (HX5.out.below hb)
  have HY6 := Lib.hid ho4.rds
  clear HC5 HX5 ho4 hb hp1 hp2 hp3 HP1 HP2 HP3 HP0
  generalize againV (a, m, s) size = L2 at *
  generalize againE (a, m, s) size = ce2 at *
  go_wp2_with fail
  (with_reducible refine (error_same _ _ (HL.out.below (below_call HB.out HC6.out))).mono ?_)
  rintro e w7 ⟨rfl, hb⟩
  have HX7 := Lib.hid (HX6.out.below hb)
  have HY7 := Lib.hid (HY6.out.below hb)
  have HC7 := Lib.hid (below_call HC6.out hb)
  clear HX6 HY6 HC6 hb
  go_wp2_with fail
  (with_reducible refine (sameParts_any L2 _ _ _ _ _ HY7.out HX7.out (by have := HLE.out; omega)).mono ?_)
  rintro e w8 ⟨rfl, hb⟩
  have HC8 := Lib.hid (below_call HC7.out hb.below)
  clear HX7 HY7 HC7 HLE hb
  go_wp2_with fail
  (with_reducible refine (refJoin_any _ _ _ xs _ (HR.out.below (below_call HB.out HC8.out)) HN.out).mono ?_)
  rintro e w9 ⟨rfl, hb⟩
  have HC9 := Lib.hid (below_call HC8.out hb)
  clear HC8 hb
  go_wp2_with fail
  (with_reducible refine (join_any _ _ _ xs _ (HR.out.below (below_call HB.out HC9.out)) HN.out).mono ?_)
  rintro e w10 ⟨rfl, hb⟩
  have HC10 := Lib.hid (below_call HC9.out hb)
  clear HC9 hb
  generalize joinT xs = jt at *
  generalize joinE xs = je at *
  go_wp2_with fail
  (with_reducible refine (error_same _ _ (HL.out.below (below_call HB.out HC10.out))).mono ?_)
  rintro e wl ⟨rfl, hb⟩
  have HBL := Lib.hid (below_call HB.out (below_call HC10.out hb))
  have HRL := Lib.hid (HR.out.below HBL.out)
  have HLL := Lib.hid (HL.out.below HBL.out)
  clear HC10 hb HB HR HL
  by_cases h40 : 40 < xs.length
  · have h40z : (40 : Int) < (xs.length : Int) := by omega
    have H40 := Lib.hid h40
    clear h40
    go_wp2_with fail
    go_loopw [9, 18] (fun s9 s18 wr => s9 = .slice none 0 0 ∧ s18 = .int .i64 0 ∧ wl = wr) (fun _ _ _ => 0)
    case atStart => exact ⟨rfl, rfl, rfl⟩
    case round =>
      obtain ⟨rfl, rfl, rfl⟩ := hrel
      go_wp2_with fail
      (with_reducible refine (order_any _ _ _ xs _ HRL.out HN.out).mono ?_)
      rintro e w12 ⟨hb, h1, _⟩
      obtain rfl := h1 H40.out
      have HB12 := Lib.hid (below_call HBL.out hb)
      have HL12 := Lib.hid (HLL.out.below hb)
      clear h1 hb
      go_wp2_with fail
      (with_reducible refine (error_errno 4 4 _ HL12.out).mono ?_)
      rintro e w13 ⟨rfl, hb⟩
      have HB13 := Lib.hid (below_call HB12.out hb)
      clear hb HB12
      go_wp2_with fail
      (with_reducible refine (same_none _).mono ?_)
      rintro e w14 ⟨rfl, hb⟩
      have HB14 := Lib.hid (below_call HB13.out hb.below)
      clear hb HB13
      go_wp2
      go_ret
      exact ⟨rfl, HB14.out⟩
  · have h40' : xs.length ≤ 40 := by omega
    clear h40
    go_wp2_with fail
    go_loopw [9, 18] (fun s9 s18 wr => ∃ (at' : Nat) (A9 : Option Addr) (c9 : Nat) (ws : List Pt), at' ≤ xs.length ∧ s18 = .int .i64 at' ∧ s9 = .slice A9 ws.length c9 ∧ Hid (ws = wantR xs at') ∧ ws.length ≤ at' * 40 ∧ OwnQ wr wl.heap.size (.slice A9 ws.length c9) ws ∧ Below wl.heap.size wl wr) (fun _ s18 _ => xs.length - (intOf s18).toNat)
    case atStart => exact ⟨0, none, 0, [], Nat.zero_le _, rfl, rfl, Lib.hid rfl, by simp, OwnQ.nil_ _ _, Below.refl _ _⟩
    case round =>
      obtain ⟨at', A9, c9, ws, hat, rfl, rfl, HW, hwl, ho, hBr⟩ := hrel
      by_cases hlt : at' < xs.length
      · go_wp2_with fail
        go_loopw [9, 19] (fun s9 s19 wr => ∃ (i : Nat) (A8 : Option Addr) (c8 : Nat) (vs : List Pt), i ≤ xs.length ∧ s19 = .int .i64 i ∧ s9 = .slice A8 vs.length c8 ∧ Hid (vs = wantR xs at' ++ selR xs at' i) ∧ vs.length ≤ at' * 40 + i ∧ OwnQ wr wl.heap.size (.slice A8 vs.length c8) vs ∧ Below wl.heap.size wl wr) (fun _ s19 _ => xs.length - (intOf s19).toNat)
        case atStart => exact ⟨0, A9, c9, ws, Nat.zero_le _, rfl, rfl, Lib.hid (by rw [HW.out, selR_zero, List.append_nil]), by omega, ho, hBr⟩
        case round =>
          clear ho hBr HW hwl
          obtain ⟨i, A8, c8, vs, hi, rfl, rfl, HV, hvl, ho, hBr⟩ := hrel
          by_cases hli : i < xs.length
          · obtain ⟨wm, rfl⟩ : ∃ wm : World, wm = wr := ⟨_, rfl⟩
            have HO := Lib.hid ho
            have HBR := Lib.hid hBr
            clear ho hBr
            go_wp2_with fail
            go_loopw [20, 21] (fun s20 s21 wr => ∃ k : Nat, k ≤ xs.length ∧ s20 = .int .i64 (rk xs i k : Nat) ∧ s21 = .int .i64 k ∧ Hid (Below wm.heap.size wm wr)) (fun _ s21 _ => xs.length - (intOf s21).toNat)
            case atStart => exact ⟨0, Nat.zero_le _, rfl, rfl, Lib.hid (Below.refl _ _)⟩
            case round =>
              obtain ⟨k, hk, rfl, rfl, HG⟩ := hrel
              have hzi : (0 : Int) ≤ (i : Int) ∧ (i : Int) < (xs.length : Int) := by omega
              have HRW := Lib.hid (HRL.out.below (below_call HBR.out HG.out))
              obtain ⟨b, off, hi', hA1, hy1, hy2, hy3⟩ := HRW.out.part (k := i) hli
              by_cases hlk : k < xs.length
              · have hzk : (0 : Int) ≤ (k : Int) ∧ (k : Int) < (xs.length : Int) := by omega
                obtain ⟨b2, off2, hk', hA2, hx1, _, _⟩ := HRW.out.part (k := k) hlk
                have hAE := hA1.symm.trans hA2
                cases hAE
                subst hA1
                have hkk := rk_le xs i k
                have HAH : Hid (ahB xs k i = (decide (xs[k].1 < xs[i].1) || (decide (xs[k].1 = xs[i].1) && decide (k < i)))) := Lib.hid (by unfold ahB; rw [atI_get hk', atI_get hi'])
                have HT := Lib.hid (fun h => rk_true (xs := xs) (i := i) (k := k) h)
                have HF := Lib.hid (fun h => rk_false (xs := xs) (i := i) (k := k) h)
                generalize rk xs i k = r at *
                generalize xs[k].1 = x at *
                generalize xs[i].1 = y at *
                clear hA2 hy2 hy3
                by_cases h1 : x < y
                · have HA : Hid (ahB xs k i = true) := Lib.hid (by rw [HAH.out, decide_eq_true h1]; rfl)
                  clear HAH HF
                  go_wp2_with fail
                  go_quiet (fail)
                  go_wp2
                  go_roundw
                  case rel => exact ⟨k + 1, by omega, by rw [HT.out HA.out]; go_num, by go_num, Lib.hid (below_drewN HG.out _)⟩
                  case measure => simp [intOf]; omega
                · have h1d : decide (x < y) = false := decide_eq_false h1
                  by_cases h2 : x = y
                  · by_cases h3 : k < i
                    · have h3z : (k : Int) < (i : Int) := by omega
                      have HA : Hid (ahB xs k i = true) := Lib.hid (by rw [HAH.out, h1d, decide_eq_true h2, decide_eq_true h3]; rfl)
                      subst h2
                      clear HAH HF h1d
                      go_wp2_with fail
                      go_quiet (fail)
                      go_wp2
                      go_roundw
                      case rel => exact ⟨k + 1, by omega, by rw [HT.out HA.out]; go_num, by go_num, Lib.hid (below_drewN HG.out _)⟩
                      case measure => simp [intOf]; omega
                    · have h3d : decide ((k : Int) < (i : Int)) = false := decide_eq_false (by omega)
                      have HA : Hid (ahB xs k i = false) := Lib.hid (by rw [HAH.out, h1d, decide_eq_true h2, decide_eq_false h3]; rfl)
                      subst h2
                      clear HAH HT h1d
                      go_wp2_with fail
                      go_quiet (fail)
                      go_wp2
                      go_roundw
                      case rel => exact ⟨k + 1, by omega, by rw [HF.out HA.out], by go_num, Lib.hid (below_drewN HG.out _)⟩
                      case measure => simp [intOf]; omega
                  · have h2d : (x == y) = false := by rw [beq_eq_false_iff_ne]; exact h2
                    have HA : Hid (ahB xs k i = false) := Lib.hid (by rw [HAH.out, h1d, decide_eq_false h2]; rfl)
                    clear HAH HT h1 h2
                    go_wp2_with fail
                    go_quiet (fail)
                    go_wp2
                    go_roundw
                    case rel => exact ⟨k + 1, by omega, by rw [HF.out HA.out], by go_num, Lib.hid (below_drewN HG.out _)⟩
                    case measure => simp [intOf]; omega
              · obtain rfl : k = xs.length := by omega
                have HZ := Lib.hid (rfl : xs[i] = xs[i])
                obtain ⟨q, hQ⟩ : ∃ q, xs[i] = q := ⟨_, rfl⟩
                rw [hQ] at hy1 hy2 hy3
                obtain ⟨qa, qm, qd⟩ := q
                simp only at hy1 hy2 hy3
                have HQ := Lib.hid hQ
                clear hQ HZ
                subst hA1
                have hkk := rk_le xs i xs.length
                by_cases hat2 : rk xs i xs.length = at'
                · have HVN : Hid (selR xs at' (i + 1) = selR xs at' i ++ [(qa, qm, qd)]) := Lib.hid (by rw [selR_yes hi' hat2, HQ.out])
                  have hBW := below_call HBR.out HG.out
                  have hsz := hBW.size
                  have hO2 := HO.out.keep HG.out
                  rw [hat2]
                  clear hat2 hkk HQ
                  go_wp2_with (at_builtin; refine wp_append_part wr rfl (.tmp 139) (.tmp 144) rfl wl wl.heap.size (.slice A8 vs.length c8) vs (by rfl) hO2 (qa, qm, qd) rfl (by omega) hsz hBW ?_; intro A7 c7 w7' ho7 _ _ hB7 _)
                  go_roundw
                  case rel => exact ⟨i + 1, A7, c7, vs ++ [(qa, qm, qd)], by omega, by go_num, by rw [len_appQ]; rfl, Lib.hid (by rw [HVN.out, ← List.append_assoc, ← HV.out]), by rw [len_appQ]; simp only [List.length_cons, List.length_nil]; omega, by rw [len_appQ]; exact ho7, hB7⟩
                  case measure => simp [intOf]; omega
                · have HVN : Hid (selR xs at' (i + 1) = selR xs at' i) := Lib.hid (selR_no hat2)
                  obtain ⟨r, hrr⟩ : ∃ r, rk xs i xs.length = r := ⟨_, rfl⟩
                  rw [hrr] at hat2 ⊢
                  have hne : ((r : Int) == (at' : Int)) = false := by rw [beq_eq_false_iff_ne]; omega
                  have hBW := below_call HBR.out HG.out
                  have hO2 := Lib.hid (HO.out.keep HG.out)
                  clear hrr hkk HQ
                  go_wp2_with fail
                  go_roundw
                  case rel => exact ⟨i + 1, A8, c8, vs, by omega, by go_num, rfl, Lib.hid (by rw [HVN.out]; exact HV.out), by omega, hO2.out, hBW⟩
                  case measure => simp [intOf]; omega
          · obtain rfl : i = xs.length := by omega
            have HW2 : Hid (vs = wantR xs (at' + 1)) := Lib.hid (by rw [HV.out, wantR_succ])
            go_wp2_with fail
            go_roundw
            case rel => exact ⟨at' + 1, A8, c8, vs, by omega, by go_num, rfl, HW2, by omega, ho, hBr⟩
            case measure => simp [intOf]; omega
      · obtain rfl : at' = xs.length := by omega
        have HO := Lib.hid ho
        have HBR := Lib.hid (below_call HBL.out hBr)
        have HLW := Lib.hid (HLL.out.below hBr)
        have HRW := Lib.hid (HRL.out.below hBr)
        have H40 := Lib.hid h40'
        clear ho hBr h40' hwl HBL HLL HRL
        go_wp2_with fail
        (with_reducible refine (order_any _ _ _ xs _ HRW.out HN.out).mono ?_)
        rintro e w12 ⟨hb, _, h2⟩
        obtain ⟨A6, c6, zs, rfl, hO, ho6⟩ := h2 H40.out
        have HZ : Hid (zs.map Prod.fst = ws) := Lib.hid (by rw [HW.out, wantR_ord hO])
        rw [HZ.out] at ho6
        have hwn : ws.length = xs.length := by rw [← HZ.out, List.length_map, hO.length]
        have HB12 := Lib.hid (below_call HBR.out hb)
        have HX12 := Lib.hid (HO.out.keep hb).rds
        have HY12 : Hid (Rds w12 3 A6 xs.length (qc ws)) := Lib.hid ho6.rds
        rw [hwn] at HX12
        have HWN := Lib.hid hwn
        rw [hwn]
        clear h2 hb hO ho6 HZ HO HRW HW hwn
        go_wp2_with fail
        (with_reducible refine (error_nil 0 _).mono ?_)
        rintro e w13 ⟨rfl, rfl⟩
        go_wp2_with fail
        (with_reducible refine (same_at ws _ HWN.out _ _ _ _ _ HY12.out HX12.out H40.out).mono ?_)
        rintro e w14 ⟨rfl, hb⟩
        have HB14 := Lib.hid (below_call HB12.out hb.below)
        clear hb HB12
        go_wp2
        go_ret
        exact ⟨rfl, HB14.out⟩
end Go.Proofs.YtbmajajndckfoaaDoor
