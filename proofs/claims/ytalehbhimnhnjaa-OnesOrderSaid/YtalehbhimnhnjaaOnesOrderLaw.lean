/- The walk of the law OnesOrder. -/
import Derived.Test.YtalehbhimnhnjaaOnesOrderPlain
import Derived.Test.YtalehbhimnhnjaaAppMid
namespace Go.Proofs.Ytalehbhimnhnjaa
open Go.RowKit

theorem Own.spare {w : World} {base g n c : Nat} {xs : List Int} (h : Own w base (.slice (some ⟨g, 0, none⟩) n c) xs) {q : Nat} (hq : q < c) : (w.cell? ⟨g, q, none⟩).isSome = true ∧ w.frozen? ⟨g, q, none⟩ = false := by
  rcases h.2 with ⟨e, _⟩ | ⟨g', cap, cur, e, hg, hh, _, _, h3, _⟩
  · cases e
  · injection e with e1 e2 e3
    injection e1 with e1
    injection e1 with e1
    subst e1; subst e3
    refine ⟨?_, by simp [World.frozen?, hh]⟩
    rw [cell_of_row w g q cur _ (0, 0) hh]
    rw [Nat.mul_one] at h3
    rw [Array.getElem?_eq_getElem (by omega)]
    rfl

theorem apart_own {w wo : World} {base B g n c m d : Nat} {A : Option Addr} {xs ys : List Int} (h3 : Own w B (.slice A n c) xs) (h4 : Own wo base (.slice (some ⟨g, 0, none⟩) m d) ys) (hB : wo.heap.size ≤ B := by exact Nat.le_refl _) :
    (Value.slice A n c).ownBlock = none ∨ (Value.slice A n c).ownBlock ≠ some g := by
  rw [ownBlock_slice]
  cases hA : A with
  | none => exact .inl rfl
  | some a =>
    right
    intro e
    have h5 := h3.range a hA
    have h6 := h4.range ⟨g, 0, none⟩ rfl
    simp only [Option.map_some, Option.some.injEq] at e
    rw [e] at h5
    simp only at h6
    omega
theorem Rds.empty' {w : World} (A : Option Addr) (size : Nat) : Rds w size A 0 [] := ⟨by simp, fun h => absurd h (by simp)⟩
theorem run_append_nothing (w : World) (ty n c d : Nat) (A B : Option Addr) (hn : n ≤ c) :
    (Builtin.append_ #[22, 22] ty #[.slice A n c, .slice B 0 d]).run Try.prog w = .ok (.slice A n c) w := by
  obtain ⟨i0, hi, hz0, hz1, hz2⟩ := info_parts info_int
  rcases A with _ | A <;> rcases B with _ | B <;>
    simp [Builtin.append_, run_underlying Try.underlying22, sizeOf, typeInfo, hi, Builtin.lenOf, Builtin.firstCells, hn, storeCells, loadCells, loadCellsFrom]

theorem step_append_nothing (w : World) {ops : Array Oper} {o : Oper} {a : Act} {K : Act → World → Prop} {Q : Exit → Act → World → Prop} {E : Prop} (hgd : o.guard = none) (s x : Operand)
    (ho : o.op = .call { callee := .builtin .append, args := #[s, x], argTypes := #[22, 22] })
    (A B : Option Addr) (n c d m : Nat) (hs : a.eval s = .slice A n c) (hm : m = 0) (hx : a.eval x = .slice B m d) (hn : n ≤ c)
    (h : K (a.put o.dst (.slice A n c)) w) : if Region.wanted o (yielded ops a.tmps) = true then Oper.wp Try.prog o a w K Q else E := by
  have hw : Region.wanted o (yielded ops a.tmps) = true := by simp [Region.wanted, hgd]
  rw [if_pos hw]
  subst hm
  have hrun := run_append_nothing w o.type n c d A B hn
  unfold Oper.wp
  simp [execOp, ho, resolve, invoke, builtin, hs, hx, hrun, Result.andThen]
  exact h

set_option maxHeartbeats 20000000 in
theorem onesOrder_any (A : Option Addr) (n c : Nat) (xs : List Int) (at_ : Int) (w : World) (hr : Rds w 1 A n (ic xs)) (hnc : n ≤ c) (hc : c ≤ maxLen) :
    Calls Try.prog 4 #[.slice A n c, .int .i64 at_] w fun e w' => e = .returned (.bool true) ∧ Below w.heap.size w w' := by
  have hB := Below.refl w.heap.size w
  obtain rfl : n = xs.length := hr.len_int
  have HN := Lib.hid (Nat.le_trans hnc hc)
  have hlm : xs.length ≤ 9223372036854775807 := by have := HN.out; unfold maxLen at this; omega
  by_cases hodd : xs.length % 2 = 1
  · have ho : ((xs.length : Int) % 2 == 1) = true := by rw [beq_iff_eq]; omega
    clear hodd
    go_enter Try.func4, Try.ntmps4
    go_wp2_with (first | (go_at_call 8; refine (onesFact_any _).mono ?_; rintro e w1 ⟨rfl, hb⟩; replace hB := below_call hB hb; clear hb))
    go_ret
    exact ⟨rfl, hB⟩
  have ho : ((xs.length : Int) % 2 == 1) = false := by rw [beq_eq_false_iff_ne]; omega
  have hev : xs.length % 2 = 0 := by omega
  clear hodd
  have HEV := Lib.hid hev
  clear hev
  by_cases h : bytesE xs 600 = 0
  · have HE := Lib.hid h
    have hby := byte_range (bytes_of_ok h).1
    have HBY := Lib.hid hby
    have hle := norm_le (wsum_nonneg hby)
    rw [← totalP_norm hby] at hle
    have hl := (bytes_of_ok h).2
    have HSW := Lib.hid (swap_total hby HEV.out)
    have HTU := Lib.hid (turn_total hby HEV.out)
    obtain ⟨N, HT⟩ : ∃ N, Hid (65535 - totalP xs = N) := ⟨_, Lib.hid rfl⟩
    have hN : 0 ≤ N ∧ N ≤ 65535 := by have := HT.out; omega
    obtain ⟨hN0, hN1⟩ := hN
    have HI := Lib.hid (show inB N 0 65535 = true from inB_true.2 ⟨hN0, hN1⟩)
    clear h hle hby
    have HR := Lib.hid (Own.nil_ w w.heap.size)
    go_enter Try.func4, Try.ntmps4
    go_wp2_with (first | (go_at_call 8; refine (onesFact_any _).mono ?_; rintro e w1 ⟨rfl, hb⟩; replace hB := below_call hB hb; clear hb) | (go_at_call 9; refine (sum_ok _ _ _ _ _ (hr.below hB) hnc hc HE.out).mono ?_; rintro e w2 ⟨rfl, hb⟩; rw [HT.out]; replace hB := below_call hB hb; clear hb) | ((go_at_call 10; refine (in_any _ _ _ _).mono ?_; rintro e w' ⟨rfl, rfl⟩); rw [HI.out]))
    go_loopw [8, 10] (fun v i wr => ∃ (k : Nat) (iv : Int) (A1 : Option Addr) (c1 : Nat), 2 * k ≤ xs.length ∧ i = .int .i64 iv ∧ iv = (xs.length : Int) - 2 - 2 * k ∧ v = .slice A1 (2 * k) c1 ∧ Own wr w.heap.size (.slice A1 (2 * k) c1) (turnedK xs k) ∧ 2 * k ≤ c1 ∧ c1 ≤ maxLen ∧ Below w.heap.size w wr) (fun _ i _ => (intOf i + 2).toNat)
    case atStart => exact ⟨0, _, none, 0, by omega, rfl, by simp, rfl, Own.nil_ _ _, by omega, by unfold maxLen; omega, hB⟩
    case round =>
      obtain ⟨k, iv, A1, c1, hk, rfl, hiv, rfl, hown, hc1, hc2, hB⟩ := hrel
      have HKL := Lib.hid (turnedK_len xs k)
      by_cases hlt : 2 * k < xs.length
      · have hev := HEV.out
        obtain ⟨j, rfl⟩ : ∃ j : Nat, iv = j := ⟨iv.toNat, by omega⟩
        have hj1 : j + 1 < xs.length := by omega
        have hj0 : j < xs.length := by omega
        have HQ : Hid (turnedK xs (k + 1) = turnedK xs k ++ [xs[j]] ++ [xs[j + 1]]) := Lib.hid (by
          simp only [turnedK]
          rw [show xs.length - 2 - 2 * k = j from by omega, show xs.length - 1 - 2 * k = j + 1 from by omega]
          simp [List.getD_eq_getElem?_getD, hj0, hj1])
        obtain ⟨b, off, _, rfl, hcx⟩ := hr.int hj0
        obtain ⟨b', off', _, hA, hcy⟩ := hr.int hj1
        obtain ⟨rfl, rfl⟩ : b = b' ∧ off = off' := by simpa using hA
        clear hA
        have HCX := Lib.hid hcx
        have HCY := Lib.hid hcy
        have hcx' := (hB.cell (p := ⟨b, off + j, none⟩) (cell_lt hcx)).trans hcx
        generalize xs[j] = x at *
        generalize xs[j + 1] = y at *
        generalize turnedK xs k = tk at *
        have HIV := Lib.hid hiv
        clear hcx hcy hev hiv
        go_wp2_with (first
          | (at_builtin; refine wp_append_int wr rfl (.tmp 42) _ rfl w w.heap.size (.slice A1 (2 * k) c1) tk rfl hown x rfl (by rw [HKL.out]; omega) hB.size hB ?_; intro A3 c3 w3 ho3 hc5 hc6 hB3 _ _; have hcy' := (hB3.cell (p := ⟨b, off + (j + 1), none⟩) (cell_lt HCY.out)).trans HCY.out)
          | (at_builtin; refine wp_append_int w3 rfl (.tmp 49) _ rfl w w.heap.size (.slice A3 (tk.length + 1) c3) (tk ++ [x]) rfl ho3 y rfl (by simp; have := HKL.out; omega) hB3.size hB3 ?_; intro A4 c4 w4 ho4 hc7 hc8 hB4 _ _))
        go_roundw
        case rel => exact ⟨k + 1, _, A4, c4, by have := HEV.out; omega, rfl, by have := HIV.out; omega, slice_eq (by have := HKL.out; first | omega | (simp; omega)), by rw [HQ.out]; exact (by have := HKL.out; rwa [show (tk ++ [x]).length + 1 = 2 * (k + 1) from by simp; omega] at ho4), by have := HKL.out; simp at hc7; omega, hc8, hB4⟩
        case measure => have := HIV.out; simp [intOf]; omega
      · obtain rfl : k = xs.length / 2 := by have := HEV.out; omega
        obtain rfl : iv = -2 := by have := HEV.out; omega
        have hk2 : 2 * (xs.length / 2) = xs.length := by have := HEV.out; omega
        rw [hk2] at hown hc1 ⊢
        have HK2 := Lib.hid hk2
        have HTU2 := Lib.hid HTU.out
        clear hlt hiv hk hk2
        have HTM : Hid (∀ x ∈ turnedK xs (xs.length / 2), x ∈ xs) := Lib.hid (turnedK_mem xs _ (by have := HEV.out; omega))
        rw [HK2.out] at HKL
        have HRT := Lib.hid (rot_total HBY.out HEV.out)
        generalize turnedK xs (xs.length / 2) = zs at *
        obtain ⟨wo, rfl⟩ : ∃ wo : World, wo = wr := ⟨_, rfl⟩
        have HW := Lib.hid (Own.nil_ wo wo.heap.size)
        have HBO := Lib.hid hB
        have HB2 := Lib.hid (Below.refl wo.heap.size wo)
        go_wp2_with fail
        go_loopw [9, 11] (fun v i w2 => ∃ (k : Nat) (A3 : Option Addr) (c3 : Nat), k ≤ xs.length ∧ i = .int .i64 k ∧ v = .slice A3 k c3 ∧ Own w2 wo.heap.size (.slice A3 k c3) ((swapL xs).take k) ∧ k ≤ c3 ∧ c3 ≤ maxLen ∧ Below wo.heap.size wo w2) (fun _ i _ => xs.length - (intOf i).toNat)
        case atStart => exact ⟨0, none, 0, by omega, rfl, rfl, HW.out, by omega, by unfold maxLen; omega, HB2.out⟩
        case round =>
          obtain ⟨k, A3, c3, hk, rfl, rfl, hown3, hc3, hc4, hB3⟩ := hrel
          have HSL := Lib.hid (swapL_len xs)
          by_cases hlt : k < xs.length
          · have hkl : k < (swapL xs).length := by rw [HSL.out]; exact hlt
            have HSK : Hid (((swapL xs).take k).length = k) := Lib.hid (by rw [List.length_take]; omega)
            have HST : Hid ((swapL xs).take (k + 1) = (swapL xs).take k ++ [(swapL xs)[k]]) := Lib.hid (List.take_succ_eq_append_getElem hkl)
            have hev := HEV.out
            by_cases hk2 : k % 2 = 0
            · have hk1 : k + 1 < xs.length := by omega
              have hsw : (swapL xs)[k] = xs[k + 1] := by
                have := swapL_even xs k hk1 hk2
                rw [List.getElem?_eq_getElem hkl] at this
                exact Option.some.inj this
              rw [hsw] at HST
              obtain ⟨b, off, _, rfl, hcx⟩ := hr.int hk1
              have hcx' := ((below_call HBO.out hB3).cell (p := ⟨b, off + (k + 1), none⟩) (cell_lt hcx)).trans hcx
              have hk2' : ((k : Int) % 2 == 0) = true := by rw [beq_iff_eq]; omega
              generalize xs[k + 1] = x at *
              generalize (swapL xs).take k = s0 at *
              clear hcx hev hk2 hsw
              go_wp2_with (at_builtin; refine wp_append_int wr rfl (.tmp 66) _ rfl wo wo.heap.size (.slice A3 k c3) s0 rfl hown3 x rfl (by rw [HSK.out]; omega) hB3.size hB3 ?_; intro A4 c4 w4 ho4 hc7 hc8 hB4 _ _)
              go_roundw
              case rel => exact ⟨k + 1, A4, c4, by omega, by go_num, slice_eq (by rw [HSK.out]), by rw [HST.out]; (have := HSK.out; rwa [this] at ho4), by have := HSK.out; omega, hc8, hB4⟩
              case measure => simp [intOf]; omega
            · have hk1 : k - 1 < xs.length := by omega
              obtain ⟨j, rfl⟩ : ∃ j, k = j + 1 := ⟨k - 1, by omega⟩
              have hsw : (swapL xs)[j + 1] = xs[j] := by
                have := swapL_odd xs (j + 1) hlt (by omega)
                rw [List.getElem?_eq_getElem hkl] at this
                exact Option.some.inj this
              rw [hsw] at HST
              have hjl : j < xs.length := by omega
              obtain ⟨b, off, _, rfl, hcx⟩ := hr.int hjl
              have hcx' := ((below_call HBO.out hB3).cell (p := ⟨b, off + j, none⟩) (cell_lt hcx)).trans hcx
              have hk2' : (((j + 1 : Nat) : Int) % 2 == 0) = false := by rw [beq_eq_false_iff_ne]; omega
              generalize xs[j] = x at *
              generalize (swapL xs).take (j + 1) = s0 at *
              clear hcx hev hk2 hsw
              go_wp2_with (at_builtin; refine wp_append_int wr rfl (.tmp 74) _ rfl wo wo.heap.size (.slice A3 (j + 1) c3) s0 rfl hown3 x rfl (by rw [HSK.out]; omega) hB3.size hB3 ?_; intro A4 c4 w4 ho4 hc7 hc8 hB4 _ _)
              go_roundw
              case rel => exact ⟨j + 1 + 1, A4, c4, by omega, by go_num, slice_eq (by rw [HSK.out]), by rw [HST.out]; (have := HSK.out; rwa [this] at ho4), by have := HSK.out; omega, hc8, hB4⟩
              case measure => simp [intOf]; omega
          · obtain rfl : k = xs.length := by omega
            rw [List.take_of_length_le (by rw [HSL.out]; exact Nat.le_refl _)] at hown3
            have hownz := hown.below hB3
            have hBz := below_call HBO.out hB3
            have hrs := hown3.rds
            rw [HSL.out] at hrs
            have HES : Hid (bytesE (swapL xs) 600 = 0) := Lib.hid (bytesE_ok (fun x hx => HBY.out x (swapL_mem xs x hx)) (by rw [HSL.out]; omega))
            have HEZ : Hid (bytesE zs 600 = 0) := Lib.hid (bytesE_ok (fun x hx => HBY.out x (HTM.out x hx)) (by rw [HKL.out]; omega))
            have HTS : Hid (65535 - totalP (swapL xs) = N / 256 + N % 256 * 256) := Lib.hid (by rw [HSW.out, HT.out])
            have HTZ : Hid (65535 - totalP zs = N) := Lib.hid (by rw [HTU.out, HT.out])
            have hrz := hownz.rds
            rw [HKL.out] at hrz
            rcases hia : inB at_ 0 xs.length with _ | _
            · go_wp2_with (first | ((go_at_call 10; refine (in_any _ _ _ _).mono ?_; rintro e w' ⟨rfl, rfl⟩); rw [hia]))
              all_goals (go_wp2_with fail; (with_reducible refine (sum_ok A1 xs.length c1 zs _ hrz hc1 hc2 HEZ.out).mono ?_); rintro e w5 ⟨rfl, hb⟩; rw [HTZ.out]; have hB5 := below_call hBz hb; have hrs5 := hrs.below hb; clear hb; go_wp2_with fail; (with_reducible refine (sum_ok A3 xs.length c3 (swapL xs) _ hrs5 hc3 hc4 HES.out).mono ?_); rintro e w6 ⟨rfl, hb⟩; rw [HTS.out]; have hB6 := below_call hB5 hb; clear hb hB5 hrs5; go_wp2; go_ret; exact ⟨rfl, hB6⟩)
            · have hia2 := inB_true.1 hia
              obtain ⟨i, rfl⟩ : ∃ i : Nat, at_ = i := ⟨at_.toNat, by omega⟩
              have hil : i ≤ xs.length := by omega
              by_cases hi2 : i % 2 = 0
              · have hi2' : ((i : Int) % 2 == 0) = true := by rw [beq_iff_eq]; omega
                have hi3 : (0 : Int) ≤ (i : Int) := by omega
                have hi4 : (i : Int) ≤ (xs.length : Int) := by omega
                have hi5 : (i : Int) ≤ (c1 : Int) := by omega
                have hev := HEV.out
                by_cases hi0 : i = 0
                · have HI0 := Lib.hid hi0
                  have HZ0 : Hid (zs.drop i = zs) := Lib.hid (by rw [hi0]; rfl)
                  by_cases hci : c1 = i
                  · obtain rfl : c1 = i := hci
                    have hnl : xs.length = 0 := by omega
                    have HLN : Hid (zs = []) := Lib.hid (List.eq_nil_of_length_eq_zero (by rw [HKL.out]; exact hnl))
                    have HX1 : Hid (xs.length - c1 ≤ c1 - c1) := Lib.hid (by omega)
                    clear hi0 hnl hi2 hia2
                    go_wp2_with (first | ((go_at_call 10; refine (in_any _ _ _ _).mono ?_; rintro e w' ⟨rfl, rfl⟩); rw [hia]))
                    go_region_law ((refine step_append_nothing wr.drew rfl (.tmp 93) (.tmp 96) rfl A1 A1 0 0 c1 c1 (by simp [Act.eval, Act.put]; done) HI0.out (by simp [Act.eval, Act.put]; done) (Nat.le_refl 0) ?_))
                    all_goals
                      have hrz : Rds wr.drew 1 A1 0 (ic zs) := by rw [HLN.out]; exact Rds.empty' _ _
                      have hrs : Rds wr.drew 1 A3 xs.length (ic (swapL xs)) := hrs.drewN 1
                      have hBz : Below w.heap.size w wr.drew := below_drewN hBz 1
                      (go_wp2_with fail; (with_reducible refine (sum_ok A1 0 0 zs _ hrz (Nat.le_refl 0) (Nat.zero_le _) HEZ.out).mono ?_); rintro e w5 ⟨rfl, hb⟩; rw [HTZ.out]; have hB5 := below_call hBz hb; have hrs5 := hrs.below hb; clear hb; go_wp2_with fail; (with_reducible refine (sum_ok A3 xs.length c3 (swapL xs) _ hrs5 hc3 hc4 HES.out).mono ?_); rintro e w6 ⟨rfl, hb⟩; rw [HTS.out]; have hB6 := below_call hB5 hb; clear hb hB5 hrs5; go_wp2; go_ret; exact ⟨rfl, hB6⟩)
                  · have HX1 : Hid (xs.length - i ≤ c1 - i) := Lib.hid (by omega)
                    have hrz0 := hrz.drop (k := i) (c := c1) hil hc1
                    unfold cutA at hrz0
                    rw [if_neg hci, HZ0.out] at hrz0
                    clear hi0 hi2 hia2
                    go_wp2_with (first | ((go_at_call 10; refine (in_any _ _ _ _).mono ?_; rintro e w' ⟨rfl, rfl⟩); rw [hia]))
                    go_region_law ((refine step_append_nothing wr.drew rfl (.tmp 93) (.tmp 96) rfl (Option.map (fun x => x.add i) A1) A1 (xs.length - i) (c1 - i) c1 i (by simp [Act.eval, Act.put]; done) HI0.out (by simp [Act.eval, Act.put]; done) HX1.out ?_))
                    all_goals
                      have hrz1 : Rds wr.drew 1 (Option.map (fun x => x.add i) A1) (xs.length - i) (ic zs) := hrz0.drewN 1
                      have hrs : Rds wr.drew 1 A3 xs.length (ic (swapL xs)) := hrs.drewN 1
                      have hBz : Below w.heap.size w wr.drew := below_drewN hBz 1
                      have hcc : c1 - i ≤ maxLen := by omega
                      clear hown hownz hrz0
                      (go_wp2_with fail; (with_reducible refine (sum_ok (Option.map (fun x => x.add i) A1) (xs.length - i) (c1 - i) zs _ hrz1 HX1.out hcc HEZ.out).mono ?_); rintro e w5 ⟨rfl, hb⟩; rw [HTZ.out]; have hB5 := below_call hBz hb; have hrs5 := hrs.below hb; clear hb; go_wp2_with fail; (with_reducible refine (sum_ok A3 xs.length c3 (swapL xs) _ hrs5 hc3 hc4 HES.out).mono ?_); rintro e w6 ⟨rfl, hb⟩; rw [HTS.out]; have hB6 := below_call hB5 hb; clear hb hB5 hrs5; go_wp2; go_ret; exact ⟨rfl, hB6⟩)
                · obtain ⟨g, rfl, hg, hgc, _⟩ := hownz.at_ (i := 0) (by have := HKL.out; omega)
                  have hbg : wo.heap.size ≤ wr.heap.size := hB3.size
                  by_cases hci : c1 = i
                  · obtain rfl : c1 = i := hci
                    obtain rfl : c1 = xs.length := by omega
                    have HM2 : Hid (Rds wr.drew 1 (some ⟨g, 0, none⟩) xs.length (ic zs)) := Lib.hid hrz
                    have HM3 : Hid (w.heap.size ≤ wr.drew.heap.size) := Lib.hid (hBz.size)
                    have hxp : 0 < xs.length := by omega
                    go_wp2_with (first | ((go_at_call 10; refine (in_any _ _ _ _).mono ?_; rintro e w' ⟨rfl, rfl⟩); rw [hia]))
                    go_region_law ((refine step_append_mid wr.drew rfl (.tmp 93) (.tmp 96) rfl w.heap.size g 0 0 0 [] (by simp [Act.eval, Act.put]; done) (Rds.empty' _ _) (some ⟨g, 0, none⟩) xs.length xs.length zs (by simp [Act.eval, Act.put]; done) HM2.out hxp hg HM3.out (by omega) (by omega) (fun h => absurd h (by omega)) ?_; intro A5 c5 w5 hr5 hc7 hc8 hb5 hg5))
                    all_goals
                      have hBz5 : Below w.heap.size w w5 := (below_drewN hBz 1).trans hb5
                      have hrs5 : Rds w5 1 A3 xs.length (ic (swapL xs)) := by
                        have hk3 : Own w5 wo.heap.size (.slice A3 xs.length c3) (swapL xs) := World.ownsRow.kept (w := wr.drew) hown3 hg5 (apart_own hown3 hown)
                        have := hk3.rds
                        rwa [HSL.out] at this
                      clear hb5 hg5 hrs hBz HM2 HM3 hgc hrz hownz hown hown3
                      have hrs : Rds w5 1 A3 xs.length (ic (swapL xs)) := hrs5
                      have hBz := hBz5
                      rw [Nat.zero_add, List.nil_append] at hr5
                      rw [Nat.zero_add] at hc7
                      (go_wp2_with fail; (with_reducible refine (sum_ok A5 xs.length c5 zs _ hr5 hc7 hc8 HEZ.out).mono ?_); rintro e w5 ⟨rfl, hb⟩; rw [HTZ.out]; have hB5 := below_call hBz hb; have hrs5 := hrs.below hb; clear hb; go_wp2_with fail; (with_reducible refine (sum_ok A3 xs.length c3 (swapL xs) _ hrs5 hc3 hc4 HES.out).mono ?_); rintro e w6 ⟨rfl, hb⟩; rw [HTS.out]; have hB6 := below_call hB5 hb; clear hb hB5 hrs5; go_wp2; go_ret; exact ⟨rfl, hB6⟩)
                  · have HM1 : Hid (Rds wr.drew 1 (some ⟨g, i, none⟩) (xs.length - i) (ic (zs.drop i))) := Lib.hid (by
                      have := hrz.drop (k := i) (c := c1) hil hc1
                      refine Rds.drewN (k := 1) ?_
                      simpa [cutA, hci, Go.WideShapes.add_plain] using this)
                    have HM2 : Hid (Rds wr.drew 1 (some ⟨g, 0, none⟩) i (ic (zs.take i))) := Lib.hid (hrz.take hil)
                    have HM3 : Hid (w.heap.size ≤ wr.drew.heap.size) := Lib.hid (hBz.size)
                    have HM4 : Hid (xs.length - i + i ≤ c1 - i → ∀ j, j < i → (wr.drew.cell? ⟨g, i + (xs.length - i) + j, none⟩).isSome = true ∧ wr.drew.frozen? ⟨g, i + (xs.length - i) + j, none⟩ = false) := Lib.hid (fun h j hj => hownz.spare (by omega))
                    go_wp2_with (first | ((go_at_call 10; refine (in_any _ _ _ _).mono ?_; rintro e w' ⟨rfl, rfl⟩); rw [hia]))
                    go_region_law ((refine step_append_mid wr.drew rfl (.tmp 93) (.tmp 96) rfl w.heap.size g i (xs.length - i) (c1 - i) (zs.drop i) (by simp [Act.eval, Act.put]; done) HM1.out (some ⟨g, 0, none⟩) i c1 (zs.take i) (by simp [Act.eval, Act.put]; done) HM2.out (by omega) hg HM3.out (by omega) (by omega) HM4.out ?_; intro A5 c5 w5 hr5 hc7 hc8 hb5 hg5))
                    all_goals
                      have hBz5 : Below w.heap.size w w5 := (below_drewN hBz 1).trans hb5
                      have hrs5 : Rds w5 1 A3 xs.length (ic (swapL xs)) := by
                        have hk3 : Own w5 wo.heap.size (.slice A3 xs.length c3) (swapL xs) := World.ownsRow.kept (w := wr.drew) hown3 hg5 (apart_own hown3 hown)
                        have := hk3.rds
                        rwa [HSL.out] at this
                      have HTR : Hid (65535 - totalP (zs.drop i ++ zs.take i) = N) := Lib.hid (by rw [HRT.out i hi2, HT.out])
                      have HER : Hid (bytesE (zs.drop i ++ zs.take i) 600 = 0) := Lib.hid (bytesE_ok (fun x hx => by
                        rcases List.mem_append.1 hx with hx | hx
                        · exact HBY.out x (HTM.out x (List.mem_of_mem_drop hx))
                        · exact HBY.out x (HTM.out x (List.mem_of_mem_take hx))) (by have := HKL.out; simp; omega))
                      clear hb5 hg5 hrs hBz HM1 HM2 HM3 HM4 hgc hrz hownz hown hown3
                      have hrs : Rds w5 1 A3 xs.length (ic (swapL xs)) := hrs5
                      have hBz := hBz5
                      rw [Nat.sub_add_cancel hil] at hr5 hc7
                      (go_wp2_with fail; (with_reducible refine (sum_ok A5 xs.length c5 (zs.drop i ++ zs.take i) _ hr5 hc7 hc8 HER.out).mono ?_); rintro e w5 ⟨rfl, hb⟩; rw [HTR.out]; have hB5 := below_call hBz hb; have hrs5 := hrs.below hb; clear hb; go_wp2_with fail; (with_reducible refine (sum_ok A3 xs.length c3 (swapL xs) _ hrs5 hc3 hc4 HES.out).mono ?_); rintro e w6 ⟨rfl, hb⟩; rw [HTS.out]; have hB6 := below_call hB5 hb; clear hb hB5 hrs5; go_wp2; go_ret; exact ⟨rfl, hB6⟩)
              · have hi2' : ((i : Int) % 2 == 0) = false := by rw [beq_eq_false_iff_ne]; omega
                clear hi2 hia2
                go_wp2_with (first | ((go_at_call 10; refine (in_any _ _ _ _).mono ?_; rintro e w' ⟨rfl, rfl⟩); rw [hia]))
                all_goals (go_wp2_with fail; (with_reducible refine (sum_ok A1 xs.length c1 zs _ hrz hc1 hc2 HEZ.out).mono ?_); rintro e w5 ⟨rfl, hb⟩; rw [HTZ.out]; have hB5 := below_call hBz hb; have hrs5 := hrs.below hb; clear hb; go_wp2_with fail; (with_reducible refine (sum_ok A3 xs.length c3 (swapL xs) _ hrs5 hc3 hc4 HES.out).mono ?_); rintro e w6 ⟨rfl, hb⟩; rw [HTS.out]; have hB6 := below_call hB5 hb; clear hb hB5 hrs5; go_wp2; go_ret; exact ⟨rfl, hB6⟩)
  · have HE := Lib.hid h
    clear h
    go_enter Try.func4, Try.ntmps4
    go_wp2_with (first | (go_at_call 8; refine (onesFact_any _).mono ?_; rintro e w1 ⟨rfl, hb⟩; replace hB := below_call hB hb; clear hb) | (go_at_call 9; refine (sum_err _ _ _ _ _ _ (hr.below hB) HN.out rfl HE.out).mono ?_; rintro e w' ⟨rfl, rfl⟩))
    go_ret
    exact ⟨rfl, hB⟩
end Go.Proofs.Ytalehbhimnhnjaa
