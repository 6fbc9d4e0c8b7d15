/- Contracts of package line: check, Five, Turns, Bits. -/
import Derived.Test.YtalehbhimnhnjaaDoorLinePlain
import Derived.Lib.LaidTab
namespace Go.Proofs.YtalehbhimnhnjaaDoor
open Go.RowKit

/-- What is known of the table of codes. -/
def CodesW (w : World) : Prop := ∀ k, k < 16 → w.cell? ⟨0, k, none⟩ = some (.int .i64 (codeI k))
theorem CodesW.lt {w : World} (h : CodesW w) : 0 < w.heap.size := cell_lt (h 0 (by omega))
theorem CodesW.below {w w' : World} (h : CodesW w) (hb : Below w.heap.size w w') : CodesW w' := fun k hk => (hb.cell (p := ⟨0, k, none⟩) h.lt).trans (h k hk)
theorem codesTab : Tryd.prog.globalNamed "ferryhythe/line.codes" = some 0 := by kernel_rfl
theorem codesTabType : (Tryd.prog.globals[0]?).map (·.type) = some 48 := by kernel_rfl
theorem codesCells : Tryd.prog.cellsOf 48 = 16 := by kernel_rfl
theorem intCells : Tryd.prog.cellsOf 3 = 1 := by kernel_rfl
/-- What the row's list gives a walk: the table's cells. -/
theorem codes_of {rest : List (String × DataW Unit)} {W : World} (h : laidMet Tryd.prog (("ferryhythe/line.codes", Rows.laid_ferryhythe_line_codes) :: rest) W) : CodesW W := by
  have ht : Lib.TabIs Tryd.prog W "ferryhythe/line.codes" .i64 codesL := Lib.tabIs_of_head (rest := rest) codesTab codesTabType Tryd.underlying48 Tryd.underlying3 intCells codesCells h
  intro k hk
  have := ht.cell codesTab k (by simpa [codesL] using hk)
  unfold codeI
  rwa [Int.toNat_natCast]
noncomputable def codesV : Array Value := #[.int .i64 30, .int .i64 9, .int .i64 20, .int .i64 21, .int .i64 10, .int .i64 11, .int .i64 14, .int .i64 15, .int .i64 18, .int .i64 19, .int .i64 22, .int .i64 23, .int .i64 26, .int .i64 27, .int .i64 28, .int .i64 29]

def bitsE (xs : List Int) : Int := if 200 < xs.length then 4 else if allB xs 0 1 then 0 else 1
theorem bits_of_ok {xs : List Int} (h : bitsE xs = 0) : Bits xs ∧ xs.length ≤ 200 := by
  unfold bitsE at h
  split at h
  · cases h
  split at h
  · exact ⟨bits_of_all.1 (by assumption), by omega⟩
  · cases h
theorem bitsE_ok {xs : List Int} (h : Bits xs) (hl : xs.length ≤ 200) : bitsE xs = 0 := by
  unfold bitsE
  rw [if_neg (by omega), if_pos (bits_of_all.2 h)]
theorem check_ok (A : Option Addr) (n c : Nat) (xs : List Int) (w : World) (hr : Rds w 1 A n (ic xs)) (hn : n ≤ maxLen) (h : bitsE xs = 0) :
    Calls Tryd.prog 35 #[.slice A n c] w fun e w' => e = .returned .nilIface ∧ w = w' := by
  have HL := Lib.hid hr.len_int
  obtain ⟨hb, hlen⟩ := bits_of_ok h
  have hall := bits_of_all.2 hb
  have hl : n ≤ 200 := by have := HL.out; omega
  have HN := Lib.hid hn
  clear hn h hb hlen
  go_enter Tryd.func35, Tryd.ntmps35
  go_wp2_with (go_at_call 34; refine (all_any _ _ _ _ _ _ _ hr HN.out).mono ?_; rintro e w' ⟨rfl, rfl⟩)
  go_ret
  exact ⟨rfl, rfl⟩
theorem check_err (A : Option Addr) (n c : Nat) (xs : List Int) (k : Int) (w : World) (hr : Rds w 1 A n (ic xs)) (hn : n ≤ maxLen) (h : bitsE xs = k) (hk : k ≠ 0) :
    Calls Tryd.prog 35 #[.slice A n c] w fun e w' => e = .returned (.iface 47 (.int .i64 k)) ∧ w = w' := by
  have HL := Lib.hid hr.len_int
  have hn' := hn
  unfold maxLen at hn'
  have HN := Lib.hid hn
  clear hn
  unfold bitsE at h
  split at h
  · subst h
    have hl : 200 < n := by have := HL.out; omega
    clear hk
    go_enter Tryd.func35, Tryd.ntmps35
    go_wp2
    go_ret
    exact ⟨rfl, rfl⟩
  · rename_i hlen
    split at h
    · exact absurd h.symm hk
    · rename_i hall
      subst h
      have hall' : allB xs 0 1 = false := by simpa using hall
      have hl : n ≤ 200 := by have := HL.out; omega
      clear hk hall hlen
      go_enter Tryd.func35, Tryd.ntmps35
      go_wp2_with (go_at_call 34; refine (all_any _ _ _ _ _ _ _ hr HN.out).mono ?_; rintro e w' ⟨rfl, rfl⟩)
      go_ret
      exact ⟨rfl, rfl⟩


/-- What is wrong with numbers that Five is asked for. -/
def fiveE (xs : List Int) : Int := if 40 < xs.length then 4 else if allB xs 0 15 then 0 else 1
theorem five_of_ok {xs : List Int} (h : fiveE xs = 0) : (∀ x ∈ xs, 0 ≤ x ∧ x ≤ 15) ∧ xs.length ≤ 40 ∧ allB xs 0 15 = true := by
  unfold fiveE at h
  split at h
  · cases h
  split at h
  · rename_i hall
    refine ⟨fun x hx => ?_, by omega, hall⟩
    unfold allB at hall
    rw [List.all_eq_true] at hall
    exact inB_true.1 (hall x hx)
  · cases h
theorem five_err (A : Option Addr) (n c : Nat) (xs : List Int) (k : Int) (w : World) (hr : Rds w 1 A n (ic xs)) (hn : n ≤ maxLen) (h : fiveE xs = k) (hk : k ≠ 0) :
    Calls Tryd.prog 11 #[.slice A n c] w fun e w' => e = .returned (.tuple #[.slice none 0 0, .iface 47 (.int .i64 k)]) ∧ w = w' := by
  have HL := Lib.hid hr.len_int
  have hn' := hn
  unfold maxLen at hn'
  have HN := Lib.hid hn
  clear hn
  unfold fiveE at h
  split at h
  · subst h
    have hl : 40 < n := by have := HL.out; omega
    clear hk
    go_enter Tryd.func11, Tryd.ntmps11
    go_wp2
    go_ret2
    exact ⟨rfl, rfl⟩
  · rename_i hlen
    split at h
    · exact absurd h.symm hk
    · rename_i hall
      subst h
      have hall' : allB xs 0 15 = false := by simpa using hall
      have hl : n ≤ 40 := by have := HL.out; omega
      clear hk hall hlen
      go_enter Tryd.func11, Tryd.ntmps11
      go_wp2_with (go_at_call 34; refine (all_any _ _ _ _ _ _ _ hr HN.out).mono ?_; rintro e w' ⟨rfl, rfl⟩)
      go_ret2
      exact ⟨rfl, rfl⟩

set_option maxHeartbeats 2000000 in
theorem five_ok (A : Option Addr) (n c : Nat) (xs : List Int) (w : World) (hcw : CodesW w) (hr : Rds w 1 A n (ic xs)) (hn : n ≤ maxLen) (h : fiveE xs = 0) :
    Calls Tryd.prog 11 #[.slice A n c] w (RetOwn w (fiveL xs) .nilIface) := by
  obtain ⟨hb, hlen, hall⟩ := five_of_ok h
  obtain rfl : n = xs.length := hr.len_int
  have HN := Lib.hid hn
  have HBB := Lib.hid hb
  have HR := Lib.hid (Own.nil_ w w.heap.size)
  have HB := Lib.hid (Below.refl w.heap.size w)
  clear h hb hn
  go_enter Tryd.func11, Tryd.ntmps11
  go_wp2_with (go_at_call 34; refine (all_any _ _ _ _ _ _ _ hr HN.out).mono ?_; rintro e w' ⟨rfl, rfl⟩)
  go_loopw [4, 6, 7, 18] (fun v _ _ i wr => ∃ (k : Nat) (A1 : Option Addr) (c1 : Nat), k ≤ xs.length ∧ i = .int .i64 k ∧ v = .slice A1 (fiveL (xs.take k)).length c1 ∧ Own wr w.heap.size (.slice A1 (fiveL (xs.take k)).length c1) (fiveL (xs.take k)) ∧ (fiveL (xs.take k)).length ≤ c1 ∧ c1 ≤ maxLen ∧ Below w.heap.size w wr) (fun _ _ _ i _ => xs.length - (intOf i).toNat)
  case atStart => exact ⟨0, none, 0, Nat.zero_le _, rfl, rfl, HR.out, by simp [fiveL], by unfold maxLen; omega, HB.out⟩
  case round =>
    obtain ⟨k, A1, c1, hk, rfl, rfl, hown, hc1, hc2, hB⟩ := hrel
    have hfl := fiveL_len (xs.take k)
    have htk : (xs.take k).length ≤ k := List.length_take_le _ _
    have HS : Hid (∀ hk' : k < xs.length, fiveL (xs.take (k + 1)) = fiveL (xs.take k) ++ five xs[k]) := Lib.hid (fun hk' => fiveL_snoc xs k hk')
    have hll : (fiveL (xs.take k)).length ≤ 200 := by omega
    have HE : Hid (¬ k < xs.length → fiveL (xs.take k) = fiveL xs) := Lib.hid (fun h => by rw [List.take_of_length_le (by omega)])
    clear hfl htk
    generalize fiveL (xs.take k) = l at *
    by_cases hlt : k < xs.length
    · have hr' := hr.below hB
      obtain ⟨b, off, hk', rfl, hcell⟩ := hr'.int hlt
      have HS2 := Lib.hid (HS.out hk')
      obtain ⟨h0, h15⟩ := HBB.out _ (List.getElem_mem hk')
      generalize xs[k] = z at *
      obtain ⟨m, rfl⟩ := Int.eq_ofNat_of_zero_le h0
      obtain ⟨hr0, hr31⟩ := codeI_range m h0 h15
      have HC := Lib.hid (hcw m (by omega))
      have HF : Hid (five (m : Int) = [codeI m / 16 % 2, codeI m / 8 % 2, codeI m / 4 % 2, codeI m / 2 % 2, codeI m % 2]) := Lib.hid rfl
      have HCW := Lib.hid (hcw.lt)
      generalize codeI (m : Int) = cc at *
      generalize five (m : Int) = ff at *
      go_wp2_with fail
      obtain ⟨wo, rfl⟩ : ∃ wo : World, wo = wr := ⟨_, rfl⟩
      go_loopw [4, 7] (fun v i w2 => ∃ (j : Nat) (iv : Int) (A2 : Option Addr) (c2 : Nat), j ≤ 5 ∧ i = .int .i64 iv ∧ iv = 4 - (j : Int) ∧ v = .slice A2 (l.length + j) c2 ∧ Own w2 w.heap.size (.slice A2 (l.length + j) c2) (l ++ ff.take j) ∧ l.length + j ≤ c2 ∧ c2 ≤ maxLen ∧ Below w.heap.size w w2) (fun _ i _ => (intOf i + 1).toNat)
      case atStart => exact ⟨0, 4, A1, c1, by omega, rfl, rfl, rfl, by simpa using hown, hc1, hc2, hB⟩
      case round =>
        obtain ⟨j, iv, A2, c2, hj, rfl, hiv, rfl, hown2, hc3, hc4, hB2⟩ := hrel
        have hcd := (hB2.cell (p := ⟨0, m, none⟩) HCW.out).trans HC.out
        have hff : ff.length = 5 := by rw [HF.out]; rfl
        have HFF := Lib.hid hff
        have htl : (l ++ ff.take j).length = l.length + j := by rw [List.length_append, List.length_take, hff]; omega
        have HTL := Lib.hid htl
        clear hff htl
        by_cases h5 : j = 5
        · subst h5
          obtain rfl : iv = -1 := by omega
          have HQ := Lib.hid (show l ++ ff.take 5 = fiveL (xs.take (k + 1)) from by rw [HS2.out, List.take_of_length_le (by rw [HFF.out]; omega)])
          have hown3 : Own wr w.heap.size (.slice A2 (fiveL (xs.take (k + 1))).length c2) (fiveL (xs.take (k + 1))) := by
            have := hown2.self
            rwa [HQ.out] at this
          have hlq : (fiveL (xs.take (k + 1))).length = l.length + 5 := by rw [← HQ.out]; exact HTL.out
          have HLQ := Lib.hid hlq
          clear hiv hlq
          go_wp2
          go_roundw
          case rel => exact ⟨k + 1, A2, c2, by omega, by go_num, slice_eq HLQ.out.symm, hown3, by rw [HLQ.out]; exact hc3, hc4, hB2⟩
          case measure => simp [intOf]; omega
        · have hj4 : j = 0 ∨ j = 1 ∨ j = 2 ∨ j = 3 ∨ j = 4 := by omega
          clear h5
          rcases hj4 with rfl | rfl | rfl | rfl | rfl
          · obtain rfl : iv = 4 := by omega
            have hand : bits .and .i64 (cc / 16) 1 = cc / 16 % 2 := and_oneI _ (by omega) (by omega)
            have HQ := Lib.hid (show l ++ ff.take 1 = (l ++ ff.take 0) ++ [cc / 16 % 2] from by rw [HF.out]; simp)
            clear hiv
            go_wp2_with (at_builtin; refine wp_append_int wr rfl (.tmp 26) _ rfl w w.heap.size (.slice A2 (l.length + 0) c2) (l ++ ff.take 0) rfl hown2 (cc / 16 % 2) rfl (by rw [HTL.out]; omega) hB2.size hB2 ?_; intro A3 c3 w3 ho3 hc5 hc6 hB3 _ _; rw [HTL.out] at ho3 hc5; rw [← HQ.out] at ho3)
            go_roundw
            case rel => exact ⟨1, 3, A3, c3, by omega, rfl, by omega, slice_eq (by first | (have := HTL.out; omega) | (simp [HFF.out]; done) | (simp [HFF.out]; omega)), ho3, hc5, hc6, hB3⟩
            case measure => simp [intOf]
          · obtain rfl : iv = 3 := by omega
            have hand : bits .and .i64 (cc / 8) 1 = cc / 8 % 2 := and_oneI _ (by omega) (by omega)
            have HQ := Lib.hid (show l ++ ff.take 2 = (l ++ ff.take 1) ++ [cc / 8 % 2] from by rw [HF.out]; simp)
            clear hiv
            go_wp2_with (at_builtin; refine wp_append_int wr rfl (.tmp 26) _ rfl w w.heap.size (.slice A2 (l.length + 1) c2) (l ++ ff.take 1) rfl hown2 (cc / 8 % 2) rfl (by rw [HTL.out]; omega) hB2.size hB2 ?_; intro A3 c3 w3 ho3 hc5 hc6 hB3 _ _; rw [HTL.out] at ho3 hc5; rw [← HQ.out] at ho3)
            go_roundw
            case rel => exact ⟨2, 2, A3, c3, by omega, rfl, by omega, slice_eq (by first | (have := HTL.out; omega) | (simp [HFF.out]; done) | (simp [HFF.out]; omega)), ho3, hc5, hc6, hB3⟩
            case measure => simp [intOf]
          · obtain rfl : iv = 2 := by omega
            have hand : bits .and .i64 (cc / 4) 1 = cc / 4 % 2 := and_oneI _ (by omega) (by omega)
            have HQ := Lib.hid (show l ++ ff.take 3 = (l ++ ff.take 2) ++ [cc / 4 % 2] from by rw [HF.out]; simp)
            clear hiv
            go_wp2_with (at_builtin; refine wp_append_int wr rfl (.tmp 26) _ rfl w w.heap.size (.slice A2 (l.length + 2) c2) (l ++ ff.take 2) rfl hown2 (cc / 4 % 2) rfl (by rw [HTL.out]; omega) hB2.size hB2 ?_; intro A3 c3 w3 ho3 hc5 hc6 hB3 _ _; rw [HTL.out] at ho3 hc5; rw [← HQ.out] at ho3)
            go_roundw
            case rel => exact ⟨3, 1, A3, c3, by omega, rfl, by omega, slice_eq (by first | (have := HTL.out; omega) | (simp [HFF.out]; done) | (simp [HFF.out]; omega)), ho3, hc5, hc6, hB3⟩
            case measure => simp [intOf]
          · obtain rfl : iv = 1 := by omega
            have hand : bits .and .i64 (cc / 2) 1 = cc / 2 % 2 := and_oneI _ (by omega) (by omega)
            have HQ := Lib.hid (show l ++ ff.take 4 = (l ++ ff.take 3) ++ [cc / 2 % 2] from by rw [HF.out]; simp)
            clear hiv
            go_wp2_with (at_builtin; refine wp_append_int wr rfl (.tmp 26) _ rfl w w.heap.size (.slice A2 (l.length + 3) c2) (l ++ ff.take 3) rfl hown2 (cc / 2 % 2) rfl (by rw [HTL.out]; omega) hB2.size hB2 ?_; intro A3 c3 w3 ho3 hc5 hc6 hB3 _ _; rw [HTL.out] at ho3 hc5; rw [← HQ.out] at ho3)
            go_roundw
            case rel => exact ⟨4, 0, A3, c3, by omega, rfl, by omega, slice_eq (by first | (have := HTL.out; omega) | (simp [HFF.out]; done) | (simp [HFF.out]; omega)), ho3, hc5, hc6, hB3⟩
            case measure => simp [intOf]
          · obtain rfl : iv = 0 := by omega
            have hand : bits .and .i64 (cc) 1 = cc % 2 := and_oneI _ (by omega) (by omega)
            have HQ := Lib.hid (show l ++ ff.take 5 = (l ++ ff.take 4) ++ [cc % 2] from by rw [HF.out]; simp)
            clear hiv
            go_wp2_with (at_builtin; refine wp_append_int wr rfl (.tmp 26) _ rfl w w.heap.size (.slice A2 (l.length + 4) c2) (l ++ ff.take 4) rfl hown2 (cc % 2) rfl (by rw [HTL.out]; omega) hB2.size hB2 ?_; intro A3 c3 w3 ho3 hc5 hc6 hB3 _ _; rw [HTL.out] at ho3 hc5; rw [← HQ.out] at ho3)
            go_roundw
            case rel => exact ⟨5, -1, A3, c3, by omega, rfl, by omega, slice_eq (by first | (have := HTL.out; omega) | (simp [HFF.out]; done) | (simp [HFF.out]; omega)), ho3, hc5, hc6, hB3⟩
            case measure => simp [intOf]
    · go_wp2
      go_ret2
      rw [RetOwn, ← HE.out hlt]
      exact ⟨A1, c1, rfl, hown, hc1, hc2, hB⟩

theorem turns_err (A : Option Addr) (n c : Nat) (xs : List Int) (k : Int) (w : World) (hr : Rds w 1 A n (ic xs)) (hn : n ≤ maxLen) (h : bitsE xs = k) (hk : k ≠ 0) :
    Calls Tryd.prog 14 #[.slice A n c] w fun e w' => e = .returned (.tuple #[.slice none 0 0, .iface 47 (.int .i64 k)]) ∧ w = w' := by
  have HN := Lib.hid hn
  have HE := Lib.hid h
  have HK := Lib.hid hk
  clear hn h hk
  go_enter Tryd.func14, Tryd.ntmps14
  go_wp2_with (go_at_call 35; refine (check_err _ _ _ _ _ _ hr HN.out HE.out HK.out).mono ?_; rintro e w' ⟨rfl, rfl⟩)
  go_ret2
  exact ⟨rfl, rfl⟩
set_option maxHeartbeats 2000000 in
theorem turns_ok (A : Option Addr) (n c : Nat) (xs : List Int) (w : World) (hr : Rds w 1 A n (ic xs)) (hn : n ≤ maxLen) (h : bitsE xs = 0) :
    Calls Tryd.prog 14 #[.slice A n c] w (RetOwn w (turnL xs) .nilIface) := by
  obtain ⟨hb, hlen⟩ := bits_of_ok h
  obtain rfl : n = xs.length := hr.len_int
  have HE := Lib.hid h
  have HN := Lib.hid hn
  have HBB := Lib.hid hb
  have HR := Lib.hid (Own.nil_ w w.heap.size)
  have HB := Lib.hid (Below.refl w.heap.size w)
  clear h hb hn
  go_enter Tryd.func14, Tryd.ntmps14
  go_wp2_with (go_at_call 35; refine (check_ok _ _ _ _ _ hr HN.out HE.out).mono ?_; rintro e w' ⟨rfl, rfl⟩)
  go_loopw [5, 6, 8, 16] (fun v o _ i wr => ∃ (k : Nat) (l : List Int) (j : Int) (A1 : Option Addr) (c1 : Nat), k ≤ xs.length ∧ i = .int .i64 k ∧ v = .slice A1 l.length c1 ∧ o = .int .i64 j ∧ turnSt (xs.take k) = (l, j) ∧ Own wr w.heap.size (.slice A1 l.length c1) l ∧ l.length ≤ c1 ∧ c1 ≤ maxLen ∧ Below w.heap.size w wr) (fun _ _ _ i _ => xs.length - (intOf i).toNat)
  case atStart => exact ⟨0, [], 0, none, 0, Nat.zero_le _, rfl, rfl, rfl, rfl, HR.out, by simp, by unfold maxLen; omega, HB.out⟩
  case round =>
    obtain ⟨k, l, j, A1, c1, hk, rfl, rfl, rfl, hst, hown, hc1, hc2, hB⟩ := hrel
    have hj : j = 0 ∨ j = 1 := by
      have := (turn_all (xs.take k)).2.2
      rw [hst] at this
      exact this
    have hl : l.length ≤ k := by
      have := (turn_all (xs.take k)).1
      unfold turnL at this
      rw [hst] at this
      simp only at this
      rw [this]
      exact List.length_take_le _ _
    have HS := Lib.hid hst
    have HJ := Lib.hid hj
    clear hst hj
    by_cases hlt : k < xs.length
    · have hr' := hr.below hB
      obtain ⟨b, off, hk', rfl, hcell⟩ := hr'.int hlt
      have hx := xor_bits HJ.out (HBB.out _ (List.getElem_mem hk'))
      have HSN := Lib.hid (show turnSt (xs.take (k + 1)) = (l ++ [xorB j xs[k]], xorB j xs[k]) from by rw [turnSt_snoc xs k hk', HS.out]; rfl)
      generalize xs[k] = z at *
      go_wp2_with (at_builtin; refine wp_append_int wr rfl _ _ rfl w w.heap.size (.slice A1 l.length c1) l rfl hown (xorB j z) rfl (by omega) hB.size hB ?_; intro A2 c2 w1 ho1 hc3 hc4 hB1 _ _)
      go_roundw
      case rel => exact ⟨k + 1, l ++ [xorB j z], xorB j z, A2, c2, by omega, by go_num, by simp, rfl, HSN.out, by simpa using ho1, by simpa using hc3, hc4, hB1⟩
      case measure => simp [intOf]; omega
    · go_wp2
      go_ret2
      have he : turnL xs = l := by
        have h1 := HS.out
        rw [List.take_of_length_le (by omega)] at h1
        unfold turnL; rw [h1]
      rw [RetOwn, he]
      exact ⟨A1, c1, rfl, hown, hc1, hc2, hB⟩

theorem bitsGo_err (A : Option Addr) (n c : Nat) (xs : List Int) (k : Int) (w : World) (hr : Rds w 1 A n (ic xs)) (hn : n ≤ maxLen) (h : bitsE xs = k) (hk : k ≠ 0) :
    Calls Tryd.prog 12 #[.slice A n c] w fun e w' => e = .returned (.tuple #[.slice none 0 0, .iface 47 (.int .i64 k)]) ∧ w = w' := by
  have HN := Lib.hid hn
  have HE := Lib.hid h
  have HK := Lib.hid hk
  clear hn h hk
  go_enter Tryd.func12, Tryd.ntmps12
  go_wp2_with (go_at_call 35; refine (check_err _ _ _ _ _ _ hr HN.out HE.out HK.out).mono ?_; rintro e w' ⟨rfl, rfl⟩)
  go_ret2
  exact ⟨rfl, rfl⟩
set_option maxHeartbeats 2000000 in
theorem bitsGo_ok (A : Option Addr) (n c : Nat) (xs : List Int) (w : World) (hr : Rds w 1 A n (ic xs)) (hn : n ≤ maxLen) (h : bitsE xs = 0) :
    Calls Tryd.prog 12 #[.slice A n c] w (RetOwn w (backL xs) .nilIface) := by
  obtain ⟨hb, hlen⟩ := bits_of_ok h
  obtain rfl : n = xs.length := hr.len_int
  have HE := Lib.hid h
  have HN := Lib.hid hn
  have HBB := Lib.hid hb
  have HR := Lib.hid (Own.nil_ w w.heap.size)
  have HB := Lib.hid (Below.refl w.heap.size w)
  clear h hb hn
  go_enter Tryd.func12, Tryd.ntmps12
  go_wp2_with (go_at_call 35; refine (check_ok _ _ _ _ _ hr HN.out HE.out).mono ?_; rintro e w' ⟨rfl, rfl⟩)
  go_loopw [5, 6, 8, 16] (fun v o _ i wr => ∃ (k : Nat) (l : List Int) (j : Int) (A1 : Option Addr) (c1 : Nat), k ≤ xs.length ∧ i = .int .i64 k ∧ v = .slice A1 l.length c1 ∧ o = .int .i64 j ∧ backSt (xs.take k) = (l, j) ∧ Own wr w.heap.size (.slice A1 l.length c1) l ∧ l.length ≤ c1 ∧ c1 ≤ maxLen ∧ Below w.heap.size w wr) (fun _ _ _ i _ => xs.length - (intOf i).toNat)
  case atStart => exact ⟨0, [], 0, none, 0, Nat.zero_le _, rfl, rfl, rfl, rfl, HR.out, by simp, by unfold maxLen; omega, HB.out⟩
  case round =>
    obtain ⟨k, l, j, A1, c1, hk, rfl, rfl, rfl, hst, hown, hc1, hc2, hB⟩ := hrel
    have hj : j = 0 ∨ j = 1 := by
      have := (back_all (xs.take k) (fun d hd => HBB.out d (List.mem_of_mem_take hd))).2.2
      rw [hst] at this
      exact this
    have hl : l.length ≤ k := by
      have := (back_all (xs.take k) (fun d hd => HBB.out d (List.mem_of_mem_take hd))).1
      unfold backL at this
      rw [hst] at this
      simp only at this
      rw [this]
      exact List.length_take_le _ _
    have HS := Lib.hid hst
    have HJ := Lib.hid hj
    clear hst hj
    by_cases hlt : k < xs.length
    · have hr' := hr.below hB
      obtain ⟨b, off, hk', rfl, hcell⟩ := hr'.int hlt
      have hx := xor_bits (HBB.out _ (List.getElem_mem hk')) HJ.out
      have HSN := Lib.hid (show backSt (xs.take (k + 1)) = (l ++ [xorB xs[k] j], xs[k]) from by rw [backSt_snoc xs k hk', HS.out]; rfl)
      generalize xs[k] = z at *
      go_wp2_with (at_builtin; refine wp_append_int wr rfl _ _ rfl w w.heap.size (.slice A1 l.length c1) l rfl hown (xorB z j) rfl (by omega) hB.size hB ?_; intro A2 c2 w1 ho1 hc3 hc4 hB1 _ _)
      go_roundw
      case rel => exact ⟨k + 1, l ++ [xorB z j], z, A2, c2, by omega, by go_num, by simp, rfl, HSN.out, by simpa using ho1, by simpa using hc3, hc4, hB1⟩
      case measure => simp [intOf]; omega
    · go_wp2
      go_ret2
      have he : backL xs = l := by
        have h1 := HS.out
        rw [List.take_of_length_le (by omega)] at h1
        unfold backL; rw [h1]
      rw [RetOwn, he]
      exact ⟨A1, c1, rfl, hown, hc1, hc2, hB⟩
end Go.Proofs.YtalehbhimnhnjaaDoor
