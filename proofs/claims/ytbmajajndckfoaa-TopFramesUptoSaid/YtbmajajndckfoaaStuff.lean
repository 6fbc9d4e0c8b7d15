/- Contracts of package stuff: Check, Stuff, unstuff, Unstuff. -/
import Derived.Test.YtbmajajndckfoaaStuffPlain
import Derived.Test.YtbmajajndckfoaaOwn
namespace Go.Proofs.Ytbmajajndckfoaa
open Go.RowKit

theorem allB_false_iff {xs : List Int} {a b : Int} : allB xs a b = false ↔ ¬ allB xs a b = true := by simp

/-- What is wrong with bits: a number; 0 is nothing. -/
def bitsE (xs : List Int) : Int := if 200 < xs.length then 4 else if allB xs 0 1 then 0 else 1

theorem check_ok (A : Option Addr) (n c : Nat) (xs : List Int) (w : World) (hr : Rds w 1 A n (ic xs)) (hn : n ≤ maxLen) (h : bitsE xs = 0) :
    Calls Try.prog 27 #[.slice A n c] w fun e w' => e = .returned .nilIface ∧ w = w' := by
  have HL := Lib.hid hr.len_int
  unfold bitsE at h
  split at h
  · cases h
  rename_i hlen
  split at h
  · rename_i hall
    have hl : n ≤ 200 := by have := HL.out; omega
    have hn' := hn
    unfold maxLen at hn'
    have HN := Lib.hid hn
    clear hn
    go_enter Try.func27, Try.ntmps27
    go_wp2_with (go_at_call 39; refine (all_any _ _ _ _ _ _ _ hr HN.out).mono ?_; rintro e w' ⟨rfl, rfl⟩)
    go_ret
    exact ⟨rfl, rfl⟩
  · cases h
theorem check_err (A : Option Addr) (n c : Nat) (xs : List Int) (k : Int) (w : World) (hr : Rds w 1 A n (ic xs)) (hn : n ≤ maxLen) (h : bitsE xs = k) (hk : k ≠ 0) :
    Calls Try.prog 27 #[.slice A n c] w fun e w' => e = .returned (.iface 59 (.int .i64 k)) ∧ w = w' := by
  have HL := Lib.hid hr.len_int
  have hn' := hn
  unfold maxLen at hn'
  have HN := Lib.hid hn
  clear hn
  unfold bitsE at h
  split at h
  · subst h
    have hl : 200 < n := by have := HL.out; omega
    clear hk
    go_enter Try.func27, Try.ntmps27
    go_wp2
    go_ret
    exact ⟨rfl, rfl⟩
  · rename_i hlen
    split at h
    · exact absurd h.symm hk
    · rename_i hall
      subst h
      have hall' : allB xs 0 1 = false := by simpa using hall
      have hl : n ≤ 200 := by have := HL.out; omega
      clear hk hall
      go_enter Try.func27, Try.ntmps27
      go_wp2_with (go_at_call 39; refine (all_any _ _ _ _ _ _ _ hr HN.out).mono ?_; rintro e w' ⟨rfl, rfl⟩)
      go_ret
      exact ⟨rfl, rfl⟩

set_option maxHeartbeats 1000000 in
theorem stuff_ok (A : Option Addr) (n c : Nat) (xs : List Int) (w : World) (hr : Rds w 1 A n (ic xs)) (hn : n ≤ maxLen) (h : bitsE xs = 0) :
    Calls Try.prog 11 #[.slice A n c] w (RetOwn w (stuffL xs) .nilIface) := by
  have HL := Lib.hid hr.len_int
  have HE := Lib.hid h
  have hb : Bits xs := by
    unfold bitsE at h
    split at h
    · cases h
    split at h
    · exact bits_of_all.1 (by assumption)
    · cases h
  have hl200 : n ≤ 200 := by
    rw [HL.out]; unfold bitsE at h
    split at h
    · cases h
    · omega
  clear h
  have HN := Lib.hid hn
  clear hn
  have HR := Lib.hid (Own.nil_ w w.heap.size)
  have HB := Lib.hid (Below.refl w.heap.size w)
  go_enter Try.func11, Try.ntmps11
  go_wp2_with (go_at_call 27; refine (check_ok _ _ _ _ _ hr HN.out HE.out).mono ?_; rintro e w' ⟨rfl, rfl⟩)
  go_loopw [5, 6, 8, 16] (fun v o _ i wr => ∃ (k : Nat) (l : List Int) (j : Int) (A' : Option Addr) (c' : Nat), k ≤ n ∧ i = .int .i64 k ∧ v = .slice A' l.length c' ∧ o = .int .i64 j ∧ stuffSt (xs.take k) = (l, j) ∧ Own wr w.heap.size (.slice A' l.length c') l ∧ l.length ≤ c' ∧ c' ≤ maxLen ∧ Below w.heap.size w wr) (fun _ _ _ i _ => n - (intOf i).toNat)
  case atStart => exact ⟨0, [], 0, none, 0, Nat.zero_le _, rfl, rfl, rfl, rfl, HR.out, by simp, by unfold maxLen; omega, HB.out⟩
  case round =>
    obtain ⟨k, l, j, A', c', hk, rfl, rfl, rfl, hst, hown, hc1, hc2, hB⟩ := hrel
    have hS := stuffed (xs.take k) (fun b h => hb b (List.mem_of_mem_take h))
    rw [hst] at hS
    have hj0 := hS.k0
    have hj4 := hS.k4
    have hl5 := hS.len5
    have htk : (xs.take k).length ≤ k := List.length_take_le _ _
    simp only at hj0 hj4 hl5
    have HS := Lib.hid hst
    clear hst hS
    by_cases hlt : k < n
    · have hr' := hr.below hB
      obtain ⟨b, off, hk', rfl, hcell⟩ := hr'.int hlt
      have hsn := stuffSt_snoc xs k hk'
      rw [HS.out] at hsn
      rcases hb _ (List.getElem_mem hk') with hz | hz
      · rw [hz] at hcell hsn
        rw [stuffStep_zero] at hsn
        have HSN := Lib.hid hsn
        clear hz hsn
        go_wp2_with (at_builtin; refine wp_append_int wr rfl _ _ rfl w w.heap.size (.slice A' l.length c') l rfl hown 0 rfl (by omega) hB.size hB ?_; intro A1 c1 w1 ho1 hc3 hc4 hB1 _ _)
        go_roundw
        case rel => exact ⟨k + 1, l ++ [0], 0, A1, c1, by omega, by go_num, by simp, rfl, HSN.out, by simpa using ho1, by simpa using hc3, hc4, hB1⟩
        case measure => simp [intOf]; omega
      · rw [hz] at hcell hsn
        by_cases hf : j = 4
        · subst hf
          rw [stuffStep_five _ rfl] at hsn
          have HSN := Lib.hid hsn
          clear hz hsn
          go_wp2_with (first
            | (at_builtin; refine wp_append_int wr rfl (.tmp 20) _ rfl w w.heap.size (.slice A' l.length c') l rfl hown 1 rfl (by omega) hB.size hB ?_; intro A1 c1 w1 ho1 hc3 hc4 hB1 _ _)
            | (at_builtin; refine wp_append_int w1 rfl (.tmp 30) _ rfl w w.heap.size (.slice A1 (l.length + 1) c1) (l ++ [1]) rfl ho1 0 rfl (by simp; omega) hB1.size hB1 ?_; intro A2 c2 w2 ho2 hc5 hc6 hB2 _ _))
          go_roundw
          case rel => exact ⟨k + 1, l ++ [1] ++ [0], 0, A2, c2, by omega, by go_num, by simp, rfl, HSN.out, by simpa using ho2, by simpa using hc5, hc6, hB2⟩
          case measure => simp [intOf]; omega
        · rw [stuffStep_one _ hf] at hsn
          have HSN := Lib.hid hsn
          have hf5 : (j + 1 == 5) = false := by rw [beq_eq_false_iff_ne]; omega
          clear hz hsn
          go_wp2_with (at_builtin; refine wp_append_int wr rfl _ _ rfl w w.heap.size (.slice A' l.length c') l rfl hown 1 rfl (by omega) hB.size hB ?_; intro A1 c1 w1 ho1 hc3 hc4 hB1 _ _)
          go_roundw
          case rel => exact ⟨k + 1, l ++ [1], j + 1, A1, c1, by omega, by go_num, by simp, rfl, HSN.out, by simpa using ho1, by simpa using hc3, hc4, hB1⟩
          case measure => simp [intOf]; omega
    · go_wp2
      go_ret2
      have he : stuffL xs = l := by
        have h1 := HS.out
        rw [List.take_of_length_le (by rw [← HL.out]; omega)] at h1
        unfold stuffL; rw [h1]
      rw [RetOwn, he]
      exact ⟨A', c', rfl, hown, hc1, hc2, hB⟩
end Go.Proofs.Ytbmajajndckfoaa
