/- slices.Index, slices.Contains at ints; slices.ContainsFunc at the closure of frag.Join (is a number there that is not below 0?). -/
import Derived.Test.YtbmajajndckfoaaDoorOwn
namespace Go.Proofs.YtbmajajndckfoaaDoor
open Go.RowKit
/-- Where a number stands first; the length, if nowhere. -/
def idx (v : Int) : List Int → Nat
  | [] => 0
  | x :: t => if v = x then 0 else idx v t + 1
theorem idx_le (v : Int) (xs : List Int) : idx v xs ≤ xs.length := by
  induction xs with
  | nil => simp [idx]
  | cons x t ih => unfold idx; split <;> simp; omega
theorem idx_at (v : Int) : ∀ (xs : List Int) (k : Nat) (hk : k < xs.length), k ≤ idx v xs → (v = xs[k] → idx v xs = k) ∧ (v ≠ xs[k] → k + 1 ≤ idx v xs)
  | [], k, hk, _ => absurd hk (by simp)
  | x :: t, 0, _, _ => by
    constructor
    · intro h; simp only [List.getElem_cons_zero] at h; simp [idx, h]
    · intro h; simp only [List.getElem_cons_zero] at h; simp [idx, h]
  | x :: t, k + 1, hk, h => by
    simp only [List.getElem_cons_succ]
    unfold idx at h ⊢
    split at h
    · omega
    · rename_i hne
      rw [if_neg hne]
      have := idx_at v t k (by simpa using hk) (by omega)
      exact ⟨fun e => by rw [this.1 e], fun e => by have := this.2 e; omega⟩
theorem idx_before (v : Int) : ∀ (xs : List Int), v ∉ xs.take (idx v xs)
  | [] => by simp
  | x :: t => by
    unfold idx
    split
    · simp
    · rename_i h
      simp only [List.take_succ_cons, List.mem_cons, not_or]
      exact ⟨h, idx_before v t⟩
theorem idx_mem {v : Int} {xs : List Int} : idx v xs < xs.length ↔ v ∈ xs := by
  induction xs with
  | nil => simp [idx]
  | cons x t ih =>
    unfold idx
    split
    · rename_i h; simp [h]
    · rename_i h; simp [h, ih]
def idxI (v : Int) (xs : List Int) : Int := if idx v xs < xs.length then idx v xs else -1

theorem index_any (A : Option Addr) (n c : Nat) (xs : List Int) (v : Int) (w : World) (hr : Rds w 1 A n (ic xs)) (hn : n ≤ maxLen) :
    Calls Tryd.prog 47 #[.slice A n c, .int .i64 v] w fun e w' => e = .returned (.int .i64 (idxI v xs)) ∧ w = w' := by
  have HL := Lib.hid hr.len_int
  unfold maxLen at hn
  go_enter Tryd.func47, Tryd.ntmps47
  go_wp2_with fail
  go_loop [5, 8] (fun _ i => ∃ k : Nat, k ≤ n ∧ i = .int .i64 k ∧ k ≤ idx v xs) (fun _ i => n - (intOf i).toNat)
  case atStart => exact ⟨0, Nat.zero_le _, rfl, Nat.zero_le _⟩
  case round =>
    obtain ⟨k, hk, rfl, hki⟩ := hrel
    by_cases hlt : k < n
    · obtain ⟨b, off, hk', rfl, hcell⟩ := hr.int hlt
      have HA := Lib.hid (idx_at v xs k hk' hki)
      by_cases he : v = xs[k]
      · have he1 : (v == xs[k]) = true := by rw [beq_iff_eq]; exact he
        have HE := Lib.hid he
        clear he hki
        go_wp2
        go_ret
        have e1 := HA.out.1 HE.out
        exact ⟨ret_int (by rw [idxI, e1, if_pos hk']), rfl⟩
      · have he1 : (v == xs[k]) = false := by rw [beq_eq_false_iff_ne]; exact he
        have HE := Lib.hid he
        clear he hki
        go_wp2
        go_round
        case rel => exact ⟨k + 1, by omega, by go_num, HA.out.2 HE.out⟩
        case measure => simp [intOf]; omega
    · go_wp2
      go_ret
      have h1 := HL.out
      exact ⟨ret_int (by rw [idxI, if_neg (by omega)]), rfl⟩

theorem contains_any (A : Option Addr) (n c : Nat) (xs : List Int) (v : Int) (w : World) (hr : Rds w 1 A n (ic xs)) (hn : n ≤ maxLen) :
    Calls Tryd.prog 31 #[.slice A n c, .int .i64 v] w fun e w' => e = .returned (.bool (decide (v ∈ xs))) ∧ w = w' := by
  have HN := Lib.hid hn
  clear hn
  by_cases hm : v ∈ xs
  · have e1 : (0 : Int) ≤ idxI v xs := by unfold idxI; rw [if_pos (idx_mem.2 hm)]; omega
    have HM := Lib.hid hm
    clear hm
    go_enter Tryd.func31, Tryd.ntmps31
    go_wp2_with (go_at_call 47; refine (index_any _ _ _ _ _ _ hr HN.out).mono ?_; rintro e w' ⟨rfl, rfl⟩)
    go_ret
    exact ⟨ret_eq (bool_eq (by simp [HM.out])), rfl⟩
  · have e1 : idxI v xs < 0 := by unfold idxI; rw [if_neg (fun h => hm (idx_mem.1 h))]; omega
    have HM := Lib.hid hm
    clear hm
    go_enter Tryd.func31, Tryd.ntmps31
    go_wp2_with (go_at_call 47; refine (index_any _ _ _ _ _ _ hr HN.out).mono ?_; rintro e w' ⟨rfl, rfl⟩)
    go_ret
    exact ⟨ret_eq (bool_eq (by simp [HM.out]; exact e1)), rfl⟩

theorem nonneg_any (x : Int) (w : World) : Calls Tryd.prog 33 #[.int .i64 x] w fun e w' => e = .returned (.bool (decide (0 ≤ x))) ∧ w = w' := by
  by_cases h : 0 ≤ x
  · rw [decide_eq_true h]
    go_enter Tryd.func33, Tryd.ntmps33
    go_wp2
    go_ret
    exact ⟨rfl, rfl⟩
  · rw [decide_eq_false h]
    go_enter Tryd.func33, Tryd.ntmps33
    go_wp2
    go_ret
    exact ⟨rfl, rfl⟩
/-- Where one stands that is not below 0; -1: nowhere. -/
def posI (xs : List Int) : Int := match xs.findIdx? (fun x => decide (0 ≤ x)) with
  | some i => (i : Int)
  | none => -1
theorem indexFunc_any (A : Option Addr) (n c : Nat) (xs : List Int) (w : World) (hr : Rds w 1 A n (ic xs)) (hn : n ≤ maxLen) :
    Calls Tryd.prog 48 #[.slice A n c, .func (.func 33) #[] #[]] w fun e w' => (∃ i : Int, e = .returned (.int .i64 i) ∧ -1 ≤ i ∧ decide (0 ≤ i) = (xs.any fun x => decide (0 ≤ x))) ∧ w = w' := by
  have HL := Lib.hid hr.len_int
  unfold maxLen at hn
  go_enter Tryd.func48, Tryd.ntmps48
  go_wp2_with fail
  go_loop [5, 8] (fun _ i => ∃ k : Nat, k ≤ n ∧ i = .int .i64 k ∧ (xs.take k).any (fun x => decide (0 ≤ x)) = false) (fun _ i => n - (intOf i).toNat)
  case atStart => exact ⟨0, Nat.zero_le _, rfl, rfl⟩
  case round =>
    obtain ⟨k, hk, rfl, hki⟩ := hrel
    have HK := Lib.hid hki
    clear hki
    by_cases hlt : k < n
    · obtain ⟨b, off, hk', rfl, hcell⟩ := hr.int hlt
      obtain ⟨x, hX⟩ : ∃ x, xs[k] = x := ⟨_, rfl⟩
      have HX := Lib.hid hX
      rw [hX] at hcell
      clear hX
      by_cases he : 0 ≤ x
      · have HE : Hid ((xs.any fun x => decide (0 ≤ x)) = true) := Lib.hid (by
          rw [List.any_eq_true]
          exact ⟨xs[k], List.getElem_mem hk', by rw [HX.out]; exact decide_eq_true he⟩)
        have HD := Lib.hid (decide_eq_true he)
        clear he
        go_wp2_with (go_at_call 33; (with_reducible refine (nonneg_any _ _).mono ?_); rintro e w' ⟨rfl, rfl⟩; rw [HD.out])
        go_ret
        exact ⟨⟨k, rfl, by omega, by rw [HE.out, decide_eq_true_iff]; omega⟩, rfl⟩
      · have HD := Lib.hid (decide_eq_false he)
        have HE : Hid ((xs.take (k + 1)).any (fun x => decide (0 ≤ x)) = false) := Lib.hid (by
          rw [List.take_succ_eq_append_getElem hk', List.any_append, HK.out, HX.out]
          simp [HD.out])
        clear he
        go_wp2_with (go_at_call 33; (with_reducible refine (nonneg_any _ _).mono ?_); rintro e w' ⟨rfl, rfl⟩; rw [HD.out])
        go_round
        case rel => exact ⟨k + 1, by omega, by go_num, HE.out⟩
        case measure => simp [intOf]; omega
    · go_wp2
      go_ret
      have h1 := HK.out
      rw [List.take_of_length_le (by have := HL.out; omega)] at h1
      exact ⟨⟨-1, rfl, by omega, by rw [h1]; rfl⟩, rfl⟩
theorem containsFunc_any (A : Option Addr) (n c : Nat) (xs : List Int) (w : World) (hr : Rds w 1 A n (ic xs)) (hn : n ≤ maxLen) :
    Calls Tryd.prog 32 #[.slice A n c, .func (.func 33) #[] #[]] w fun e w' => e = .returned (.bool (xs.any fun x => decide (0 ≤ x))) ∧ w = w' := by
  go_enter Tryd.func32, Tryd.ntmps32
  go_wp2_with fail
  (with_reducible refine (indexFunc_any _ _ _ _ _ hr hn).mono ?_)
  rintro e w' ⟨⟨i, rfl, hi, hd⟩, rfl⟩
  have HD := Lib.hid hd
  go_wp2
  go_ret
  exact ⟨ret_eq (bool_eq (by rw [← HD.out])), rfl⟩
end Go.Proofs.YtbmajajndckfoaaDoor
