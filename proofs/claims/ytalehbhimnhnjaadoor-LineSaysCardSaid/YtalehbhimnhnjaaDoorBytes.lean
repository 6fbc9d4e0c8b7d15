/- Contracts of core.Bytes, slices.Index and slices.Contains at ints. -/
import Derived.Test.YtalehbhimnhnjaaDoorOwn
namespace Go.Proofs.YtalehbhimnhnjaaDoor
open Go.RowKit

/-- What is wrong with bytes, at most so many: a number; 0 is nothing. -/
def bytesE (xs : List Int) (m : Int) : Int := if m < xs.length then 4 else if allB xs 0 255 then 0 else 1

theorem bytes_ok (A : Option Addr) (n c : Nat) (xs : List Int) (m : Int) (w : World) (hr : Rds w 1 A n (ic xs)) (hn : n ≤ maxLen) (h : bytesE xs m = 0) :
    Calls Tryd.prog 38 #[.slice A n c, .int .i64 m] w fun e w' => e = .returned .nilIface ∧ w = w' := by
  have HL := Lib.hid hr.len_int
  unfold bytesE at h
  split at h
  · cases h
  rename_i hlen
  split at h
  · rename_i hall
    have hl : (n : Int) ≤ m := by have := HL.out; omega
    have hn' := hn
    unfold maxLen at hn'
    have HN := Lib.hid hn
    clear hn hlen h
    go_enter Tryd.func38, Tryd.ntmps38
    go_wp2_with (go_at_call 34; refine (all_any _ _ _ _ _ _ _ hr HN.out).mono ?_; rintro e w' ⟨rfl, rfl⟩)
    go_ret
    exact ⟨rfl, rfl⟩
  · cases h
theorem bytes_err (A : Option Addr) (n c : Nat) (xs : List Int) (m k : Int) (w : World) (hr : Rds w 1 A n (ic xs)) (hn : n ≤ maxLen) (h : bytesE xs m = k) (hk : k ≠ 0) :
    Calls Tryd.prog 38 #[.slice A n c, .int .i64 m] w fun e w' => e = .returned (.iface 47 (.int .i64 k)) ∧ w = w' := by
  have HL := Lib.hid hr.len_int
  have hn' := hn
  unfold maxLen at hn'
  have HN := Lib.hid hn
  clear hn
  unfold bytesE at h
  split at h
  · subst h
    have hl : m < (n : Int) := by have := HL.out; omega
    clear hk
    go_enter Tryd.func38, Tryd.ntmps38
    go_wp2
    go_ret
    exact ⟨rfl, rfl⟩
  · rename_i hlen
    split at h
    · exact absurd h.symm hk
    · rename_i hall
      subst h
      have hall' : allB xs 0 255 = false := by simpa using hall
      have hl : (n : Int) ≤ m := by have := HL.out; omega
      clear hk hall hlen
      go_enter Tryd.func38, Tryd.ntmps38
      go_wp2_with (go_at_call 34; refine (all_any _ _ _ _ _ _ _ hr HN.out).mono ?_; rintro e w' ⟨rfl, rfl⟩)
      go_ret
      exact ⟨rfl, rfl⟩
theorem bytes_of_ok {xs : List Int} {m : Int} (h : bytesE xs m = 0) : allB xs 0 255 = true ∧ (xs.length : Int) ≤ m := by
  unfold bytesE at h
  split at h
  · cases h
  split at h
  · exact ⟨by assumption, by omega⟩
  · cases h
theorem byte_range {xs : List Int} (h : allB xs 0 255 = true) : ∀ x ∈ xs, 0 ≤ x ∧ x ≤ 255 := by
  intro x hx
  unfold allB at h
  rw [List.all_eq_true] at h
  exact inB_true.1 (h x hx)
theorem bytesE_ok {xs : List Int} {m : Int} (h : ∀ x ∈ xs, 0 ≤ x ∧ x ≤ 255) (hl : (xs.length : Int) ≤ m) : bytesE xs m = 0 := by
  unfold bytesE
  rw [if_neg (by omega), if_pos]
  unfold allB
  rw [List.all_eq_true]
  exact fun x hx => inB_true.2 (h x hx)

/-- Where a number stands first; the length, if nowhere. -/
def idx (v : Int) : List Int → Nat
  | [] => 0
  | x :: t => if v = x then 0 else idx v t + 1
theorem idx_le (v : Int) (xs : List Int) : idx v xs ≤ xs.length := by
  induction xs with
  | nil => simp [idx]
  | cons x t ih => unfold idx; split <;> simp; omega
theorem idx_at (v : Int) : ∀ (xs : List Int) (k : Nat) (hk : k < xs.length), k ≤ idx v xs → (v = xs[k] → idx v xs = k) ∧ (v ≠ xs[k] → k + 1 ≤ idx v xs)
  | [], k, hk, _ => absurd hk (by simp)
  | x :: t, 0, _, _ => by
    constructor
    · intro h; simp only [List.getElem_cons_zero] at h; simp [idx, h]
    · intro h; simp only [List.getElem_cons_zero] at h; simp [idx, h]
  | x :: t, k + 1, hk, h => by
    simp only [List.getElem_cons_succ]
    unfold idx at h ⊢
    split at h
    · omega
    · rename_i hne
      rw [if_neg hne]
      have := idx_at v t k (by simpa using hk) (by omega)
      exact ⟨fun e => by rw [this.1 e], fun e => by have := this.2 e; omega⟩
theorem idx_before (v : Int) : ∀ (xs : List Int), v ∉ xs.take (idx v xs)
  | [] => by simp
  | x :: t => by
    unfold idx
    split
    · simp
    · rename_i h
      simp only [List.take_succ_cons, List.mem_cons, not_or]
      exact ⟨h, idx_before v t⟩
theorem idx_mem {v : Int} {xs : List Int} : idx v xs < xs.length ↔ v ∈ xs := by
  induction xs with
  | nil => simp [idx]
  | cons x t ih =>
    unfold idx
    split
    · rename_i h; simp [h]
    · rename_i h; simp [h, ih]
def idxI (v : Int) (xs : List Int) : Int := if idx v xs < xs.length then idx v xs else -1

theorem index_any (A : Option Addr) (n c : Nat) (xs : List Int) (v : Int) (w : World) (hr : Rds w 1 A n (ic xs)) (hn : n ≤ maxLen) :
    Calls Tryd.prog 37 #[.slice A n c, .int .i64 v] w fun e w' => e = .returned (.int .i64 (idxI v xs)) ∧ w = w' := by
  have HL := Lib.hid hr.len_int
  unfold maxLen at hn
  go_enter Tryd.func37, Tryd.ntmps37
  go_wp2_with fail
  go_loop [5, 8] (fun _ i => ∃ k : Nat, k ≤ n ∧ i = .int .i64 k ∧ k ≤ idx v xs) (fun _ i => n - (intOf i).toNat)
  case atStart => exact ⟨0, Nat.zero_le _, rfl, Nat.zero_le _⟩
  case round =>
    obtain ⟨k, hk, rfl, hki⟩ := hrel
    by_cases hlt : k < n
    · obtain ⟨b, off, hk', rfl, hcell⟩ := hr.int hlt
      have HA := Lib.hid (idx_at v xs k hk' hki)
      by_cases he : v = xs[k]
      · have he1 : (v == xs[k]) = true := by rw [beq_iff_eq]; exact he
        have HE := Lib.hid he
        clear he hki
        go_wp2
        go_ret
        have e1 := HA.out.1 HE.out
        exact ⟨ret_int (by rw [idxI, e1, if_pos hk']), rfl⟩
      · have he1 : (v == xs[k]) = false := by rw [beq_eq_false_iff_ne]; exact he
        have HE := Lib.hid he
        clear he hki
        go_wp2
        go_round
        case rel => exact ⟨k + 1, by omega, by go_num, HA.out.2 HE.out⟩
        case measure => simp [intOf]; omega
    · go_wp2
      go_ret
      have h1 := HL.out
      exact ⟨ret_int (by rw [idxI, if_neg (by omega)]), rfl⟩

theorem contains_any (A : Option Addr) (n c : Nat) (xs : List Int) (v : Int) (w : World) (hr : Rds w 1 A n (ic xs)) (hn : n ≤ maxLen) :
    Calls Tryd.prog 41 #[.slice A n c, .int .i64 v] w fun e w' => e = .returned (.bool (decide (v ∈ xs))) ∧ w = w' := by
  have HN := Lib.hid hn
  clear hn
  by_cases hm : v ∈ xs
  · have e1 : (0 : Int) ≤ idxI v xs := by unfold idxI; rw [if_pos (idx_mem.2 hm)]; omega
    have HM := Lib.hid hm
    clear hm
    go_enter Tryd.func41, Tryd.ntmps41
    go_wp2_with (go_at_call 37; refine (index_any _ _ _ _ _ _ hr HN.out).mono ?_; rintro e w' ⟨rfl, rfl⟩)
    go_ret
    exact ⟨ret_eq (bool_eq (by simp [HM.out])), rfl⟩
  · have e1 : idxI v xs < 0 := by unfold idxI; rw [if_neg (fun h => hm (idx_mem.1 h))]; omega
    have HM := Lib.hid hm
    clear hm
    go_enter Tryd.func41, Tryd.ntmps41
    go_wp2_with (go_at_call 37; refine (index_any _ _ _ _ _ _ hr HN.out).mono ?_; rintro e w' ⟨rfl, rfl⟩)
    go_ret
    exact ⟨ret_eq (bool_eq (by simp [HM.out]; exact e1)), rfl⟩
end Go.Proofs.YtalehbhimnhnjaaDoor
