/- The document's Total and Round; Mend's errors. -/
import Derived.Test.YtalehbhimnhnjaaDoorOnesCon
import Derived.Test.YtalehbhimnhnjaaDoorRefBytes
namespace Go.Proofs.YtalehbhimnhnjaaDoor
open Go.RowKit

theorem addW_norm2 {a b : Int} (ha : 0 ≤ a) (ha' : a ≤ 65535) (hb : 0 ≤ b) (hb' : b ≤ 65535) : addW a b = norm (a + b) := by
  unfold addW norm
  split <;> split <;> omega
theorem mendP_norm {a b c : Int} (ha : 0 ≤ a ∧ a ≤ 65535) (hb : 0 ≤ b ∧ b ≤ 65535) (hc : 0 ≤ c ∧ c ≤ 65535) : mendP a b c = 65535 - norm (norm (65535 - a + 65535 - b) + c) := by
  unfold mendP
  have h1 := addW_le (a := 65535 - a) (b := 65535 - b) (by omega) (by omega) (by omega) (by omega)
  rw [addW_norm2 h1.1 h1.2 hc.1 hc.2, addW_norm2 (by omega) (by omega) (by omega) (by omega), show 65535 - a + (65535 - b) = 65535 - a + 65535 - b from by omega]

theorem round_any (s : Int) (w : World) (h0 : 0 ≤ s) (h1 : s ≤ 1000000000) :
    Calls Tryd.prog 27 #[.int .i64 s] w fun e w' => e = .returned (.int .i64 (norm s)) ∧ w = w' := by
  by_cases h : s = 0
  · subst h
    go_enter Tryd.func27, Tryd.ntmps27
    go_wp2
    go_ret
    exact ⟨rfl, rfl⟩
  · have he : (s == 0) = false := by rw [beq_eq_false_iff_ne]; exact h
    have hn : norm s = (s - 1) % 65535 + 1 := by unfold norm; rw [if_neg h]
    have HN := Lib.hid hn
    have h2 : 0 ≤ s - 1 := by omega
    have h3 : 1 ≤ s := by omega
    rw [HN.out]
    clear h hn
    go_enter Tryd.func27, Tryd.ntmps27
    go_wp2
    go_ret
    exact ⟨rfl, rfl⟩

theorem wsum_snoc : ∀ (ys : List Int) (x : Int), wsum (ys ++ [x]) = wsum ys + if ys.length % 2 = 0 then 256 * x else x
  | [], x => by simp [wsum]; omega
  | [y], x => by simp [wsum]
  | y :: z :: t, x => by
    have := wsum_snoc t x
    simp only [List.cons_append, wsum, this, List.length_cons]
    have e : (t.length + 1 + 1) % 2 = t.length % 2 := by omega
    simp only [e]
    split <;> omega
theorem wsum_le : ∀ {xs : List Int}, (∀ x ∈ xs, 0 ≤ x ∧ x ≤ 255) → wsum xs ≤ 65535 * xs.length
  | [], _ => by simp [wsum]
  | [x], h => by have := h x (by simp); simp only [wsum, List.length_cons, List.length_nil]; omega
  | x :: y :: t, h => by
    have := h x (by simp); have := h y (by simp); have := wsum_le (xs := t) (fun z hz => h z (by simp [hz]))
    simp only [wsum, List.length_cons]; omega

set_option maxHeartbeats 1000000 in
theorem refTotal_any (A : Option Addr) (n c : Nat) (xs : List Int) (w : World) (hr : Rds w 1 A n (ic xs)) (hn : n ≤ 1000) (hb : ∀ x ∈ xs, 0 ≤ x ∧ x ≤ 255) :
    Calls Tryd.prog 24 #[.slice A n c] w fun e w' => e = .returned (.int .i64 (totalP xs)) ∧ w = w' := by
  have HL := Lib.hid hr.len_int
  have HB := Lib.hid hb
  have HT := Lib.hid (totalP_norm hb)
  clear hb
  go_enter Tryd.func24, Tryd.ntmps24
  go_wp2
  go_loop [3, 4] (fun s i => ∃ k : Nat, k ≤ n ∧ i = .int .i64 k ∧ s = .int .i64 (wsum (xs.take k))) (fun s i => n - (intOf i).toNat)
  case atStart => exact ⟨0, Nat.zero_le _, rfl, by simp [wsum]⟩
  case round =>
    obtain ⟨k, hk, rfl, rfl⟩ := hrel
    have hbt : ∀ x ∈ xs.take k, 0 ≤ x ∧ x ≤ 255 := fun x hx => HB.out x (List.mem_of_mem_take hx)
    have h1 := wsum_nonneg hbt
    have h2 := wsum_le hbt
    have hl : (xs.take k).length ≤ 1000 := by have := List.length_take_le k xs; omega
    have h3 : wsum (xs.take k) ≤ 65535000 := by omega
    clear hbt h2 hl
    by_cases hlt : k < n
    · have hkl : k < xs.length := by rw [← HL.out]; exact hlt
      obtain ⟨b, off, hk', rfl, hcell⟩ := hr.int hlt
      have h5 := HB.out xs[k] (List.getElem_mem _)
      have HS := Lib.hid (show wsum (xs.take (k + 1)) = wsum (xs.take k) + if k % 2 = 0 then 256 * xs[k] else xs[k] from by
        rw [List.take_succ_eq_append_getElem hk', wsum_snoc, show (xs.take k).length = k from by rw [List.length_take]; omega])
      generalize wsum (xs.take k) = s at *
      generalize xs[k] = x at *
      by_cases hk2 : k % 2 = 0
      · have hk2' : ((k : Int) % 2 == 0) = true := by rw [beq_iff_eq]; omega
        have HK := Lib.hid hk2
        clear hk2
        go_wp2
        go_round
        case rel => exact ⟨k + 1, by omega, by go_num, by rw [HS.out, if_pos HK.out]⟩
        case measure => simp [intOf]; omega
      · have hk2' : ((k : Int) % 2 == 0) = false := by rw [beq_eq_false_iff_ne]; omega
        have HK := Lib.hid hk2
        clear hk2
        go_wp2
        go_round
        case rel => exact ⟨k + 1, by omega, by go_num, by rw [HS.out, if_neg HK.out]⟩
        case measure => simp [intOf]; omega
    · obtain rfl : k = n := by omega
      have HE := Lib.hid (show xs.take k = xs from List.take_of_length_le (by rw [← HL.out]; exact Nat.le_refl _))
      rw [HE.out] at h1 h3
      rw [HE.out]
      have HR := Lib.hid (round_any (wsum xs) w h1 (by omega))
      generalize wsum xs = s at *
      go_wp2_with (go_at_call 27; refine HR.out.mono ?_; rintro e w' ⟨rfl, rfl⟩)
      go_ret
      exact ⟨by rw [HT.out]; rfl, rfl⟩

theorem mend_err (a b c : Int) (w : World) (h : (inB a 0 65535 && inB b 0 65535 && inB c 0 65535) = false) :
    Calls Tryd.prog 28 #[.int .i64 a, .int .i64 b, .int .i64 c] w fun e w' => e = .returned (.tuple #[.int .i64 0, .iface 47 (.int .i64 1)]) ∧ Below w.heap.size w w' := by
  have hall : allB [a, b, c] 0 65535 = false := by simpa [allB, Bool.and_assoc] using h
  have HA := Lib.hid hall
  clear hall h
  have hB := (Below.refl w.heap.size w).alloc (Nat.le_refl _) (.cells #[.int .i64 a, .int .i64 b, .int .i64 c] 3)
  go_enter Tryd.func28, Tryd.ntmps28
  go_wp2_with ((go_at_call 34; refine (all_any _ _ _ _ _ _ _ (rds_three w a b c _) (by decide)).mono ?_; rintro e w' ⟨rfl, rfl⟩; rw [HA.out]))
  go_ret2
  exact ⟨rfl, hB⟩
end Go.Proofs.YtalehbhimnhnjaaDoor
