/- Contracts of the helpers of the laws of ones: Set, Sum. -/
import Derived.Test.YtalehbhimnhnjaaLawHelp
import Derived.Test.YtalehbhimnhnjaaOnesCon
namespace Go.Proofs.Ytalehbhimnhnjaa
open Go.RowKit
theorem set_any (A : Option Addr) (n c i : Nat) (xs : List Int) (v : Int) (w : World) (hr : Rds w 1 A n (ic xs)) (hn : n ≤ 1000) (hi : i < n) :
    Calls Try.prog 13 #[.slice A n c, .int .i64 i, .int .i64 v] w (RetInts w (xs.set i v)) := by
  obtain rfl : n = xs.length := hr.len_int
  have hB := Below.refl w.heap.size w
  go_enter Try.func13, Try.ntmps13
  go_wp2_with (at_builtin; refine wp_append_ints w rfl (.tmp 8) (.tmp 9) rfl w w.heap.size (.slice none 0 0) [] rfl (Own.nil_ _ _) A xs.length c xs rfl hr (by simp; omega) (Nat.le_refl _) hB ?_; intro A1 c1 w1 ho1 hc1 hc2 hB1 _ _; simp only [List.length_nil, Nat.zero_add, List.nil_append] at ho1 hc1 ⊢; (obtain ⟨g, rfl, hg, hci, hfz⟩ := ho1.at_ hi))
  go_ret
  exact ⟨some ⟨g, 0, none⟩, c1, by rw [List.length_set]; rfl, by rw [List.length_set]; exact ho1.set v, by simpa using hc1, hc2, hB1.setCell (p := ⟨g, i, none⟩) hg _⟩

theorem take_sum (xs : List Int) (k : Nat) (h : k < xs.length) : (xs.take (k + 1)).sum = (xs.take k).sum + xs[k] := by
  rw [← List.take_append_getElem h, List.sum_append]; simp
theorem sum_take_le {xs : List Int} (hb : ∀ x ∈ xs, 0 ≤ x ∧ x ≤ 255) : ∀ k, k ≤ xs.length → 0 ≤ (xs.take k).sum ∧ (xs.take k).sum ≤ 255 * k
  | 0, _ => by simp
  | k + 1, hk => by
    have h1 := sum_take_le hb k (by omega)
    have h2 := hb xs[k] (List.getElem_mem _)
    rw [take_sum xs k (by omega)]; omega

set_option maxHeartbeats 1000000 in
theorem sameSum_any (A : Option Addr) (n c : Nat) (xs : List Int) (w : World) (hr : Rds w 1 A n (ic xs)) (hn : n ≤ 1000) (hb : ∀ x ∈ xs, 0 ≤ x ∧ x ≤ 255) :
    Calls Try.prog 15 #[.slice A n c] w fun e w' => e = .returned (.int .i64 xs.sum) ∧ w = w' := by
  have HL := Lib.hid hr.len_int
  have HB := Lib.hid hb
  clear hb
  go_enter Try.func15, Try.ntmps15
  go_wp2
  go_loop [3, 4] (fun s i => ∃ k : Nat, k ≤ n ∧ i = .int .i64 k ∧ s = .int .i64 (xs.take k).sum) (fun s i => n - (intOf i).toNat)
  case atStart => exact ⟨0, Nat.zero_le _, rfl, by simp⟩
  case round =>
    obtain ⟨k, hk, rfl, rfl⟩ := hrel
    by_cases hlt : k < n
    · have hkl : k < xs.length := by rw [← HL.out]; exact hlt
      obtain ⟨b, off, hk', rfl, hcell⟩ := hr.int hlt
      have h1 := sum_take_le HB.out k (by omega)
      have h2 := HB.out xs[k] (List.getElem_mem _)
      have h3 := Lib.hid (take_sum xs k hkl)
      generalize (xs.take k).sum = s at *
      have hw : IntKind.i64.wrap (s + xs[k]) = s + xs[k] := IntWalk.i64_in _ (by omega)
      go_wp2
      go_round
      case rel => exact ⟨k + 1, by omega, by go_num, by rw [h3.out]⟩
      case measure => simp [intOf]; omega
    · obtain rfl : k = n := by omega
      go_wp2
      go_ret
      exact ⟨by rw [List.take_of_length_le (by rw [← HL.out]; exact Nat.le_refl _)]; rfl, rfl⟩
end Go.Proofs.Ytalehbhimnhnjaa
