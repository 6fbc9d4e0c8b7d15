/- Sums that are good, and that are not: plain lists. -/
import Derived.Test.YtalehbhimnhnjaaDoorOnesPlain
namespace Go.Proofs.YtalehbhimnhnjaaDoor
/-! plain words -/
theorem norm_top {s : Int} (hs : 0 ≤ s) : norm (s + (65535 - norm s)) = 65535 := by
  unfold norm; by_cases h : s = 0
  · subst h; simp
  · rw [if_neg h]; split <;> omega
theorem norm_other {s d : Int} (h : norm s = 65535) (hd : d ≠ 0) (h1 : -65280 ≤ d) (h2 : d ≤ 65280) (hsd : 0 ≤ s + d) : norm (s + d) ≠ 65535 := by
  unfold norm at h ⊢
  split at h
  · omega
  · split
    · omega
    · omega
theorem good_all {xs : List Int} (hb : ∀ x ∈ xs, 0 ≤ x ∧ x ≤ 255) (he : xs.length % 2 = 0) :
    totalP (xs ++ [(65535 - totalP xs) / 256] ++ [(65535 - totalP xs) % 256]) = 65535 := by
  have hn := norm_le (wsum_nonneg hb)
  rw [← totalP_norm hb] at hn
  have hb' : ∀ x ∈ xs ++ [(65535 - totalP xs) / 256] ++ [(65535 - totalP xs) % 256], 0 ≤ x ∧ x ≤ 255 := by
    intro x hx
    simp only [List.append_assoc, List.mem_append, List.mem_singleton] at hx
    rcases hx with h | h | h
    · exact hb x h
    · omega
    · omega
  rw [totalP_norm hb', List.append_assoc, wsum_append he]
  have e : wsum ([(65535 - totalP xs) / 256] ++ [(65535 - totalP xs) % 256]) = 65535 - norm (wsum xs) := by
    rw [totalP_norm hb] at hn ⊢
    simp only [List.cons_append, List.nil_append, wsum]; omega
  rw [e, norm_top (wsum_nonneg hb)]
theorem set_bytes {xs : List Int} (hb : ∀ x ∈ xs, 0 ≤ x ∧ x ≤ 255) {i : Nat} {v : Int} (hv : 0 ≤ v ∧ v ≤ 255) : ∀ x ∈ xs.set i v, 0 ≤ x ∧ x ≤ 255 := by
  intro x hx
  rcases List.mem_or_eq_of_mem_set hx with h | rfl
  · exact hb x h
  · exact hv
theorem bad_set {xs : List Int} (hb : ∀ x ∈ xs, 0 ≤ x ∧ x ≤ 255) (h : totalP xs = 65535) {i : Nat} (hi : i < xs.length) {v : Int} (hv : 0 ≤ v ∧ v ≤ 255) (hne : xs[i] ≠ v) : totalP (xs.set i v) ≠ 65535 := by
  have hx := hb xs[i] (List.getElem_mem _)
  rw [totalP_norm (set_bytes hb hv), wsum_set _ _ _ hi]
  rw [totalP_norm hb] at h
  have h0 := wsum_nonneg (set_bytes hb hv (i := i))
  rw [wsum_set _ _ _ hi] at h0
  refine norm_other h ?_ ?_ ?_ h0 <;> split <;> omega
end Go.Proofs.YtalehbhimnhnjaaDoor
