/- ones in plain words: a sum of words that goes round is the sum's rest in 1 .. 65535, or 0 where all words are 0. -/
import Derived.Test.YtalehbhimnhnjaaDoorOnes
namespace Go.Proofs.YtalehbhimnhnjaaDoor

/-- The sum of all words. -/
def wsum : List Int → Int
  | [] => 0
  | [x] => x * 256
  | x :: y :: t => x * 256 + y + wsum t
/-- 1 .. 65535 for what is not 0. -/
def norm (s : Int) : Int := if s = 0 then 0 else (s - 1) % 65535 + 1

theorem norm_le {s : Int} (_ : 0 ≤ s) : 0 ≤ norm s ∧ norm s ≤ 65535 := by
  unfold norm; split <;> omega
theorem addW_norm {s v : Int} (hs : 0 ≤ s) (hv : 0 ≤ v) (hv' : v ≤ 65535) : addW (norm s) v = norm (s + v) := by
  unfold norm addW
  by_cases h0 : s = 0
  · subst h0
    by_cases h1 : v = 0
    · subst h1; simp
    · simp only [if_true, Int.zero_add, if_neg h1]
      rw [if_neg (by omega)]
      omega
  · rw [if_neg h0, if_neg (show ¬ s + v = 0 by omega)]
    split <;> omega
theorem wsum_nonneg : ∀ {xs : List Int}, (∀ x ∈ xs, 0 ≤ x ∧ x ≤ 255) → 0 ≤ wsum xs
  | [], _ => by simp [wsum]
  | [x], h => by have := h x (by simp); simp only [wsum]; omega
  | x :: y :: t, h => by
    have := h x (by simp); have := h y (by simp); have := wsum_nonneg (xs := t) (fun z hz => h z (by simp [hz]))
    simp only [wsum]; omega
theorem wsum_word {xs : List Int} (h : xs.length ≤ 2) : wsum xs = wordOf xs := by
  match xs, h with
  | [], _ => rfl
  | [x], _ => rfl
  | [x, y], _ => simp [wsum, wordOf]
  | _ :: _ :: _ :: _, h => simp at h
/-- A sum of an even number of bytes and of what stands behind. -/
theorem wsum_append : ∀ {xs : List Int}, xs.length % 2 = 0 → ∀ ys, wsum (xs ++ ys) = wsum xs + wsum ys
  | [], _, ys => by simp [wsum]
  | [x], h, _ => by simp at h
  | x :: y :: t, h, ys => by
    have := wsum_append (xs := t) (by simp only [List.length_cons] at h; omega) ys
    simp only [List.cons_append, wsum, this]; omega
theorem totK_norm {xs : List Int} (h : ∀ x ∈ xs, 0 ≤ x ∧ x ≤ 255) : ∀ k, k ≤ chunks 2 xs.length → totK xs k = norm (wsum (xs.take (k * 2)))
  | 0, _ => by simp [totK, wsum, norm]
  | k + 1, hk => by
    have hlt : k * 2 < xs.length := (chunks_lt (by omega)).1 hk
    have hsub : ∀ x ∈ xs.take (k * 2), 0 ≤ x ∧ x ≤ 255 := fun x hx => h x (List.mem_of_mem_take hx)
    have hw := wordOf_le (xs := (xs.drop (k * 2)).take 2) (fun x hx => h x (List.mem_of_mem_drop (List.mem_of_mem_take hx)))
    simp only [totK]
    rw [totK_norm h k (by omega), addW_norm (wsum_nonneg hsub) hw.1 hw.2, ← wsum_word (by simp; omega), ← wsum_append (by simp; omega)]
    rw [show (k + 1) * 2 = k * 2 + 2 from by omega, List.take_add]
theorem totalP_norm {xs : List Int} (h : ∀ x ∈ xs, 0 ≤ x ∧ x ≤ 255) : totalP xs = norm (wsum xs) := by
  have hc : xs.length ≤ chunks 2 xs.length * 2 := by unfold chunks; omega
  rw [totalP, totK_norm h _ (Nat.le_refl _), List.take_of_length_le hc]

theorem sum_nonneg : ∀ {xs : List Int}, (∀ x ∈ xs, 0 ≤ x ∧ x ≤ 255) → 0 ≤ xs.sum
  | [], _ => by simp
  | x :: t, h => by
    have := h x (by simp); have := sum_nonneg (xs := t) (fun z hz => h z (by simp [hz]))
    simp only [List.sum_cons]; omega
theorem wsum_zero : ∀ {xs : List Int}, (∀ x ∈ xs, 0 ≤ x ∧ x ≤ 255) → (wsum xs = 0 ↔ xs.sum = 0)
  | [], _ => by simp [wsum]
  | [x], h => by have := h x (by simp); simp only [wsum, List.sum_cons, List.sum_nil]; omega
  | x :: y :: t, h => by
    have h1 := h x (by simp); have h2 := h y (by simp)
    have ht : ∀ z ∈ t, 0 ≤ z ∧ z ≤ 255 := fun z hz => h z (by simp [hz])
    have h3 := wsum_zero ht
    have h4 := wsum_nonneg ht
    have h5 := sum_nonneg ht
    simp only [wsum, List.sum_cons]
    omega
/-- One byte is another one. -/
theorem wsum_set : ∀ (xs : List Int) (i : Nat) (v : Int) (h : i < xs.length), wsum (xs.set i v) = wsum xs + (v - xs[i]) * (if i % 2 = 0 then 256 else 1)
  | [x], 0, v, _ => by simp [wsum]; omega
  | x :: y :: t, 0, v, _ => by simp [wsum]; omega
  | x :: y :: t, 1, v, _ => by simp [wsum]; omega
  | x :: y :: t, i + 2, v, h => by
    have := wsum_set t i v (by simpa using h)
    simp only [List.set_cons_succ, wsum, this, List.getElem_cons_succ, Nat.add_mod_right]
    omega
end Go.Proofs.YtalehbhimnhnjaaDoor
