/- ones: words in another order, and bytes that change places: plain lists. -/
import Derived.Test.YtalehbhimnhnjaaOnesLaws
namespace Go.Proofs.Ytalehbhimnhnjaa

/-- The last k words, the last one first. -/
def turnedK (xs : List Int) : Nat → List Int
  | 0 => []
  | k + 1 => turnedK xs k ++ [xs.getD (xs.length - 2 - 2 * k) 0, xs.getD (xs.length - 1 - 2 * k) 0]
theorem turnedK_len (xs : List Int) : ∀ k, (turnedK xs k).length = 2 * k
  | 0 => rfl
  | k + 1 => by simp only [turnedK, List.length_append, turnedK_len xs k, List.length_cons, List.length_nil]; omega
theorem turnedK_mem (xs : List Int) : ∀ k, 2 * k ≤ xs.length → ∀ x ∈ turnedK xs k, x ∈ xs
  | 0, _, x, hx => by simp [turnedK] at hx
  | k + 1, h, x, hx => by
    simp only [turnedK, List.mem_append, List.mem_cons, List.not_mem_nil, or_false] at hx
    rcases hx with hx | rfl | rfl
    · exact turnedK_mem xs k (by omega) x hx
    · rw [List.getD_eq_getElem?_getD, List.getElem?_eq_getElem (by omega)]; exact List.getElem_mem _
    · rw [List.getD_eq_getElem?_getD, List.getElem?_eq_getElem (by omega)]; exact List.getElem_mem _
theorem turnedK_wsum (xs : List Int) (h2 : xs.length % 2 = 0) : ∀ k, 2 * k ≤ xs.length → wsum (turnedK xs k) = wsum (xs.drop (xs.length - 2 * k))
  | 0, _ => by simp [turnedK, wsum]
  | k + 1, h => by
    simp only [turnedK]
    rw [wsum_append (by rw [turnedK_len]; omega), turnedK_wsum xs h2 k (by omega)]
    rw [List.drop_eq_getElem_cons (i := xs.length - 2 * (k + 1)) (by omega), List.drop_eq_getElem_cons (i := xs.length - 2 * (k + 1) + 1) (by omega)]
    rw [show xs.length - 2 * (k + 1) + 1 + 1 = xs.length - 2 * k from by omega]
    rw [List.getD_eq_getElem?_getD, List.getD_eq_getElem?_getD, List.getElem?_eq_getElem (by omega), List.getElem?_eq_getElem (by omega)]
    simp only [Option.getD_some, wsum]
    rw [show xs[xs.length - 2 - 2 * k]'(by omega) = xs[xs.length - 2 * (k + 1)]'(by omega) from by congr 1; omega, show xs[xs.length - 1 - 2 * k]'(by omega) = xs[xs.length - 2 * (k + 1) + 1]'(by omega) from by congr 1; omega]
    omega
theorem turn_wsum (xs : List Int) (h2 : xs.length % 2 = 0) : wsum (turnedK xs (xs.length / 2)) = wsum xs := by
  rw [turnedK_wsum xs h2 _ (by omega), show xs.length - 2 * (xs.length / 2) = 0 from by omega, List.drop_zero]
theorem rot_wsum (zs : List Int) (h2 : zs.length % 2 = 0) (i : Nat) (hi : i % 2 = 0) : wsum (zs.drop i ++ zs.take i) = wsum zs := by
  rcases Nat.le_total i zs.length with h | h
  · rw [wsum_append (by simp; omega)]
    conv => rhs; rw [← List.take_append_drop i zs]
    rw [wsum_append (by simp; omega)]
    omega
  · rw [List.drop_eq_nil_of_le h, List.take_of_length_le h, List.nil_append]

def swapL : List Int → List Int
  | x :: y :: t => y :: x :: swapL t
  | l => l
theorem swapL_len : ∀ xs : List Int, (swapL xs).length = xs.length
  | [] => rfl
  | [_] => rfl
  | _ :: _ :: t => by simp [swapL, swapL_len t]
theorem swapL_mem : ∀ xs : List Int, ∀ x ∈ swapL xs, x ∈ xs
  | [], x, h => h
  | [_], x, h => h
  | a :: b :: t, x, h => by
    simp only [swapL, List.mem_cons] at h ⊢
    rcases h with h | h | h
    · exact .inr (.inl h)
    · exact .inl h
    · exact .inr (.inr (swapL_mem t x h))
theorem swapL_even : ∀ (xs : List Int) (i : Nat) (h : i + 1 < xs.length), i % 2 = 0 → (swapL xs)[i]? = some xs[i + 1]
  | x :: y :: t, 0, _, _ => rfl
  | x :: y :: t, 1, _, h => by omega
  | x :: y :: t, i + 2, h, h2 => by
    have := swapL_even t i (by simp only [List.length_cons] at h; omega) (by omega)
    simpa [swapL] using this
theorem swapL_odd : ∀ (xs : List Int) (i : Nat) (h : i < xs.length), i % 2 = 1 → (swapL xs)[i]? = some (xs[i - 1]'(by omega))
  | x :: y :: t, 0, _, h => by omega
  | x :: y :: t, 1, _, _ => rfl
  | x :: y :: t, 2, h, h2 => by omega
  | x :: y :: t, i + 3, h, h2 => by
    have := swapL_odd t (i + 1) (by simp only [List.length_cons] at h; omega) (by omega)
    simpa [swapL] using this
  | [x], 0, _, h => by omega
def hsum : List Int → Int
  | x :: _ :: t => x + hsum t
  | _ => 0
theorem wsum_swap : ∀ xs : List Int, xs.length % 2 = 0 → wsum (swapL xs) = 256 * wsum xs - 65535 * hsum xs
  | [], _ => by simp [swapL, wsum, hsum]
  | [x], h => by simp at h
  | x :: y :: t, h => by
    have := wsum_swap t (by simp only [List.length_cons] at h; omega)
    simp only [swapL, wsum, hsum, this]; omega
theorem sum_swap : ∀ xs : List Int, (swapL xs).sum = xs.sum
  | [] => rfl
  | [_] => rfl
  | x :: y :: t => by simp only [swapL, List.sum_cons, sum_swap t]; omega
theorem swap_norm {S H : Int} (hS : 0 ≤ S) (hS' : 0 ≤ 256 * S - 65535 * H) (hz : 256 * S - 65535 * H = 0 ↔ S = 0) :
    65535 - norm (256 * S - 65535 * H) = (65535 - norm S) / 256 + (65535 - norm S) % 256 * 256 := by
  unfold norm
  by_cases h0 : S = 0
  · rw [if_pos h0, if_pos (hz.2 h0)]; decide
  · rw [if_neg h0, if_neg (fun e => h0 (hz.1 e))]
    have h1 : 1 ≤ S := by omega
    have h2 : 1 ≤ 256 * S - 65535 * H := by have : ¬ 256 * S - 65535 * H = 0 := fun e => h0 (hz.1 e); omega
    clear hz hS hS' h0
    omega
theorem swap_total {xs : List Int} (hb : ∀ x ∈ xs, 0 ≤ x ∧ x ≤ 255) (h2 : xs.length % 2 = 0) : 65535 - totalP (swapL xs) = (65535 - totalP xs) / 256 + (65535 - totalP xs) % 256 * 256 := by
  have hb2 : ∀ x ∈ swapL xs, 0 ≤ x ∧ x ≤ 255 := fun x hx => hb x (swapL_mem xs x hx)
  have hw := wsum_swap xs h2
  have h0 := wsum_nonneg hb2
  have hz := (wsum_zero hb2).trans ((by rw [sum_swap] : (swapL xs).sum = 0 ↔ xs.sum = 0).trans (wsum_zero hb).symm)
  rw [totalP_norm hb2, totalP_norm hb, hw]
  rw [hw] at h0 hz
  exact swap_norm (wsum_nonneg hb) h0 hz
theorem turn_total {xs : List Int} (hb : ∀ x ∈ xs, 0 ≤ x ∧ x ≤ 255) (h2 : xs.length % 2 = 0) : totalP (turnedK xs (xs.length / 2)) = totalP xs := by
  rw [totalP_norm hb, totalP_norm (fun x hx => hb x (turnedK_mem xs _ (by omega) x hx)), turn_wsum xs h2]
theorem rot_total {xs : List Int} (hb : ∀ x ∈ xs, 0 ≤ x ∧ x ≤ 255) (h2 : xs.length % 2 = 0) (i : Nat) (hi : i % 2 = 0) :
    totalP ((turnedK xs (xs.length / 2)).drop i ++ (turnedK xs (xs.length / 2)).take i) = totalP xs := by
  have hm : ∀ x ∈ (turnedK xs (xs.length / 2)).drop i ++ (turnedK xs (xs.length / 2)).take i, 0 ≤ x ∧ x ≤ 255 := by
    intro x hx
    rw [List.mem_append] at hx
    rcases hx with hx | hx
    · exact hb x (turnedK_mem xs _ (by omega) x (List.mem_of_mem_drop hx))
    · exact hb x (turnedK_mem xs _ (by omega) x (List.mem_of_mem_take hx))
  rw [totalP_norm hb, totalP_norm hm, rot_wsum _ (by rw [turnedK_len]; omega) i hi, turn_wsum xs h2]
end Go.Proofs.Ytalehbhimnhnjaa
