/- How many addresses some prefixes have: no address counts twice. -/
import Derived.Test.YtfgpppgehbpblaaDoorCidrPlain
namespace Go.Proofs.YtfgpppgehbpblaaDoor.Px

def hasD (p : Pf) (x : Nat) : Bool := x / 2 ^ p.2 == p.1 / 2 ^ p.2
theorem hasD_iff {p : Pf} {x : Nat} : hasD p x = true ↔ Has p x := by unfold hasD Has; exact beq_iff_eq
def cov (L : List Pf) (x : Nat) : Bool := L.any fun p => hasD p x
theorem cov_iff {L : List Pf} {x : Nat} : cov L x = true ↔ Cover L x := by
  unfold cov Cover
  rw [List.any_eq_true]
  simp only [hasD_iff]
def cnt (f : Nat → Bool) : Nat → Nat
  | 0 => 0
  | n + 1 => cnt f n + (if f n then 1 else 0)
theorem cnt_le (f : Nat → Bool) : ∀ n, cnt f n ≤ n
  | 0 => Nat.le_refl _
  | n + 1 => by have := cnt_le f n; simp only [cnt]; split <;> omega
theorem cnt_mono {f g : Nat → Bool} (h : ∀ x, f x = true → g x = true) : ∀ n, cnt f n ≤ cnt g n
  | 0 => Nat.le_refl _
  | n + 1 => by
    have := cnt_mono h n
    simp only [cnt]
    by_cases hf : f n = true
    · rw [if_pos hf, if_pos (h n hf)]; omega
    · rw [if_neg hf]; omega
theorem cnt_or (f g : Nat → Bool) : ∀ n, cnt (fun x => f x || g x) n ≤ cnt f n + cnt g n
  | 0 => Nat.le_refl _
  | n + 1 => by
    have := cnt_or f g n
    simp only [cnt]
    by_cases hf : f n = true <;> by_cases hg : g n = true <;> simp [hf, hg] <;> omega
theorem cnt_add {f g : Nat → Bool} (h : ∀ x, ¬ (f x = true ∧ g x = true)) : ∀ n, cnt (fun x => f x || g x) n = cnt f n + cnt g n
  | 0 => rfl
  | n + 1 => by
    have := cnt_add h n
    have h2 := h n
    simp only [cnt]
    by_cases hf : f n = true <;> by_cases hg : g n = true
    · exact absurd ⟨hf, hg⟩ h2
    all_goals (simp [hf, hg]; omega)
theorem cnt_congr {f g : Nat → Bool} (h : ∀ x, f x = g x) (n : Nat) : cnt f n = cnt g n := by
  rw [show f = g from funext h]
theorem cnt_range (a s : Nat) : ∀ n, cnt (fun x => decide (a ≤ x) && decide (x < a + s)) n = min (n - a) s
  | 0 => by simp [cnt]
  | n + 1 => by
    simp only [cnt, cnt_range a s n]
    by_cases h : a ≤ n
    · by_cases h2 : n < a + s
      · simp [h, h2]; omega
      · simp [h2]; omega
    · simp [h]; omega
theorem cnt_has {p : Pf} (h : V p) : cnt (hasD p) 65536 = 2 ^ p.2 := by
  rw [cnt_congr (g := fun x => decide (p.1 ≤ x) && decide (x < p.1 + 2 ^ p.2)) (fun x => ?_), cnt_range]
  · have := top_fit h.1 h.2.1 h.2.2
    omega
  · rw [Bool.eq_iff_iff, hasD_iff, has_iff h.2.1]
    simp
def total (L : List Pf) : Nat := (L.map fun p => 2 ^ p.2).sum
theorem total_cnt : ∀ {L : List Pf}, (∀ p ∈ L, V p) → L.Pairwise Apart → total L = cnt (cov L) 65536
  | [], _, _ => by
    have : ∀ n, cnt (cov []) n = 0 := fun n => by
      induction n with
      | zero => rfl
      | succ n ih => simp [cnt, ih, cov]
    rw [this]; rfl
  | p :: t, hv, hs => by
    rw [List.pairwise_cons] at hs
    have ih := total_cnt (L := t) (fun q hq => hv q (by simp [hq])) hs.2
    have e : total (p :: t) = 2 ^ p.2 + total t := by simp [total]
    rw [e, ih, ← cnt_has (hv p (by simp))]
    rw [← cnt_add]
    · exact cnt_congr (fun x => by simp [cov]) _
    · rintro x ⟨h1, h2⟩
      rw [hasD_iff, has_iff (hv p (by simp)).2.1] at h1
      rw [cov_iff] at h2
      obtain ⟨q, hq, hx⟩ := h2
      rw [has_iff (hv q (by simp [hq])).2.1] at hx
      have := hs.1 q hq
      unfold Apart at this
      omega
/-- Two lists together: no more than in both, no fewer than in either. -/
theorem total_join {L M B : List Pf} (hL : Canon L) (hM : Canon M) (hB : Canon B) (h : ∀ x, Cover B x ↔ Cover L x ∨ Cover M x) :
    total B ≤ total L + total M ∧ total L ≤ total B ∧ total M ≤ total B ∧ total B ≤ 65536 := by
  rw [total_cnt hL.v hL.apart, total_cnt hM.v hM.apart, total_cnt hB.v hB.apart]
  refine ⟨?_, cnt_mono (fun x hx => ?_) _, cnt_mono (fun x hx => ?_) _, cnt_le _ _⟩
  · rw [cnt_congr (g := fun x => cov L x || cov M x) (fun x => by rw [Bool.eq_iff_iff, Bool.or_eq_true, cov_iff, cov_iff, cov_iff, h])]
    exact cnt_or _ _ _
  · rw [cov_iff] at hx ⊢; exact (h x).2 (.inl hx)
  · rw [cov_iff] at hx ⊢; exact (h x).2 (.inr hx)
/-- An address is in one of them at most. -/
theorem one_has {L : List Pf} (hL : Canon L) (x : Nat) : (L.countP fun p => hasD p x) ≤ 1 ∧ ((L.countP fun p => hasD p x) = 1 ↔ Cover L x) := by
  have key : ∀ {M : List Pf}, (∀ p ∈ M, V p) → M.Pairwise Apart → (M.countP fun p => hasD p x) ≤ 1 := by
    intro M
    induction M with
    | nil => intro _ _; simp
    | cons p t ih =>
      intro hv hs
      rw [List.pairwise_cons] at hs
      have ih' := ih (fun q hq => hv q (by simp [hq])) hs.2
      rw [List.countP_cons]
      by_cases h : hasD p x = true
      · have h0 : (t.countP fun p => hasD p x) = 0 := by
          rw [List.countP_eq_zero]
          intro q hq h2
          rw [hasD_iff, has_iff (hv p (by simp)).2.1] at h
          rw [hasD_iff, has_iff (hv q (by simp [hq])).2.1] at h2
          have := hs.1 q hq
          unfold Apart at this
          omega
        rw [h0, if_pos h]
        omega
      · rw [if_neg h]; omega
  have h1 := key hL.v hL.apart
  refine ⟨h1, ?_⟩
  have h2 : 0 < (L.countP fun p => hasD p x) ↔ Cover L x := by
    rw [List.countP_pos_iff]
    unfold Cover
    simp only [hasD_iff]
  rw [← h2]
  omega
end Go.Proofs.YtfgpppgehbpblaaDoor.Px
