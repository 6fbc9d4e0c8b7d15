/- The plain law of bit stuffing: lists of numbers alone, no program. -/
import Derived.Test.YtbmajajndckfoaaCore
namespace Go.Proofs.Ytbmajajndckfoaa

theorem foldl_inv {α β : Type} (P : List α → β → Prop) (f : β → α → β) (xs : List α) (s0 : β) (h0 : P [] s0) (hs : ∀ pre b s, (∃ suf, xs = pre ++ b :: suf) → P pre s → P (pre ++ [b]) (f s b)) : P xs (xs.foldl f s0) := by
  have key : ∀ (n : Nat), n ≤ xs.length → P (xs.take n) ((xs.take n).foldl f s0) := by
    intro n
    induction n with
    | zero => intro _; simpa using h0
    | succ n ih =>
      intro hn
      rw [List.take_succ_eq_append_getElem (by omega), List.foldl_append]
      exact hs _ _ _ ⟨xs.drop (n + 1), by rw [List.getElem_cons_drop, List.take_append_drop]⟩ (ih (by omega))
  have := key xs.length (Nat.le_refl _)
  simpa using this

/-- One bit more: what stands so far, and how many ones are behind it. -/
def stuffStep (s : List Int × Int) (b : Int) : List Int × Int :=
  if (s.2 + 1) * b = 5 then (s.1 ++ [b] ++ [0], 0) else (s.1 ++ [b], (s.2 + 1) * b)
def stuffSt (xs : List Int) : List Int × Int := xs.foldl stuffStep ([], 0)
def stuffL (xs : List Int) : List Int := (stuffSt xs).1
def unstuffStep (s : Option (List Int × Int)) (b : Int) : Option (List Int × Int) :=
  match s with
  | none => none
  | some (o, k) => if k = 5 then (if b = 1 then none else some (o, 0)) else some (o ++ [b], (k + 1) * b)
def unstuffSt (xs : List Int) : Option (List Int × Int) := xs.foldl unstuffStep (some ([], 0))
/-- The ones at the end of a list. -/
def runF (xs : List Int) : Int := xs.foldl (fun k b => if b = 0 then 0 else k + 1) 0
def Bits (xs : List Int) : Prop := ∀ b ∈ xs, b = 0 ∨ b = 1

theorem bits_of_all {xs : List Int} : allB xs 0 1 = true ↔ Bits xs := by
  unfold allB Bits
  rw [List.all_eq_true]
  refine forall_congr' fun b => forall_congr' fun _ => ?_
  rw [inB_true]; omega

theorem stuffSt_snoc (xs : List Int) (k : Nat) (h : k < xs.length) : stuffSt (xs.take (k + 1)) = stuffStep (stuffSt (xs.take k)) xs[k] := by
  unfold stuffSt; rw [List.take_succ_eq_append_getElem h, List.foldl_append]; rfl
theorem unstuffSt_snoc (xs : List Int) (k : Nat) (h : k < xs.length) : unstuffSt (xs.take (k + 1)) = unstuffStep (unstuffSt (xs.take k)) xs[k] := by
  unfold unstuffSt; rw [List.take_succ_eq_append_getElem h, List.foldl_append]; rfl
theorem unstuffSt_append (xs : List Int) (b : Int) : unstuffSt (xs ++ [b]) = unstuffStep (unstuffSt xs) b := by
  unfold unstuffSt; rw [List.foldl_append]; rfl
theorem runF_append (xs : List Int) (b : Int) : runF (xs ++ [b]) = if b = 0 then 0 else runF xs + 1 := by
  unfold runF; rw [List.foldl_append]; rfl
theorem runF_snoc (xs : List Int) (k : Nat) (h : k < xs.length) : runF (xs.take (k + 1)) = if xs[k] = 0 then 0 else runF (xs.take k) + 1 := by
  rw [List.take_succ_eq_append_getElem h, runF_append]
theorem runF_nonneg (xs : List Int) : 0 ≤ runF xs := by
  unfold runF
  refine foldl_inv (fun _ k => 0 ≤ k) _ xs 0 (by omega) fun pre b s _ h => ?_
  split <;> omega

/-- What a bit more does to the count, spelled out. -/
theorem stuffStep_zero (s : List Int × Int) : stuffStep s 0 = (s.1 ++ [0], 0) := by simp [stuffStep]
theorem stuffStep_five (s : List Int × Int) (h : s.2 = 4) : stuffStep s 1 = (s.1 ++ [1] ++ [0], 0) := by simp [stuffStep, h]
theorem stuffStep_one (s : List Int × Int) (h : s.2 ≠ 4) : stuffStep s 1 = (s.1 ++ [1], s.2 + 1) := by
  have : ¬ (s.2 + 1 = 5) := by omega
  simp [stuffStep, this]

/-- All that is kept while stuffing. -/
structure Stuffed (pre : List Int) (s : List Int × Int) : Prop where
  k0 : 0 ≤ s.2
  k4 : s.2 ≤ 4
  bits : Bits s.1
  back : unstuffSt s.1 = some (pre, s.2)
  len1 : pre.length ≤ s.1.length
  len5 : 5 * ((s.1.length : Int) - pre.length) + s.2 ≤ pre.length
  runs : ∀ i, runF (s.1.take i) ≤ 5
  run : runF s.1 = s.2

theorem take_snoc_cases (xs : List Int) (b : Int) (i : Nat) : (xs ++ [b]).take i = xs.take i ∨ (xs ++ [b]).take i = xs ++ [b] := by
  by_cases h : i ≤ xs.length
  · left; rw [List.take_append_of_le_length h]
  · right; exact List.take_of_length_le (by simp; omega)

theorem stuffed (xs : List Int) (hb : Bits xs) : Stuffed xs (stuffSt xs) := by
  refine foldl_inv Stuffed stuffStep xs ([], 0) ⟨by simp, by simp, by intro b hb; simp at hb, rfl, by simp, by simp, by simp [runF], rfl⟩ ?_
  rintro pre b ⟨o, k⟩ ⟨suf, rfl⟩ h
  have hk0 := h.k0
  have hk4 := h.k4
  have hl := h.len1
  have h5 := h.len5
  have hbk := h.back
  have hrn := h.run
  have hrs := h.runs
  simp only at hk0 hk4 hl h5 hbk hrn hrs
  have hbits : ∀ (c : Int), c = 0 ∨ c = 1 → ∀ d ∈ o ++ [c], d = 0 ∨ d = 1 := by
    intro c hc d hd
    rcases List.mem_append.1 hd with hd | hd
    · exact h.bits d hd
    · simp at hd; omega
  rcases hb b (by simp) with rfl | rfl
  · rw [stuffStep_zero]
    refine ⟨by simp, by simp, hbits 0 (by omega), ?_, by simp; omega, by simp; omega, ?_, ?_⟩
    · simp only [unstuffSt_append, hbk, unstuffStep]
      rw [if_neg (by omega)]; simp
    · intro i
      rcases take_snoc_cases o 0 i with e | e <;> simp only [e]
      · exact hrs i
      · rw [runF_append]; simp
    · simp [runF_append]
  · by_cases hf : k = 4
    · subst hf
      rw [stuffStep_five _ rfl]
      refine ⟨by simp, by simp, ?_, ?_, by simp; omega, by simp; omega, ?_, ?_⟩
      · intro d hd
        simp only [List.mem_append, List.mem_singleton] at hd
        rcases hd with (hd | hd) | hd
        · exact h.bits d hd
        · omega
        · omega
      · simp only [unstuffSt_append, hbk, unstuffStep]
        simp
      · intro i
        rcases take_snoc_cases (o ++ [1]) 0 i with e | e <;> simp only [e]
        · rcases take_snoc_cases o 1 i with e | e <;> simp only [e]
          · exact hrs i
          · rw [runF_append]; simp; omega
        · rw [runF_append]; simp
      · show runF (o ++ [1] ++ [0]) = 0
        rw [runF_append]; simp
    · rw [stuffStep_one _ hf]
      refine ⟨by simp; omega, by simp; omega, hbits 1 (by omega), ?_, by simp; omega, by simp; omega, ?_, ?_⟩
      · simp only [unstuffSt_append, hbk, unstuffStep]
        rw [if_neg (by omega)]; simp
      · intro i
        rcases take_snoc_cases o 1 i with e | e <;> simp only [e]
        · exact hrs i
        · rw [runF_append]; simp; omega
      · simp [runF_append]; omega

theorem stuffL_back (xs : List Int) (hb : Bits xs) : ∃ k, k < 5 ∧ unstuffSt (stuffL xs) = some (xs, k) := ⟨_, by have := (stuffed xs hb).k4; omega, (stuffed xs hb).back⟩
theorem stuffL_inj (xs ys : List Int) (hx : Bits xs) (hy : Bits ys) (h : stuffL xs = stuffL ys) : xs = ys := by
  obtain ⟨k, _, e1⟩ := stuffL_back xs hx
  obtain ⟨k2, _, e2⟩ := stuffL_back ys hy
  rw [h, e2] at e1
  injection e1 with e1
  injection e1 with e1
  exact e1.symm
theorem stuffL_len (xs : List Int) (hb : Bits xs) : xs.length ≤ (stuffL xs).length ∧ 5 * ((stuffL xs).length - xs.length) ≤ xs.length := by
  have h := stuffed xs hb
  have := h.len5
  have := h.len1
  have := h.k0
  unfold stuffL
  omega
/-- While unstuffing the count lies from 0 to 5. -/
theorem unstuff_count (xs : List Int) (hb : Bits xs) : ∀ o k, unstuffSt xs = some (o, k) → 0 ≤ k ∧ k ≤ 5 ∧ o.length ≤ xs.length ∧ Bits o := by
  refine foldl_inv (fun pre s => ∀ o k, s = some (o, k) → 0 ≤ k ∧ k ≤ 5 ∧ o.length ≤ pre.length ∧ Bits o) unstuffStep xs (some ([], 0)) ?_ ?_
  · intro o k h; injection h with h; injection h with h1 h2; subst h1; subst h2; simp [Bits]
  · rintro pre b s ⟨suf, rfl⟩ h o k hs
    rcases s with _ | ⟨o', k'⟩
    · cases hs
    · have ⟨a1, a2, a3, a4⟩ := h o' k' rfl
      simp only [unstuffStep] at hs
      split at hs
      · split at hs
        · cases hs
        · injection hs with hs; injection hs with h1 h2; subst h1; subst h2; simp; exact ⟨by omega, a4⟩
      · injection hs with hs; injection hs with h1 h2; subst h1; subst h2
        have hb' := hb b (by simp)
        refine ⟨?_, ?_, by simp; omega, ?_⟩
        · rcases hb' with rfl | rfl <;> omega
        · rcases hb' with rfl | rfl <;> omega
        · intro d hd
          rcases List.mem_append.1 hd with hd | hd
          · exact a4 d hd
          · simp at hd; omega
end Go.Proofs.Ytbmajajndckfoaa
