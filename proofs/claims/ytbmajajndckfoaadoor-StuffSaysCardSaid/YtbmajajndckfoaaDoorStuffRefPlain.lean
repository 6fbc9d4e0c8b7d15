/- The document's unstuffing in plain words: bits behind five ones are dropped; what is left must be stuffed alike. No program. -/
import Derived.Test.YtbmajajndckfoaaDoorFramesPlain
namespace Go.Proofs.YtbmajajndckfoaaDoor

def dropStep (s : List Int × Int) (b : Int) : List Int × Int := (if s.2 < 5 then s.1 ++ [b] else s.1, if s.2 = 5 ∨ b = 0 then 0 else s.2 + 1)
def dropSt (xs : List Int) : List Int × Int := xs.foldl dropStep ([], 0)
theorem dropSt_snoc (xs : List Int) (k : Nat) (h : k < xs.length) : dropSt (xs.take (k + 1)) = dropStep (dropSt (xs.take k)) xs[k] := by
  unfold dropSt; rw [List.take_succ_eq_append_getElem h, List.foldl_append]; rfl
theorem drop_count (xs : List Int) (hb : Bits xs) : 0 ≤ (dropSt xs).2 ∧ (dropSt xs).2 ≤ 5 ∧ (dropSt xs).1.length ≤ xs.length ∧ Bits (dropSt xs).1 := by
  refine foldl_inv (fun pre s => 0 ≤ s.2 ∧ s.2 ≤ 5 ∧ s.1.length ≤ pre.length ∧ Bits s.1) dropStep xs ([], 0) ⟨by simp, by simp, by simp, by intro b hb; simp at hb⟩ ?_
  rintro pre b ⟨o, k⟩ ⟨suf, rfl⟩ ⟨h0, h5, hl, hbo⟩
  have hbb := hb b (by simp)
  unfold dropStep
  simp only at h0 h5 hl hbo ⊢
  refine ⟨by split <;> omega, by split <;> omega, ?_, ?_⟩
  · split
    · simp; omega
    · simp; omega
  · split
    · intro d hd
      rcases List.mem_append.1 hd with hd | hd
      · exact hbo d hd
      · simp at hd; omega
    · exact hbo
/-- What unstuffing keeps: what is out so far, stuffed anew, is what has been read. -/
structure Unst (pre : List Int) (s : Option (List Int × Int)) : Prop where
  low : ∀ o k, s = some (o, k) → k < 5 → stuffSt o = (pre, k)
  five : ∀ o k, s = some (o, k) → k = 5 → stuffSt o = (pre ++ [0], 0)
  drop : ∀ o k, s = some (o, k) → dropSt pre = (o, k)
theorem stuffSt_append (xs : List Int) (b : Int) : stuffSt (xs ++ [b]) = stuffStep (stuffSt xs) b := by
  unfold stuffSt; rw [List.foldl_append]; rfl
theorem dropSt_append (xs : List Int) (b : Int) : dropSt (xs ++ [b]) = dropStep (dropSt xs) b := by
  unfold dropSt; rw [List.foldl_append]; rfl
theorem unst_none (pre : List Int) : Unst pre none ∧ ∀ (o : List Int) (k : Int), (none : Option (List Int × Int)) = some (o, k) → 0 ≤ k ∧ k ≤ 5 := by
  refine ⟨⟨?_, ?_, ?_⟩, ?_⟩
  all_goals
    intro o k h
    cases h
theorem unst (xs : List Int) (hb : Bits xs) : Unst xs (unstuffSt xs) := by
  refine (foldl_inv (fun pre s => Unst pre s ∧ ∀ o k, s = some (o, k) → 0 ≤ k ∧ k ≤ 5) unstuffStep xs (some ([], 0)) ?_ ?_).1
  · refine ⟨⟨?_, ?_, ?_⟩, ?_⟩
    · intro o k h _; injection h with h; injection h with h1 h2; subst h1; subst h2; rfl
    · rintro o k h rfl; cases h
    · intro o k h; cases h; rfl
    · intro o k h; cases h; decide
  · rintro pre b s ⟨suf, rfl⟩ ⟨h, hk⟩
    have hbb := hb b (by simp)
    rcases s with _ | ⟨o, k⟩
    · exact unst_none _
    · obtain ⟨hk0, hk5⟩ := hk o k rfl
      have hdr := h.drop o k rfl
      simp only [unstuffStep]
      by_cases h5 : k = 5
      · subst h5
        have hf := h.five o 5 rfl rfl
        rw [if_pos rfl]
        rcases hbb with rfl | rfl
        · rw [if_neg (by omega)]
          refine ⟨⟨?_, ?_, ?_⟩, ?_⟩
          · intro o' k' h' _; injection h' with h'; injection h' with h1 h2; subst h1; subst h2; exact hf
          · intro o' k' h' h5'; injection h' with h'; injection h' with h1 h2; omega
          · intro o' k' h'; injection h' with h'; injection h' with h1 h2; subst h1; subst h2; rw [dropSt_append, hdr]; simp [dropStep]
          · intro o' k' h'; injection h' with h'; injection h' with h1 h2; omega
        · rw [if_pos rfl]
          exact unst_none _
      · have hl := h.low o k rfl (by omega)
        rw [if_neg h5]
        rcases hbb with rfl | rfl
        · rw [Int.mul_zero]
          refine ⟨⟨?_, ?_, ?_⟩, ?_⟩
          · intro o' k' h' _; injection h' with h'; injection h' with h1 h2; subst h1; subst h2; rw [stuffSt_append, hl, stuffStep_zero]
          · intro o' k' h' h5'; injection h' with h'; injection h' with h1 h2; omega
          · intro o' k' h'; injection h' with h'; injection h' with h1 h2; subst h1; subst h2; rw [dropSt_append, hdr]; simp [dropStep]; omega
          · intro o' k' h'; injection h' with h'; injection h' with h1 h2; omega
        · rw [Int.mul_one]
          refine ⟨⟨?_, ?_, ?_⟩, ?_⟩
          · intro o' k' h' h5'; injection h' with h'; injection h' with h1 h2; subst h1; subst h2
            rw [stuffSt_append, hl, stuffStep_one _ (by show k ≠ 4; omega)]
          · intro o' k' h' h5'; injection h' with h'; injection h' with h1 h2; subst h1; subst h2
            rw [stuffSt_append, hl, stuffStep_five _ (by show k = 4; omega)]
          · intro o' k' h'; injection h' with h'; injection h' with h1 h2; subst h1; subst h2; rw [dropSt_append, hdr]; simp [dropStep, h5]; omega
          · intro o' k' h'; injection h' with h'; injection h' with h1 h2; omega
/-- The document's answer is the program's. -/
theorem unL_ref (xs : List Int) (hb : Bits xs) : unL xs = if stuffL (dropSt xs).1 = xs then some (dropSt xs).1 else none := by
  have h := unst xs hb
  by_cases he : stuffL (dropSt xs).1 = xs
  · rw [if_pos he]
    have := unL_stuff (dropSt xs).1 (drop_count xs hb).2.2.2
    rwa [he] at this
  · rw [if_neg he]
    unfold unL
    rcases hu : unstuffSt xs with _ | ⟨o, k⟩
    · rfl
    · simp only
      rw [if_neg]
      intro hk
      apply he
      rw [h.drop o k hu]
      unfold stuffL
      rw [h.low o k hu hk]
/-- One bit more, as the document stuffs. -/
theorem stuff_ref (xs : List Int) (hb : Bits xs) (k : Nat) (h : k < xs.length) :
    stuffL (xs.take (k + 1)) = (if runF (stuffL (xs.take k) ++ [xs[k]]) = 5 then stuffL (xs.take k) ++ [xs[k]] ++ [0] else stuffL (xs.take k) ++ [xs[k]]) ∧ Bits (stuffL (xs.take k) ++ [xs[k]]) := by
  have hbt : Bits (xs.take k) := fun b hb' => hb b (List.mem_of_mem_take hb')
  have hs := stuffed (xs.take k) hbt
  have hbk := hb xs[k] (List.getElem_mem h)
  have hr : runF (stuffL (xs.take k) ++ [xs[k]]) = ((stuffSt (xs.take k)).2 + 1) * xs[k] := by
    rw [runF_append, show runF (stuffL (xs.take k)) = (stuffSt (xs.take k)).2 from hs.run]
    rcases hbk with e | e
    · rw [if_pos e, e, Int.mul_zero]
    · rw [if_neg (by omega), e, Int.mul_one]
  refine ⟨?_, ?_⟩
  · show (stuffSt (xs.take (k + 1))).1 = _
    rw [stuffSt_snoc xs k h, hr]
    unfold stuffStep stuffL
    split <;> rfl
  · intro d hd
    rcases List.mem_append.1 hd with hd | hd
    · exact hs.bits d hd
    · simp at hd; omega
end Go.Proofs.YtbmajajndckfoaaDoor
