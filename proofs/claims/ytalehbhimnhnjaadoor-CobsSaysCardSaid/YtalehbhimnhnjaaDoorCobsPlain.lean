/- The plain law of byte stuffing (COBS): lists of numbers alone, no program. -/
import Derived.Test.YtalehbhimnhnjaaDoorBytes
namespace Go.Proofs.YtalehbhimnhnjaaDoor

/-- The length of the first piece. -/
def cobsN (l : List Int) : Nat := min (idx 0 l) 254
def cobsF : Nat → List Int → List Int
  | 0, _ => []
  | f + 1, l => ((cobsN l : Int) + 1) :: l.take (cobsN l) ++ (if l.length ≤ cobsN l then [] else cobsF f (l.drop (if cobsN l < 254 then cobsN l + 1 else cobsN l)))
def cobsL (l : List Int) : List Int := cobsF (l.length + 1) l

theorem cobsF_fuel : ∀ (f g : Nat) (l : List Int), l.length < f → l.length < g → cobsF f l = cobsF g l
  | 0, _, _, h, _ => absurd h (by omega)
  | _, 0, _, _, h => absurd h (by omega)
  | f + 1, g + 1, l, hf, hg => by
    unfold cobsF
    split
    · rfl
    · rename_i h
      have hl : (l.drop (if cobsN l < 254 then cobsN l + 1 else cobsN l)).length < l.length := by
        rw [List.length_drop]; split <;> omega
      rw [cobsF_fuel f g _ (by omega) (by omega)]
theorem cobsL_eq (l : List Int) : cobsL l = ((cobsN l : Int) + 1) :: l.take (cobsN l) ++ (if l.length ≤ cobsN l then [] else cobsL (l.drop (if cobsN l < 254 then cobsN l + 1 else cobsN l))) := by
  unfold cobsL
  rw [cobsF]
  split
  · rfl
  · rename_i h
    have hl : (l.drop (if cobsN l < 254 then cobsN l + 1 else cobsN l)).length < l.length := by
      rw [List.length_drop]; split <;> omega
    rw [cobsF_fuel l.length ((l.drop (if cobsN l < 254 then cobsN l + 1 else cobsN l)).length + 1) _ hl (by omega)]
theorem cobsN_le (l : List Int) : cobsN l ≤ l.length := by unfold cobsN; have := idx_le 0 l; omega
theorem cobsN_254 (l : List Int) : cobsN l ≤ 254 := by unfold cobsN; omega

/-- What one round of writing does. -/
theorem cobsL_last (l : List Int) (h : l.length ≤ cobsN l) : cobsL l = ((l.length : Int) + 1) :: l := by
  have := cobsN_le l
  have e : cobsN l = l.length := by omega
  rw [cobsL_eq, if_pos h, e]; simp
theorem cobsL_short (l : List Int) (h : cobsN l < l.length) (h2 : cobsN l < 254) : cobsL l = ((cobsN l : Int) + 1) :: l.take (cobsN l) ++ cobsL (l.drop (cobsN l + 1)) := by
  rw [cobsL_eq l, if_neg (by omega), if_pos h2]
theorem cobsL_full (l : List Int) (h : cobsN l < l.length) (h2 : cobsN l = 254) : cobsL l = 255 :: l.take 254 ++ cobsL (l.drop 254) := by
  rw [cobsL_eq l, if_neg (by omega), if_neg (by omega), h2]; rfl

/-! ### Reading -/
def uncF : Nat → List Int → Option (List Int)
  | 0, _ => none
  | _ + 1, [] => some []
  | f + 1, n :: t =>
    if n = 0 ∨ (t.length : Int) + 1 < n ∨ (0 : Int) ∈ t.take (n.toNat - 1) then none
    else (uncF f (t.drop (n.toNat - 1))).map fun r => t.take (n.toNat - 1) ++ (if n ≤ 254 ∧ t.drop (n.toNat - 1) ≠ [] then [0] else []) ++ r
def uncL (l : List Int) : Option (List Int) := uncF (l.length + 1) l
theorem uncF_fuel : ∀ (f g : Nat) (l : List Int), l.length < f → l.length < g → uncF f l = uncF g l
  | 0, _, _, h, _ => absurd h (by omega)
  | _, 0, _, _, h => absurd h (by omega)
  | f + 1, g + 1, [], _, _ => rfl
  | f + 1, g + 1, n :: t, hf, hg => by
    unfold uncF
    simp only [List.length_cons] at hf hg
    rw [uncF_fuel f g (t.drop (n.toNat - 1)) (by rw [List.length_drop]; omega) (by rw [List.length_drop]; omega)]
theorem uncL_nil : uncL [] = some [] := rfl
theorem uncL_cons (n : Int) (t : List Int) : uncL (n :: t) =
    if n = 0 ∨ (t.length : Int) + 1 < n ∨ (0 : Int) ∈ t.take (n.toNat - 1) then none
    else (uncL (t.drop (n.toNat - 1))).map fun r => t.take (n.toNat - 1) ++ (if n ≤ 254 ∧ t.drop (n.toNat - 1) ≠ [] then [0] else []) ++ r := by
  unfold uncL
  rw [List.length_cons, uncF, uncF_fuel (t.length + 1) ((t.drop (n.toNat - 1)).length + 1) (t.drop (n.toNat - 1)) (by rw [List.length_drop]; omega) (by omega)]

theorem idx_val' {v : Int} {xs : List Int} (h : idx v xs < xs.length) : xs[idx v xs] = v := by
  have h1 := (idx_at v xs (idx v xs) h (Nat.le_refl _)).2
  by_cases e : v = xs[idx v xs]
  · exact e.symm
  · have := h1 e; omega
theorem cobs_nozero (l : List Int) : (0 : Int) ∉ l.take (cobsN l) := by
  intro h
  refine idx_before 0 l ?_
  have : l.take (cobsN l) <+: l.take (idx 0 l) := List.take_prefix_take_left (by unfold cobsN; omega)
  exact this.subset h
/-! ### Two, with a nought between -/
theorem idx_append_zero (r s : List Int) : idx 0 (r ++ 0 :: s) = idx 0 r := by
  induction r with
  | nil => simp [idx]
  | cons x t ih => simp only [List.cons_append, idx]; split <;> simp_all
theorem idx_append_none (r s : List Int) (h : (0 : Int) ∉ r) : idx 0 (r ++ s) = r.length + idx 0 s := by
  induction r with
  | nil => simp
  | cons x t ih =>
    simp only [List.mem_cons, not_or] at h
    simp only [List.cons_append, idx, if_neg h.1, List.length_cons, ih h.2]; omega
theorem idx_none {l : List Int} (h : (0 : Int) ∉ l) : idx 0 l = l.length := by
  have := idx_append_none l [] h
  simpa [idx] using this
theorem idx_prefix (r s : List Int) (h : (0 : Int) ∈ r) : idx 0 (r ++ s) = idx 0 r := by
  induction r with
  | nil => simp at h
  | cons x t ih =>
    simp only [List.cons_append, idx]
    split
    · rfl
    · rename_i hx
      rcases List.mem_cons.1 h with e | e
      · exact absurd e hx
      · rw [ih e]
/-- How many numbers at the end are none of them 0. -/
def tailN (l : List Int) : Nat := idx 0 l.reverse
def mark (l : List Int) : List Int := if 0 < tailN l ∧ tailN l % 254 = 0 then [1] else []
theorem cobs_join : ∀ (m : Nat) (a b : List Int), a.length ≤ m → cobsL (a ++ 0 :: b) = cobsL a ++ mark a ++ cobsL b
  | m, a, b, hm => by
    have hn := cobsN_le a
    have hn4 := cobsN_254 a
    have hz := cobs_nozero a
    by_cases h1 : a.length ≤ cobsN a
    · have e : cobsN a = a.length := by omega
      rw [e, List.take_length] at hz
      rw [e] at hn4
      have ht : tailN a = a.length := by unfold tailN; rw [idx_none (by simpa using hz)]; simp
      have hi : idx 0 (a ++ 0 :: b) = a.length := by rw [idx_append_none a _ hz]; simp [idx]
      have hc : cobsN (a ++ 0 :: b) = a.length := by unfold cobsN; rw [hi]; omega
      rw [cobsL_last a h1]
      by_cases h2 : a.length < 254
      · rw [cobsL_short _ (by rw [hc]; simp) (by rw [hc]; exact h2), hc, List.take_left]
        have hmk : mark a = [] := by unfold mark; rw [ht, if_neg]; omega
        rw [hmk, show (a ++ 0 :: b).drop (a.length + 1) = b from by
          rw [show a ++ 0 :: b = (a ++ [0]) ++ b from by simp]
          exact List.drop_left' (by simp)]
        simp
      · have e2 : a.length = 254 := by omega
        rw [cobsL_full _ (by rw [hc]; simp) (by rw [hc]; exact e2), List.take_left' e2, List.drop_left' e2]
        have hmk : mark a = [1] := by unfold mark; rw [ht, if_pos]; omega
        have h0 : cobsL (0 :: b) = 1 :: cobsL b := by
          have hc0 : cobsN (0 :: b) = 0 := by simp [cobsN, idx]
          rw [cobsL_short _ (by rw [hc0]; simp) (by rw [hc0]; omega), hc0]; simp
        rw [h0, hmk, e2]; simp
    · have hlt : cobsN a < a.length := by omega
      cases m with
      | zero => omega
      | succ m =>
        by_cases h2 : cobsN a < 254
        · have hidx : cobsN a = idx 0 a := by unfold cobsN at h2 ⊢; omega
          have hval : a[cobsN a] = 0 := by
            have := idx_val' (v := 0) (xs := a) (by omega)
            simp only [hidx]; exact this
          have hd := List.drop_eq_getElem_cons hlt
          rw [hval] at hd
          have hmem : (0 : Int) ∈ a := by rw [← idx_mem]; omega
          have hi : cobsN (a ++ 0 :: b) = cobsN a := by unfold cobsN; rw [idx_prefix _ _ hmem]
          have htl : tailN a = tailN (a.drop (cobsN a + 1)) := by
            unfold tailN
            conv => lhs; rw [← List.take_append_drop (cobsN a) a, hd]
            rw [List.reverse_append, List.reverse_cons, List.append_assoc, List.singleton_append, idx_append_zero]
          have hmk : mark a = mark (a.drop (cobsN a + 1)) := by unfold mark; rw [htl]
          rw [cobsL_short a hlt h2, cobsL_short (a ++ 0 :: b) (by rw [hi]; simp; omega) (by rw [hi]; exact h2), hi]
          rw [List.take_append_of_le_length (by omega), List.drop_append_of_le_length (by omega), cobs_join m (a.drop (cobsN a + 1)) b (by rw [List.length_drop]; omega), hmk]
          simp
        · have e254 : cobsN a = 254 := by omega
          have hi : cobsN (a ++ 0 :: b) = 254 := by
            unfold cobsN at e254 ⊢
            by_cases hmem : (0 : Int) ∈ a
            · rw [idx_prefix _ _ hmem]; exact e254
            · rw [idx_append_none _ _ hmem]; rw [idx_none hmem] at e254; omega
          rw [e254] at hz
          have hlt2 : 254 < a.length := by omega
          have htl : mark a = mark (a.drop 254) := by
            unfold mark
            have h3 : tailN a = if (0 : Int) ∈ (a.drop 254).reverse then tailN (a.drop 254) else (a.drop 254).length + 254 := by
              unfold tailN
              conv => lhs; rw [← List.take_append_drop 254 a]
              rw [List.reverse_append]
              split
              · rename_i h; rw [idx_prefix _ _ h]
              · rename_i h
                rw [idx_append_none _ _ h, idx_none (by simpa using hz), List.length_reverse, List.length_reverse, List.length_take]
                omega
            rw [h3]
            split
            · rfl
            · rename_i h
              have h4 : tailN (a.drop 254) = (a.drop 254).length := by unfold tailN; rw [idx_none h]; simp
              rw [h4]
              have h5 : 0 < (a.drop 254).length := by rw [List.length_drop]; omega
              clear h3 h4
              by_cases hq : (a.drop 254).length % 254 = 0
              · rw [if_pos ⟨by omega, by omega⟩, if_pos ⟨h5, hq⟩]
              · rw [if_neg (by omega), if_neg (by omega)]
          rw [cobsL_full a hlt e254, cobsL_full (a ++ 0 :: b) (by rw [hi]; simp; omega) hi]
          rw [List.take_append_of_le_length (by omega), List.drop_append_of_le_length (by omega), cobs_join m (a.drop 254) b (by rw [List.length_drop]; omega), htl]
          simp

def readM : Option (List Int) → Int × List Int
  | none => (2, [])
  | some o => if 600 < o.length then (4, []) else (0, o)
/-- What is read of numbers, or the number of what is wrong. -/
def readR (xs : List Int) : Int × List Int :=
  if bytesE xs 1200 ≠ 0 then (bytesE xs 1200, [])
  else if xs = [] then (5, [])
  else readM (uncL xs)

/-! ### What is written is read -/
theorem cobsL_ne (l : List Int) : cobsL l ≠ [] := by rw [cobsL_eq]; simp
/-- Everything that is said of the written bytes, by one induction. -/
theorem cobs_all : ∀ (m : Nat) (l : List Int), l.length ≤ m → (∀ x ∈ l, 0 ≤ x ∧ x ≤ 255) →
    uncL (cobsL l) = some l ∧ (∀ x ∈ cobsL l, 1 ≤ x ∧ x ≤ 255) ∧ l.length < (cobsL l).length ∧ 254 * (cobsL l).length ≤ 255 * l.length + 254
  | m, l, hm, hb => by
    have hn := cobsN_le l
    have hn4 := cobsN_254 l
    have hz := cobs_nozero l
    have htk : (l.take (cobsN l)).length = cobsN l := by rw [List.length_take]; omega
    have hpos : ∀ x ∈ l.take (cobsN l), 1 ≤ x ∧ x ≤ 255 := by
      intro x hx
      have h1 := hb x (List.mem_of_mem_take hx)
      have : x ≠ 0 := by rintro rfl; exact hz hx
      omega
    have hnat : ((cobsN l : Int) + 1).toNat - 1 = cobsN l := by omega
    by_cases h1 : l.length ≤ cobsN l
    · have e : cobsN l = l.length := by omega
      rw [cobsL_last l h1]
      rw [e, List.take_length] at hz hpos
      rw [e] at hnat hn4
      refine ⟨?_, ?_, by simp, by simp; omega⟩
      · rw [uncL_cons, hnat, List.take_length, List.drop_length, if_neg (by simp; exact ⟨by omega, hz⟩), uncL_nil]
        simp
      · intro x hx
        rcases List.mem_cons.1 hx with rfl | hx
        · omega
        · exact hpos x hx
    · have hlt : cobsN l < l.length := by omega
      cases m with
      | zero => omega
      | succ m =>
        by_cases h2 : cobsN l < 254
        · have hidx : cobsN l = idx 0 l := by unfold cobsN at h2 ⊢; omega
          have hval : l[cobsN l] = 0 := by
            have := idx_val' (v := 0) (xs := l) (by omega)
            simp only [hidx]; exact this
          obtain ⟨i1, i2, i3, i4⟩ := cobs_all m (l.drop (cobsN l + 1)) (by rw [List.length_drop]; omega) (fun x hx => hb x (List.mem_of_mem_drop hx))
          rw [List.length_drop] at i3 i4
          rw [cobsL_short l hlt h2]
          refine ⟨?_, ?_, by simp; omega, by simp; omega⟩
          · rw [List.cons_append, uncL_cons, hnat, List.take_left' htk, List.drop_left' htk, if_neg, i1]
            · simp only [Option.map_some, Option.some.injEq]
              rw [if_pos ⟨by omega, cobsL_ne _⟩]
              have hd := List.drop_eq_getElem_cons hlt
              rw [hval] at hd
              conv => rhs; rw [← List.take_append_drop (cobsN l) l, hd]
              simp
            · simp only [not_or]
              refine ⟨by omega, by simp; omega, hz⟩
          · intro x hx
            rw [List.cons_append] at hx
            rcases List.mem_cons.1 hx with rfl | hx
            · omega
            · rcases List.mem_append.1 hx with hx | hx
              · exact hpos x hx
              · exact i2 x hx
        · have e254 : cobsN l = 254 := by omega
          obtain ⟨i1, i2, i3, i4⟩ := cobs_all m (l.drop 254) (by rw [List.length_drop]; omega) (fun x hx => hb x (List.mem_of_mem_drop hx))
          rw [List.length_drop] at i3 i4
          rw [e254] at hz hpos htk
          rw [cobsL_full l hlt e254]
          refine ⟨?_, ?_, by simp; omega, by simp; omega⟩
          · rw [List.cons_append, uncL_cons]
            have hn255 : (255 : Int).toNat - 1 = 254 := rfl
            rw [hn255, List.take_left' htk, List.drop_left' htk, if_neg, i1]
            · simp only [Option.map_some, Option.some.injEq]
              rw [if_neg (by omega)]
              simp
            · simp only [not_or]
              refine ⟨by omega, by simp; omega, hz⟩
          · intro x hx
            rw [List.cons_append] at hx
            rcases List.mem_cons.1 hx with rfl | hx
            · omega
            · rcases List.mem_append.1 hx with hx | hx
              · exact hpos x hx
              · exact i2 x hx
end Go.Proofs.YtalehbhimnhnjaaDoor
