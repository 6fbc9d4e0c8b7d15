/- Frames between flags, in plain words: what is framed is found. No program. -/
import Derived.Test.YtbmajajndckfoaaUnstuff
namespace Go.Proofs.Ytbmajajndckfoaa

def flagL : List Int := [0, 1, 1, 1, 1, 1, 1, 0]
/-- Does a flag begin here? -/
def flagAt (xs : List Int) (i : Nat) : Bool := decide ((xs.drop i).take 8 = flagL)
def cutL (xs : List Int) (f i : Nat) : List Int := (xs.drop f).take (i - f)
def optL (o : Option (List Int)) : List (List Int) := match o with | none => [] | some l => [l]
def pieceL (xs : List Int) (fr : Option Nat) (i : Nat) : List (List Int) :=
  match fr with
  | none => []
  | some f => if f < i then optL (unL (cutL xs f i)) else []
/-- The frames that are still to be found, where one looks at i and a frame may have begun. -/
def frmN (xs : List Int) : Nat → Nat → Option Nat → List (List Int)
  | 0, _, _ => []
  | n + 1, i, fr => if i + 8 ≤ xs.length then (if flagAt xs i then pieceL xs fr i ++ frmN xs n (i + 8) (some (i + 8)) else frmN xs n (i + 1) fr) else []
theorem frmN_more (xs : List Int) : ∀ (n m i : Nat) (fr : Option Nat), xs.length < n + i → xs.length < m + i → frmN xs n i fr = frmN xs m i fr
  | 0, m, i, fr, h1, h2 => by
    cases m with
    | zero => rfl
    | succ m => rw [frmN, frmN, if_neg (by omega)]
  | n + 1, 0, i, fr, h1, h2 => by rw [frmN, frmN, if_neg (by omega)]
  | n + 1, m + 1, i, fr, h1, h2 => by
    rw [frmN, frmN]
    by_cases h : i + 8 ≤ xs.length
    · rw [if_pos h, if_pos h]
      by_cases hf : flagAt xs i = true
      · rw [if_pos hf, if_pos hf, frmN_more xs n m (i + 8) _ (by omega) (by omega)]
      · rw [if_neg hf, if_neg hf, frmN_more xs n m (i + 1) _ (by omega) (by omega)]
    · rw [if_neg h, if_neg h]
def frm (xs : List Int) (i : Nat) (fr : Option Nat) : List (List Int) := frmN xs (xs.length + 1) i fr
theorem frm_end {xs : List Int} {i : Nat} {fr : Option Nat} (h : xs.length < i + 8) : frm xs i fr = [] := by
  unfold frm; rw [frmN, if_neg (by omega)]
theorem frm_flag {xs : List Int} {i : Nat} {fr : Option Nat} (h : i + 8 ≤ xs.length) (hf : flagAt xs i = true) : frm xs i fr = pieceL xs fr i ++ frm xs (i + 8) (some (i + 8)) := by
  unfold frm
  rw [frmN, if_pos h, if_pos hf, frmN_more xs xs.length (xs.length + 1) _ _ (by omega) (by omega)]
theorem frm_step {xs : List Int} {i : Nat} {fr : Option Nat} (h : i + 8 ≤ xs.length) (hf : flagAt xs i = false) : frm xs i fr = frm xs (i + 1) fr := by
  unfold frm
  rw [frmN, if_pos h, if_neg (by rw [hf]; simp), frmN_more xs xs.length (xs.length + 1) _ _ (by omega) (by omega)]
/-- All frames of a row of bits. -/
def framesL (xs : List Int) : List (List Int) := frm xs 0 none

/-! ### What is framed is found -/
def restL (rows : List (List Int)) : List Int := rows.flatMap fun r => stuffL r ++ flagL
def encL (rows : List (List Int)) : List Int := flagL ++ restL rows
theorem restL_cons (r : List Int) (t : List (List Int)) : restL (r :: t) = stuffL r ++ (flagL ++ restL t) := by simp [restL]
theorem restL_snoc (t : List (List Int)) (r : List Int) : restL (t ++ [r]) = restL t ++ stuffL r ++ flagL := by simp [restL]
theorem encL_snoc (t : List (List Int)) (r : List Int) : encL (t ++ [r]) = encL t ++ stuffL r ++ flagL := by unfold encL; rw [restL_snoc]; simp
theorem six_ones {s : List Int} {q : Nat} (h : q + 7 ≤ s.length) (h1 : ∀ m, 1 ≤ m → m ≤ 6 → s[q + m]? = some 1) (hr : ∀ i, runF (s.take i) ≤ 5) : False := by
  have step : ∀ m, 1 ≤ m → m ≤ 6 → runF (s.take (q + m + 1)) = runF (s.take (q + m)) + 1 := by
    intro m hm hm'
    have := h1 m hm hm'
    rw [List.getElem?_eq_getElem (by omega)] at this
    injection this with this
    rw [runF_snoc s (q + m) (by omega), this, if_neg (by omega)]
  have e1 := step 1 (by omega) (by omega)
  have e2 := step 2 (by omega) (by omega)
  have e3 := step 3 (by omega) (by omega)
  have e4 := step 4 (by omega) (by omega)
  have e5 := step 5 (by omega) (by omega)
  have e6 := step 6 (by omega) (by omega)
  have h0 := runF_nonneg (s.take (q + 1))
  have h6 := hr (q + 6 + 1)
  have a2 : q + 1 + 1 = q + 2 := rfl
  have a3 : q + 2 + 1 = q + 3 := rfl
  have a4 : q + 3 + 1 = q + 4 := rfl
  have a5 : q + 4 + 1 = q + 5 := rfl
  have a6 : q + 5 + 1 = q + 6 := rfl
  rw [a2] at e1
  rw [a3] at e2
  rw [a4] at e3
  rw [a5] at e4
  rw [a6] at e5
  omega
theorem flag_get {xs : List Int} {i : Nat} (h : flagAt xs i = true) (m : Nat) (hm : m < 8) : xs[i + m]? = flagL[m]? := by
  unfold flagAt at h
  have h := of_decide_eq_true h
  rw [← h, List.getElem?_take, if_pos hm, List.getElem?_drop]
theorem flag_not {pre s rest : List Int} {q : Nat} (hq : q < s.length) (hr : ∀ i, runF (s.take i) ≤ 5) : flagAt (pre ++ (s ++ (flagL ++ rest))) (pre.length + q) = false := by
  rw [Bool.eq_false_iff]
  intro h
  have g : ∀ m, m < 8 → (s ++ (flagL ++ rest))[q + m]? = flagL[m]? := by
    intro m hm
    have h1 := flag_get h m hm
    rwa [Nat.add_assoc, List.getElem?_append_right (Nat.le_add_right _ _), Nat.add_sub_cancel_left] at h1
  have one : ∀ m, 1 ≤ m → m ≤ 6 → flagL[m]? = some 1 := by
    intro m h1 h2
    have : m = 1 ∨ m = 2 ∨ m = 3 ∨ m = 4 ∨ m = 5 ∨ m = 6 := by omega
    rcases this with rfl | rfl | rfl | rfl | rfl | rfl <;> rfl
  by_cases hl : s.length ≤ q + 6
  · have h1 := g (s.length - q) (by omega)
    rw [one _ (by omega) (by omega), show q + (s.length - q) = s.length from by omega, List.getElem?_append_right (Nat.le_refl _), Nat.sub_self] at h1
    exact absurd h1 (by simp [flagL])
  · refine six_ones (s := s) (q := q) (by omega) (fun m h1 h2 => ?_) hr
    have := g m (by omega)
    rwa [one m h1 h2, List.getElem?_append_left (by omega)] at this
theorem flag_is (pre rest : List Int) : flagAt (pre ++ (flagL ++ rest)) pre.length = true := by
  unfold flagAt
  rw [List.drop_left]
  exact decide_eq_true (by rw [List.take_append_of_le_length (by decide)]; rfl)
theorem stuffL_nil_iff {r : List Int} (hb : Bits r) : stuffL r = [] ↔ r = [] := by
  constructor
  · intro h
    have := (stuffL_len r hb).1
    rw [h] at this
    exact List.eq_nil_of_length_eq_zero (by simpa using this)
  · rintro rfl; rfl
def fullL (rows : List (List Int)) : List (List Int) := rows.filter fun r => decide (0 < r.length)
theorem fullL_snoc (t : List (List Int)) (r : List Int) : fullL (t ++ [r]) = if 0 < r.length then fullL t ++ [r] else fullL t := by
  unfold fullL
  rw [List.filter_append]
  by_cases h : 0 < r.length
  · rw [if_pos h, List.filter_cons_of_pos (by simpa using h)]; rfl
  · rw [if_neg h, List.filter_cons_of_neg (by simpa using h)]; simp
theorem frm_rest : ∀ (rows : List (List Int)) (pre : List Int), (∀ r ∈ rows, Bits r) → frm (pre ++ restL rows) pre.length (some pre.length) = fullL rows
  | [], pre, _ => by rw [frm_end (by simp [restL])]; rfl
  | r :: t, pre, hb => by
    have hbr := hb r (by simp)
    have hrun := (stuffed r hbr).runs
    have hu := unL_stuff r hbr
    have hn := stuffL_nil_iff hbr
    have hfold : (stuffSt r).1 = stuffL r := rfl
    rw [hfold] at hrun
    rw [restL_cons]
    generalize stuffL r = s at *
    have hlen : (pre ++ (s ++ (flagL ++ restL t))).length = pre.length + s.length + 8 + (restL t).length := by
      simp only [List.length_append]
      have : flagL.length = 8 := rfl
      omega
    have walk : ∀ n q, q + n = s.length → frm (pre ++ (s ++ (flagL ++ restL t))) (pre.length + q) (some pre.length) = frm (pre ++ (s ++ (flagL ++ restL t))) (pre.length + s.length) (some pre.length) := by
      intro n
      induction n with
      | zero => intro q hq; rw [show q = s.length from by omega]
      | succ n ih =>
        intro q hq
        rw [frm_step (by rw [hlen]; omega) (flag_not (by omega) hrun), Nat.add_assoc, ih (q + 1) (by omega)]
    have h0 := walk s.length 0 (by omega)
    rw [Nat.add_zero] at h0
    rw [h0]
    have hx : pre ++ (s ++ (flagL ++ restL t)) = (pre ++ s) ++ (flagL ++ restL t) := by simp
    have hx2 : pre ++ (s ++ (flagL ++ restL t)) = (pre ++ s ++ flagL) ++ restL t := by simp
    have hpl : pre.length + s.length = (pre ++ s).length := by simp
    rw [frm_flag (by rw [hlen]; omega) (by rw [hx, hpl]; exact flag_is _ _)]
    have h8 : pre.length + s.length + 8 = (pre ++ s ++ flagL).length := by simp [flagL]; omega
    rw [h8, hx2, frm_rest t _ (fun r hr => hb r (by simp [hr]))]
    have hcut : cutL ((pre ++ s ++ flagL) ++ restL t) pre.length (pre.length + s.length) = s := by
      unfold cutL
      rw [← hx2, List.drop_left, Nat.add_sub_cancel_left, List.take_left]
    unfold pieceL
    simp only [hcut, hu]
    by_cases he : r = []
    · have hs := hn.2 he
      subst hs
      subst he
      simp [fullL]
    · have hs : s ≠ [] := fun h => he (hn.1 h)
      have hsl : 0 < s.length := List.length_pos_iff.2 hs
      rw [if_pos (by omega)]
      have hrl : 0 < r.length := List.length_pos_iff.2 he
      simp [optL, fullL, hrl]
/-- What is framed is found, in its order, where it is not empty. -/
theorem frames_enc (rows : List (List Int)) (hb : ∀ r ∈ rows, Bits r) : framesL (encL rows) = fullL rows := by
  unfold framesL encL
  have h := flag_is [] (restL rows)
  simp only [List.nil_append, List.length_nil] at h
  rw [frm_flag (by simp [flagL]) h]
  exact frm_rest rows flagL hb
end Go.Proofs.Ytbmajajndckfoaa
