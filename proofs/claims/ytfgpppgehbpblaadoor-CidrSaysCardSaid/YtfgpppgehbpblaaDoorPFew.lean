/- The prefixes of the program against the plain law's: pairs (address, length) against pairs (address, free bits). -/
import Derived.Test.YtfgpppgehbpblaaDoorCidrIn
import Derived.Test.YtfgpppgehbpblaaDoorCidrPlain
import Derived.Test.YtfgpppgehbpblaaDoorPSort
namespace Go.Proofs.YtfgpppgehbpblaaDoor
open Go.RowKit Px
/-- A prefix as the program holds it. -/
def toI (p : Pf) : Int × Int := ((p.1 : Int), 16 - (p.2 : Int))
def ofI (x : Int × Int) : Pf := (x.1.toNat, (16 - x.2).toNat)
theorem szI_toI {p : Pf} (h : p.2 ≤ 16) : szI (toI p).2 = ((2 ^ p.2 : Nat) : Int) := by
  unfold szI toI
  simp only
  congr 2
  omega
theorem ofI_v {x : Int × Int} (h : checkE x.1 x.2 = 0) : V (ofI x) ∧ toI (ofI x) = x := by
  obtain ⟨h1, h2, h3, h4, h5⟩ := checkE_ok h
  obtain ⟨a, l⟩ := x
  simp only at h1 h2 h3 h4 h5
  obtain ⟨a, rfl⟩ := Int.eq_ofNat_of_zero_le h1
  obtain ⟨l, rfl⟩ := Int.eq_ofNat_of_zero_le h3
  have e : (16 - (l : Int)).toNat = 16 - l := by omega
  refine ⟨⟨by simp only [ofI]; omega, ?_, by simp only [ofI]; omega⟩, by simp only [toI, ofI]; ext <;> simp <;> omega⟩
  simp only [ofI, e]
  unfold szI at h5
  have h6 : ((a % 2 ^ (16 - l) : Nat) : Int) = 0 := by
    rw [← h5]; simp
  exact Int.ofNat_eq_zero.1 h6
theorem check_toI {p : Pf} (h : V p) : checkE (toI p).1 (toI p).2 = 0 := by
  unfold checkE
  rw [if_pos (by simp only [toI, inB_true, Bool.and_eq_true]; have := h.1; have := h.2.2; omega), if_pos]
  rw [szI_toI h.1]
  simp only [toI]
  exact_mod_cast congrArg (Nat.cast (R := Int)) h.2.1
theorem within_toI (p : Pf) {q : Pf} (hq : V q) : withinB (toI p).1 (toI p).2 (toI q).1 (toI q).2 = (decide (p.2 ≤ q.2) && (p.1 / 2 ^ q.2 == q.1 / 2 ^ q.2)) := by
  unfold withinB
  rw [szI_toI hq.1]
  have e1 : decide ((toI q).2 ≤ (toI p).2) = decide (p.2 ≤ q.2) := by
    have : (toI q).2 ≤ (toI p).2 ↔ p.2 ≤ q.2 := by unfold toI; simp only; omega
    exact decide_eq_decide.2 this
  rw [e1]
  congr 1
  show (((p.1 : Int) - (p.1 : Int) % ((2 ^ q.2 : Nat) : Int)) == (q.1 : Int)) = _
  have e2 : (((p.1 : Int) - (p.1 : Int) % ((2 ^ q.2 : Nat) : Int)) == (q.1 : Int)) = (p.1 / 2 ^ q.2 == q.1 / 2 ^ q.2) := by
    have h3 : p.1 % 2 ^ q.2 + 2 ^ q.2 * (p.1 / 2 ^ q.2) = p.1 := Nat.mod_add_div _ _
    have h4 := al_eq hq.2.1
    have h5 : ((p.1 : Int) - (p.1 : Int) % ((2 ^ q.2 : Nat) : Int)) = ((2 ^ q.2 * (p.1 / 2 ^ q.2) : Nat) : Int) := by
      rw [show ((p.1 : Int) % ((2 ^ q.2 : Nat) : Int)) = ((p.1 % 2 ^ q.2 : Nat) : Int) from by simp]
      omega
    rw [h5, Bool.eq_iff_iff, beq_iff_eq, beq_iff_eq]
    constructor
    · intro h
      have h' : 2 ^ q.2 * (p.1 / 2 ^ q.2) = q.1 := by exact_mod_cast h
      rw [h4] at h'
      exact Nat.eq_of_mul_eq_mul_left (pow_pos _) h'
    · intro h
      rw [h, ← h4]
  exact e2
theorem check_up (q : Pf) : checkE (toI (q.1, q.2 + 1)).1 (toI (q.1, q.2 + 1)).2 = 0 ↔ V (q.1, q.2 + 1) := by
  constructor
  · intro h
    have h1 := (ofI_v h).1
    obtain ⟨_, _, g3, _, _⟩ := checkE_ok h
    have e : ofI (toI (q.1, q.2 + 1)) = (q.1, q.2 + 1) := by
      unfold toI at g3
      simp only at g3
      unfold ofI toI
      ext
      · simp
      · simp only; omega
    rwa [e] at h1
  · exact check_toI
theorem merge_iff {p q : Pf} (hq : V q) : mergeable p q = true ↔ p.2 = q.2 ∧ V (q.1, q.2 + 1) ∧ withinB (toI p).1 (toI p).2 (toI (q.1, q.2 + 1)).1 (toI (q.1, q.2 + 1)).2 = true := by
  unfold mergeable
  simp only [Bool.and_eq_true, beq_iff_eq, decide_eq_true_eq]
  constructor
  · rintro ⟨⟨⟨h1, h2⟩, h3⟩, h4⟩
    have hv : V (q.1, q.2 + 1) := ⟨h2, h3, hq.2.2⟩
    refine ⟨h1, hv, ?_⟩
    rw [within_toI p hv]
    simp only [Bool.and_eq_true, decide_eq_true_eq, beq_iff_eq]
    exact ⟨by omega, h4⟩
  · rintro ⟨h1, hv, h4⟩
    rw [within_toI p hv] at h4
    simp only [Bool.and_eq_true, decide_eq_true_eq, beq_iff_eq] at h4
    exact ⟨⟨⟨h1, hv.1⟩, hv.2.1⟩, h4.2⟩
/-- What is wrong with the first prefix that is. -/
def errP : List (Int × Int) → Int
  | [] => 0
  | x :: t => if checkE x.1 x.2 = 0 then errP t else checkE x.1 x.2
theorem errP_all {xs : List (Int × Int)} : errP xs = 0 ↔ ∀ x ∈ xs, checkE x.1 x.2 = 0 := by
  induction xs with
  | nil => simp [errP]
  | cons x t ih =>
    unfold errP
    by_cases h : checkE x.1 x.2 = 0
    · rw [if_pos h, ih]; simp [h]
    · rw [if_neg h]; simp [h]
theorem errP_at {xs : List (Int × Int)} {k : Nat} (hk : k < xs.length) (h : errP (xs.take k) = 0) : errP (xs.take (k + 1)) = checkE xs[k].1 xs[k].2 ∧ (checkE xs[k].1 xs[k].2 ≠ 0 → errP xs = checkE xs[k].1 xs[k].2) := by
  induction xs generalizing k with
  | nil => simp at hk
  | cons x t ih =>
    cases k with
    | zero =>
      simp only [List.getElem_cons_zero]
      refine ⟨?_, fun h0 => ?_⟩
      · by_cases h0 : checkE x.1 x.2 = 0 <;> simp [errP, h0]
      · unfold errP; rw [if_neg h0]
    | succ k =>
      have hx : checkE x.1 x.2 = 0 := errP_all.1 h x (by simp)
      have ht : errP (t.take k) = 0 := by rw [List.take_succ_cons, errP, if_pos hx] at h; exact h
      have := ih (k := k) (by simpa using hk) ht
      rw [List.take_succ_cons, errP, if_pos hx]
      simp only [List.getElem_cons_succ]
      refine ⟨this.1, fun h0 => ?_⟩
      rw [errP, if_pos hx]
      exact this.2 h0
/-- The stack as the row that the program holds. -/
def rowOf (S : List Pf) : List (Int × Int) := S.reverse.map toI
theorem rowOf_cons (p : Pf) (S : List Pf) : rowOf (p :: S) = rowOf S ++ [toI p] := by simp [rowOf]
theorem rowOf_length (S : List Pf) : (rowOf S).length = S.length := by simp [rowOf]
/-- What cidr.Fewest makes. -/
def fewI (xs : List (Int × Int)) : List (Int × Int) := rowOf (stackOf ((sortP xs).map ofI))
end Go.Proofs.YtfgpppgehbpblaaDoor
