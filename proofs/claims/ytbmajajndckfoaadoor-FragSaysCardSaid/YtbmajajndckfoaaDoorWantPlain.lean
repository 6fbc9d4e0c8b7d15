/- What the law gathers: of each place in turn the parts that stand there. No program stands in it. -/
import Derived.Test.YtbmajajndckfoaaDoorRankPlain
namespace Go.Proofs.YtbmajajndckfoaaDoor
def selR (xs : List Pt) (a i : Nat) : List Pt := ((List.range i).filter fun j => decide (rk xs j xs.length = a)).map fun j => xs.getD j (0, false, ⟨#[]⟩)
def wantR (xs : List Pt) (a : Nat) : List Pt := (List.range a).flatMap fun b => selR xs b xs.length
theorem selR_zero (xs : List Pt) (a : Nat) : selR xs a 0 = [] := rfl
theorem wantR_zero (xs : List Pt) : wantR xs 0 = [] := rfl
theorem selR_yes {xs : List Pt} {a i : Nat} (hi : i < xs.length) (h : rk xs i xs.length = a) : selR xs a (i + 1) = selR xs a i ++ [xs[i]] := by
  unfold selR
  rw [List.range_succ, List.filter_append, List.map_append, List.filter_cons_of_pos (by simpa using h)]
  simp [List.getD_eq_getElem?_getD, List.getElem?_eq_getElem hi]
theorem selR_no {xs : List Pt} {a i : Nat} (h : rk xs i xs.length ≠ a) : selR xs a (i + 1) = selR xs a i := by
  unfold selR
  rw [List.range_succ, List.filter_append, List.map_append, List.filter_cons_of_neg (by simpa using h)]
  simp
theorem wantR_succ (xs : List Pt) (a : Nat) : wantR xs (a + 1) = wantR xs a ++ selR xs a xs.length := by
  unfold wantR
  rw [List.range_succ, List.flatMap_append]
  simp
theorem filter_one : ∀ (n c : Nat), c < n → (List.range n).filter (fun j => decide (j = c)) = [c]
  | n + 1, c, h => by
    rw [List.range_succ, List.filter_append]
    by_cases hc : c < n
    · rw [filter_one n c hc, List.filter_cons_of_neg (by simp; omega)]
      simp
    · obtain rfl : c = n := by omega
      rw [List.filter_eq_nil_iff.2, List.filter_cons_of_pos (by simp)]
      · simp
      · intro j hj
        have := List.mem_range.1 hj
        simp
        omega
theorem selR_all {xs : List Pt} {zs : List Qt} (h : OrdOf xs zs) {a : Nat} (ha : a < zs.length) : selR xs a xs.length = [zs[a].1] := by
  obtain ⟨h1, h2, _⟩ := h.at_ ha
  unfold selR
  rw [List.filter_congr (q := fun j => decide (j = zs[a].2)), filter_one _ _ h1]
  · rw [List.map_cons, List.map_nil, List.getD_eq_getElem?_getD, List.getElem?_eq_getElem h1, Option.getD_some, h2]
  · intro j hj
    have hj' := List.mem_range.1 hj
    rw [decide_eq_decide]
    exact h.only ha hj'
theorem wantR_take {xs : List Pt} {zs : List Qt} (h : OrdOf xs zs) : ∀ a, a ≤ zs.length → wantR xs a = (zs.take a).map Prod.fst
  | 0, _ => rfl
  | a + 1, ha => by
    rw [wantR_succ, wantR_take h a (by omega), selR_all h (by omega), List.take_succ_eq_append_getElem (by omega), List.map_append]
    rfl
theorem wantR_ord {xs : List Pt} {zs : List Qt} (h : OrdOf xs zs) : wantR xs xs.length = zs.map Prod.fst := by
  rw [← h.length, wantR_take h _ (Nat.le_refl _), List.take_length]
end Go.Proofs.YtbmajajndckfoaaDoor
