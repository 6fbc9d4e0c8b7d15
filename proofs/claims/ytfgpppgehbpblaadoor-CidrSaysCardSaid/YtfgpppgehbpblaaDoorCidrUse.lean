/- What the fewest prefixes are, in the form that the laws ask: one list for one set of addresses. Plain lists of pairs; no program. -/
import Derived.Test.YtfgpppgehbpblaaDoorPFew
import Derived.Test.YtfgpppgehbpblaaDoorCidrCount
import Derived.Test.YtfgpppgehbpblaaDoorCidrRef
namespace Go.Proofs.YtfgpppgehbpblaaDoor
open Px
theorem ofI_toI {p : Pf} (h : V p) : ofI (toI p) = p := by
  have := h.1
  unfold ofI toI
  ext
  · simp
  · simp only; omega
theorem sorted_le {xs : List (Int × Int)} (h : errP xs = 0) : (∀ p ∈ (sortP xs).map ofI, V p) ∧ ((sortP xs).map ofI).Pairwise Le := by
  have hall : ∀ x ∈ sortP xs, checkE x.1 x.2 = 0 := fun x hx => errP_all.1 h x ((sortP_mem xs x).1 hx)
  have hpv : ∀ p ∈ (sortP xs).map ofI, V p := by
    intro p hp
    obtain ⟨x, hx, rfl⟩ := List.mem_map.1 hp
    exact (ofI_v (hall x hx)).1
  refine ⟨hpv, ?_⟩
  rw [List.pairwise_map]
  refine (sortP_sorted xs).imp_of_mem fun {x y} hx hy h => ?_
  obtain ⟨⟨_, _, _⟩, ex⟩ := ofI_v (hall x hx)
  obtain ⟨⟨_, _, _⟩, ey⟩ := ofI_v (hall y hy)
  have e1 : x = toI (ofI x) := ex.symm
  have e2 : y = toI (ofI y) := ey.symm
  rw [e1, e2] at h
  unfold toI at h
  simp only at h
  unfold Le
  omega
theorem cover_perm {L M : List Pf} (h : ∀ p, p ∈ L ↔ p ∈ M) (x : Nat) : Cover L x ↔ Cover M x := by
  unfold Cover
  simp only [h]
theorem few_ok {xs : List (Int × Int)} (h : errP xs = 0) : ∃ L : List Pf, fewI xs = L.map toI ∧ Canon L ∧ (∀ x, Cover L x ↔ Cover (xs.map ofI) x) ∧ L.length ≤ xs.length := by
  obtain ⟨hv, hs⟩ := sorted_le h
  obtain ⟨h1, h2⟩ := fewS_ok hv hs
  refine ⟨fewS ((sortP xs).map ofI), rfl, h1, fun x => (h2 x).trans (cover_perm (fun p => ?_) x), ?_⟩
  · simp only [List.mem_map, sortP_mem]
  · have := stackOf_length _ ((sortP xs).map ofI) rfl
    rw [List.length_map, sortP_length] at this
    unfold fewS
    rw [List.length_reverse]
    exact this
theorem map_ofI_toI {L : List Pf} (h : ∀ p ∈ L, V p) : (L.map toI).map ofI = L := by
  rw [List.map_map]
  conv => rhs; rw [← List.map_id L]
  exact List.map_congr_left fun p hp => ofI_toI (h p hp)
theorem errP_toI {L : List Pf} (h : ∀ p ∈ L, V p) : errP (L.map toI) = 0 := by
  rw [errP_all]
  intro x hx
  obtain ⟨p, hp, rfl⟩ := List.mem_map.1 hx
  exact check_toI (h p hp)
theorem few_uniq {xs ys : List (Int × Int)} (hx : errP xs = 0) (hy : errP ys = 0) (h : ∀ a, Cover (xs.map ofI) a ↔ Cover (ys.map ofI) a) : fewI xs = fewI ys := by
  obtain ⟨L, e1, c1, v1, _⟩ := few_ok hx
  obtain ⟨M, e2, c2, v2, _⟩ := few_ok hy
  rw [e1, e2, canon_unique c1 c2 (fun x => by rw [v1, v2, h])]
theorem few_valid {xs : List (Int × Int)} (h : errP xs = 0) : errP (fewI xs) = 0 ∧ (fewI xs).length ≤ xs.length ∧ (∀ a, Cover ((fewI xs).map ofI) a ↔ Cover (xs.map ofI) a) := by
  obtain ⟨L, e1, c1, v1, l1⟩ := few_ok h
  rw [e1]
  refine ⟨errP_toI c1.v, by simpa using l1, fun a => ?_⟩
  rw [map_ofI_toI c1.v, v1]
theorem few_few {xs : List (Int × Int)} (h : errP xs = 0) : fewI (fewI xs) = fewI xs := by
  obtain ⟨h1, _, h3⟩ := few_valid h
  exact few_uniq h1 h h3
theorem few_reverse {xs : List (Int × Int)} (h : errP xs = 0) : errP xs.reverse = 0 ∧ fewI xs.reverse = fewI xs := by
  have h1 : errP xs.reverse = 0 := by rw [errP_all] at h ⊢; intro x hx; exact h x (by simpa using hx)
  exact ⟨h1, few_uniq h1 h (cover_perm (fun p => by simp))⟩
theorem cover_append {L M : List Pf} (x : Nat) : Cover (L ++ M) x ↔ Cover L x ∨ Cover M x := by
  unfold Cover
  simp only [List.mem_append, or_and_right, exists_or]
theorem few_more {xs : List (Int × Int)} (h : errP xs = 0) {z : Int × Int} (hz : z ∈ xs) : errP (fewI xs ++ [z]) = 0 ∧ fewI (fewI xs ++ [z]) = fewI xs := by
  obtain ⟨h1, _, h3⟩ := few_valid h
  have h4 : errP (fewI xs ++ [z]) = 0 := by
    rw [errP_all] at h h1 ⊢
    intro x hx
    rw [List.mem_append, List.mem_singleton] at hx
    rcases hx with hx | rfl
    · exact h1 x hx
    · exact h x hz
  refine ⟨h4, few_uniq h4 h fun a => ?_⟩
  rw [List.map_append, cover_append, h3]
  constructor
  · rintro (hc | hc)
    · exact hc
    · obtain ⟨p, hp, hx⟩ := hc
      simp only [List.map_cons, List.map_nil, List.mem_singleton] at hp
      subst hp
      exact ⟨_, List.mem_map_of_mem hz, hx⟩
  · exact .inl
/-- How many addresses they have. -/
def manyI (xs : List (Int × Int)) : Int := ((fewI xs).map fun x => szI x.2).sum
theorem many_total {xs : List (Int × Int)} (h : errP xs = 0) : ∃ L : List Pf, manyI xs = (total L : Int) ∧ Canon L ∧ (∀ x, Cover L x ↔ Cover (xs.map ofI) x) := by
  obtain ⟨L, e1, c1, v1, l1⟩ := few_ok h
  refine ⟨L, ?_, c1, v1⟩
  unfold manyI total
  rw [e1, List.map_map]
  have : ∀ M : List Pf, (∀ p ∈ M, V p) → ((M.map ((fun x => szI x.2) ∘ toI)).sum : Int) = ((M.map fun p => 2 ^ p.2).sum : Nat) := by
    intro M hM
    induction M with
    | nil => rfl
    | cons p t ih =>
      simp only [List.map_cons, List.sum_cons]
      rw [ih (fun q hq => hM q (by simp [hq]))]
      simp only [Function.comp_apply]
      rw [szI_toI (hM p (by simp)).1]
      push_cast
      rfl
  exact this L c1.v
theorem many_le {xs : List (Int × Int)} (h : errP xs = 0) : 0 ≤ manyI xs ∧ manyI xs ≤ 65536 := by
  obtain ⟨L, e, c, _⟩ := many_total h
  have := (total_join c c c (fun x => by simp)).2.2.2
  rw [e]
  omega
theorem many_join {xs ys : List (Int × Int)} (hx : errP xs = 0) (hy : errP ys = 0) : errP (xs ++ ys) = 0 ∧ manyI (xs ++ ys) ≤ manyI xs + manyI ys ∧ manyI xs ≤ manyI (xs ++ ys) ∧ manyI ys ≤ manyI (xs ++ ys) ∧ manyI (xs ++ ys) ≤ 65536 := by
  have h : errP (xs ++ ys) = 0 := by
    rw [errP_all] at hx hy ⊢
    intro x hm
    rcases List.mem_append.1 hm with hm | hm
    · exact hx x hm
    · exact hy x hm
  obtain ⟨L, e1, c1, v1⟩ := many_total hx
  obtain ⟨M, e2, c2, v2⟩ := many_total hy
  obtain ⟨B, e3, c3, v3⟩ := many_total h
  have := total_join c1 c2 c3 (fun x => by rw [v3, v1, v2, List.map_append, cover_append])
  rw [e1, e2, e3]
  omega
/-- What is the one list is made no fewer. -/
theorem few_canon {L : List Pf} (h : Canon L) : fewI (L.map toI) = L.map toI := by
  obtain ⟨M, e, c, v, _⟩ := few_ok (errP_toI h.v)
  rw [e]
  congr 1
  refine canon_unique c h fun x => ?_
  rw [v, map_ofI_toI h.v]
theorem few_halves {a k : Nat} (h : V (a, k + 1)) : errP [toI (a + 2 ^ k, k), toI (a, k)] = 0 ∧ fewI [toI (a + 2 ^ k, k), toI (a, k)] = [toI (a, k + 1)] := by
  obtain ⟨h1, h2⟩ := half_v h
  have hv : ∀ p ∈ [(a + 2 ^ k, k), (a, k)], V p := by
    intro p hp
    simp only [List.mem_cons, List.not_mem_nil, or_false] at hp
    rcases hp with rfl | rfl
    · exact h2
    · exact h1
  have e1 : errP ([(a + 2 ^ k, k), (a, k)].map toI) = 0 := errP_toI hv
  have e2 : errP ([((a, k + 1) : Pf)].map toI) = 0 := errP_toI (by intro p hp; rw [List.mem_singleton.1 hp]; exact h)
  refine ⟨e1, ?_⟩
  have h3 : fewI ([(a + 2 ^ k, k), (a, k)].map toI) = fewI ([((a, k + 1) : Pf)].map toI) := by
    refine few_uniq e1 e2 fun x => ?_
    rw [map_ofI_toI hv, map_ofI_toI (by intro p hp; rw [List.mem_singleton.1 hp]; exact h)]
    have := half_has h.2.1 x
    unfold Cover
    simp only [List.mem_cons, List.not_mem_nil, or_false, exists_eq_or_imp, exists_eq_left]
    rw [this]
    exact Or.comm
  rw [few_canon (canon_one h)] at h3
  exact h3
theorem fact_few : errP [(1, 16), (0, 16)] = 0 ∧ fewI [(1, 16), (0, 16)] = [(0, 15)] := few_halves (a := 0) (k := 0) ⟨by decide, by decide, by decide⟩
theorem fact_many : errP [(0, 15)] = 0 ∧ manyI [(0, 15)] = 2 := by
  have hv : V (0, 1) := ⟨by decide, by decide, by decide⟩
  have h := few_canon (canon_one hv)
  refine ⟨errP_toI (L := [(0, 1)]) (by intro p hp; rw [List.mem_singleton.1 hp]; exact hv), ?_⟩
  unfold manyI
  have e : ([((0, 1) : Pf)].map toI) = [((0, 15) : Int × Int)] := rfl
  rw [e] at h
  rw [h]
  decide
end Go.Proofs.YtfgpppgehbpblaaDoor
