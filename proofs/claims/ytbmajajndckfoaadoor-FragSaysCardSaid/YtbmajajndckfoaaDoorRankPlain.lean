/- The place of a part in their order: how many others come ahead of it. No program stands in it. -/
import Derived.Test.YtbmajajndckfoaaDoorQSort
namespace Go.Proofs.YtbmajajndckfoaaDoor
def atI (xs : List Pt) (j : Nat) : Int := (xs.map Prod.fst).getD j 0
theorem atI_get {xs : List Pt} {j : Nat} (h : j < xs.length) : atI xs j = xs[j].1 := by
  unfold atI
  rw [List.getD_eq_getElem?_getD, List.getElem?_map, List.getElem?_eq_getElem h]
  rfl
/-- Does one come ahead of another one? -/
def ahB (xs : List Pt) (j i : Nat) : Bool := decide (atI xs j < atI xs i) || (decide (atI xs j = atI xs i) && decide (j < i))
/-- How many of the first k come ahead of i. -/
def rk (xs : List Pt) (i k : Nat) : Nat := (List.range k).countP fun j => ahB xs j i
theorem rk_zero (xs : List Pt) (i : Nat) : rk xs i 0 = 0 := rfl
theorem rk_le (xs : List Pt) (i k : Nat) : rk xs i k ≤ k := by
  unfold rk
  exact Nat.le_trans List.countP_le_length (by simp)
theorem rk_true {xs : List Pt} {i k : Nat} (h : ahB xs k i = true) : rk xs i (k + 1) = rk xs i k + 1 := by
  unfold rk
  rw [List.range_succ, List.countP_append, List.countP_singleton, if_pos h]
theorem rk_false {xs : List Pt} {i k : Nat} (h : ahB xs k i = false) : rk xs i (k + 1) = rk xs i k := by
  unfold rk
  rw [List.range_succ, List.countP_append, List.countP_singleton, if_neg (by rw [h]; simp), Nat.add_zero]
instance (x y : Qt) : Decidable (AheadQ x y) := by unfold AheadQ; infer_instance
theorem count_sorted : ∀ (zs : List Qt), zs.Pairwise AheadQ → ∀ t (ht : t < zs.length), zs.countP (fun q => decide (AheadQ q zs[t])) = t
  | z :: zs, hp, 0, _ => by
    rw [List.pairwise_cons] at hp
    rw [List.countP_cons]
    have h1 : zs.countP (fun q => decide (AheadQ q (z :: zs)[0])) = 0 := by
      rw [List.countP_eq_zero]
      intro q hq h
      have h2 := hp.1 q hq
      have h3 := of_decide_eq_true h
      simp only [List.getElem_cons_zero] at h3
      unfold AheadQ at h2 h3
      omega
    rw [h1, if_neg]
    simp only [List.getElem_cons_zero, decide_eq_true_iff]
    unfold AheadQ
    omega
  | z :: zs, hp, t + 1, ht => by
    rw [List.pairwise_cons] at hp
    have ht2 : t < zs.length := by simpa using ht
    rw [List.countP_cons]
    simp only [List.getElem_cons_succ]
    rw [count_sorted zs hp.2 t ht2, if_pos (decide_eq_true (hp.1 _ (List.getElem_mem ht2)))]
theorem rk_all {xs : List Pt} {z : Qt} (hz : z.2 < xs.length) (hx : xs[z.2] = z.1) : rk xs z.2 xs.length = xs.zipIdx.countP fun q => decide (AheadQ q z) := by
  have e1 : List.range xs.length = xs.zipIdx.map Prod.snd := by rw [List.zipIdx_map_snd, List.range_eq_range']
  unfold rk
  rw [e1, List.countP_map]
  refine List.countP_congr fun q hq => ?_
  obtain ⟨h1, h2⟩ := List.mem_zipIdx' hq
  have e2 : atI xs q.2 = q.1.1 := by rw [atI_get h1, ← h2]
  have e3 : atI xs z.2 = z.1.1 := by rw [atI_get hz, hx]
  simp only [Function.comp, ahB, e2, e3, Bool.or_eq_true, Bool.and_eq_true, decide_eq_true_iff]
  rfl
/-- Who stands at a place. -/
theorem OrdOf.at_ {xs : List Pt} {zs : List Qt} (h : OrdOf xs zs) {t : Nat} (ht : t < zs.length) : ∃ h1 : zs[t].2 < xs.length, xs[zs[t].2] = zs[t].1 ∧ rk xs zs[t].2 xs.length = t := by
  have hm : zs[t] ∈ xs.zipIdx := h.perm.mem_iff.1 (List.getElem_mem ht)
  obtain ⟨h1, h2⟩ := List.mem_zipIdx' hm
  refine ⟨h1, h2.symm, ?_⟩
  exact (rk_all (z := zs[t]) h1 h2.symm).trans ((h.perm.countP_eq _).symm.trans (count_sorted zs h.sorted t ht))
theorem OrdOf.only {xs : List Pt} {zs : List Qt} (h : OrdOf xs zs) {t i : Nat} (ht : t < zs.length) (hi : i < xs.length) : rk xs i xs.length = t ↔ i = zs[t].2 := by
  constructor
  · intro hr
    have hm : (xs[i], i) ∈ zs := h.perm.mem_iff.2 (by
      have := List.getElem_mem (l := xs.zipIdx) (n := i) (by simpa using hi)
      simpa using this)
    obtain ⟨t', ht', e⟩ := List.getElem_of_mem hm
    obtain ⟨h1, h2, h3⟩ := h.at_ ht'
    have e2 : zs[t'].2 = i := by rw [e]
    rw [e2, hr] at h3
    subst h3
    exact e2.symm
  · rintro rfl
    obtain ⟨_, _, h3⟩ := h.at_ ht
    exact h3
end Go.Proofs.YtbmajajndckfoaaDoor
