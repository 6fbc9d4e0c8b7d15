/- The routes of a table in their order, in plain words: by address, then by length. No program stands in it. -/
import Derived.Test.YtfgpppgehbpblaaDoorLpmPlain
namespace Go.Proofs.YtfgpppgehbpblaaDoor.Lp
open Px
abbrev Rt := Int × Int × Int
/-- One comes ahead of another one. -/
def LtR (x y : Rt) : Prop := x.1 < y.1 ∨ (x.1 = y.1 ∧ x.2.1 < y.2.1)
instance (x y : Rt) : Decidable (LtR x y) := by unfold LtR; infer_instance
/-- The route of a place of the tree. -/
def rt (h : Nat → Nat → Int) (k v : Nat) : Rt := (((v * 2 ^ (16 - k) : Nat) : Int), (k : Int), h k v)
def oneR (h : Nat → Nat → Int) (k v : Nat) : List Rt := if 0 ≤ h k v then [rt h k v] else []
/-- The routes at a place and below it, n levels deep. -/
def preR (h : Nat → Nat → Int) : Nat → Nat → Nat → List Rt
  | 0, k, v => oneR h k v
  | n + 1, k, v => oneR h k v ++ preR h n (k + 1) (2 * v) ++ preR h n (k + 1) (2 * v + 1)
def routesL (h : Nat → Nat → Int) : List Rt := preR h 16 0 0
theorem oneR_mem {h : Nat → Nat → Int} {k v : Nat} {x : Rt} : x ∈ oneR h k v ↔ 0 ≤ h k v ∧ x = rt h k v := by
  unfold oneR
  split
  · simp; intro _; assumption
  · simp; intro h1; omega
theorem preR_mem (h : Nat → Nat → Int) : ∀ (n k v : Nat) (x : Rt), x ∈ preR h n k v ↔ ∃ j, j ≤ n ∧ ∃ u, u / 2 ^ j = v ∧ 0 ≤ h (k + j) u ∧ x = rt h (k + j) u
  | 0, k, v, x => by
    rw [preR, oneR_mem]
    constructor
    · rintro ⟨h1, h2⟩; exact ⟨0, Nat.le_refl _, v, by simp, h1, h2⟩
    · rintro ⟨j, hj, u, hu, h1, h2⟩
      obtain rfl : j = 0 := by omega
      have : u = v := by simpa using hu
      subst this
      exact ⟨h1, h2⟩
  | n + 1, k, v, x => by
    rw [preR, List.mem_append, List.mem_append, oneR_mem, preR_mem h n, preR_mem h n]
    constructor
    · rintro ((⟨h1, h2⟩ | ⟨j, hj, u, hu, h1, h2⟩) | ⟨j, hj, u, hu, h1, h2⟩)
      · exact ⟨0, by omega, v, by simp, h1, h2⟩
      · refine ⟨j + 1, by omega, u, ?_, by rwa [show k + (j + 1) = k + 1 + j from by omega], by rwa [show k + (j + 1) = k + 1 + j from by omega]⟩
        rw [Nat.pow_succ, ← Nat.div_div_eq_div_mul, hu]; omega
      · refine ⟨j + 1, by omega, u, ?_, by rwa [show k + (j + 1) = k + 1 + j from by omega], by rwa [show k + (j + 1) = k + 1 + j from by omega]⟩
        rw [Nat.pow_succ, ← Nat.div_div_eq_div_mul, hu]; omega
    · rintro ⟨j, hj, u, hu, h1, h2⟩
      cases j with
      | zero =>
        have : u = v := by simpa using hu
        subst this
        exact .inl (.inl ⟨h1, h2⟩)
      | succ j =>
        rw [Nat.pow_succ, ← Nat.div_div_eq_div_mul] at hu
        have e : k + 1 + j = k + (j + 1) := by omega
        have hor : u / 2 ^ j = 2 * v ∨ u / 2 ^ j = 2 * v + 1 := by omega
        rcases hor with h3 | h3
        · exact .inl (.inr ⟨j, by omega, u, h3, by rwa [e], by rwa [e]⟩)
        · exact .inr ⟨j, by omega, u, h3, by rwa [e], by rwa [e]⟩
theorem routes_mem {h : Nat → Nat → Int} {x : Rt} : x ∈ routesL h ↔ ∃ k, k ≤ 16 ∧ ∃ u, u < 2 ^ k ∧ 0 ≤ h k u ∧ x = rt h k u := by
  unfold routesL
  rw [preR_mem]
  constructor
  · rintro ⟨j, hj, u, hu, h1, h2⟩
    rw [Nat.zero_add] at h1 h2
    exact ⟨j, hj, u, (Nat.div_eq_zero_iff_lt (pow_pos j)).1 hu, h1, h2⟩
  · rintro ⟨j, hj, u, hu, h1, h2⟩
    exact ⟨j, hj, u, Nat.div_eq_of_lt hu, by rwa [Nat.zero_add], by rwa [Nat.zero_add]⟩
theorem preR_sorted (h : Nat → Nat → Int) : ∀ (n k v : Nat), n + k = 16 → (preR h n k v).Pairwise LtR ∧ ∀ x ∈ preR h n k v, ((v * 2 ^ n : Nat) : Int) ≤ x.1 ∧ x.1 < (((v + 1) * 2 ^ n : Nat) : Int) ∧ (k : Int) ≤ x.2.1
  | 0, k, v, hk => by
    have e : 16 - k = 0 := by omega
    unfold preR oneR rt
    rw [e]
    split
    · simp; omega
    · simp
  | n + 1, k, v, hk => by
    obtain ⟨s1, b1⟩ := preR_sorted h n (k + 1) (2 * v) (by omega)
    obtain ⟨s2, b2⟩ := preR_sorted h n (k + 1) (2 * v + 1) (by omega)
    have e : 16 - k = n + 1 := by omega
    have p0 := pow_pos n
    have e1 : v * 2 ^ (n + 1) = 2 * v * 2 ^ n := by rw [Nat.pow_succ, Nat.mul_comm (2 ^ n) 2, ← Nat.mul_assoc, Nat.mul_comm v 2]
    have e2 : (v + 1) * 2 ^ (n + 1) = (2 * v + 1 + 1) * 2 ^ n := by rw [Nat.pow_succ, Nat.mul_comm (2 ^ n) 2, ← Nat.mul_assoc]; congr 1; omega
    have e3 : (2 * v + 1) * 2 ^ n = 2 * v * 2 ^ n + 2 ^ n := by rw [Nat.add_mul, Nat.one_mul]
    have e4 : (2 * v + 1 + 1) * 2 ^ n = 2 * v * 2 ^ n + 2 ^ n + 2 ^ n := by rw [Nat.add_mul, Nat.one_mul, e3]
    have hone : ∀ x ∈ oneR h k v, x.1 = ((v * 2 ^ (n + 1) : Nat) : Int) ∧ x.2.1 = (k : Int) := by
      intro x hx
      obtain ⟨_, rfl⟩ := oneR_mem.1 hx
      unfold rt
      rw [e]
      exact ⟨rfl, rfl⟩
    rw [e3] at b1 b2
    rw [e4] at b2
    rw [preR, e2, e1, e4]
    refine ⟨?_, ?_⟩
    · refine List.pairwise_append.2 ⟨List.pairwise_append.2 ⟨?_, s1, ?_⟩, s2, ?_⟩
      · unfold oneR; split <;> simp
      · intro x hx y hy
        obtain ⟨a1, a2⟩ := hone x hx
        obtain ⟨c1, c2, c3⟩ := b1 y hy
        rw [e1] at a1
        unfold LtR
        omega
      · intro x hx y hy
        obtain ⟨d1, d2, d3⟩ := b2 y hy
        rcases List.mem_append.1 hx with hx | hx
        · obtain ⟨a1, a2⟩ := hone x hx
          rw [e1] at a1
          unfold LtR
          omega
        · obtain ⟨c1, c2, c3⟩ := b1 x hx
          unfold LtR
          omega
    · intro x hx
      rcases List.mem_append.1 hx with hx | hx
      · rcases List.mem_append.1 hx with hx | hx
        · obtain ⟨a1, a2⟩ := hone x hx
          rw [e1] at a1
          omega
        · obtain ⟨c1, c2, c3⟩ := b1 x hx
          omega
      · obtain ⟨d1, d2, d3⟩ := b2 x hx
        omega
theorem routes_sorted (h : Nat → Nat → Int) : (routesL h).Pairwise LtR := (preR_sorted h 16 0 0 rfl).1
theorem LtR.irr {x : Rt} (h : LtR x x) : False := by unfold LtR at h; omega
theorem LtR.asym {x y : Rt} (h : LtR x y) (k : LtR y x) : False := by unfold LtR at *; omega
theorem sorted_unique : ∀ {L M : List Rt}, L.Pairwise LtR → M.Pairwise LtR → (∀ x, x ∈ L ↔ x ∈ M) → L = M
  | [], [], _, _, _ => rfl
  | [], y :: M, _, _, h => absurd ((h y).2 (by simp)) (by simp)
  | x :: L, [], _, _, h => absurd ((h x).1 (by simp)) (by simp)
  | x :: L, y :: M, hL, hM, h => by
    rw [List.pairwise_cons] at hL hM
    have e : x = y := by
      rcases List.mem_cons.1 ((h x).1 (by simp)) with e | hx
      · exact e
      · rcases List.mem_cons.1 ((h y).2 (by simp)) with e | hy
        · exact e.symm
        · exact ((hM.1 x hx).asym (hL.1 y hy)).elim
    subst e
    congr 1
    refine sorted_unique hL.2 hM.2 fun z => ?_
    constructor
    · intro hz
      rcases List.mem_cons.1 ((h z).1 (List.mem_cons_of_mem _ hz)) with e | h1
      · subst e; exact (hL.1 z hz).irr.elim
      · exact h1
    · intro hz
      rcases List.mem_cons.1 ((h z).2 (List.mem_cons_of_mem _ hz)) with e | h1
      · subst e; exact (hM.1 z hz).irr.elim
      · exact h1
/-- What comes ahead of a prefix, and what comes behind it. -/
def ltF (L : List Rt) (a l : Int) : List Rt := L.filter fun x => decide (LtR x (a, l, 0))
def gtF (L : List Rt) (a l : Int) : List Rt := L.filter fun x => decide (LtR (a, l, 0) x)
theorem rt_key {h g : Nat → Nat → Int} {k v k' v' : Nat} (h1 : (rt h k v).1 = (rt g k' v').1) (h2 : (rt h k v).2.1 = (rt g k' v').2.1) : k = k' ∧ v = v' := by
  unfold rt at h1 h2
  simp only at h1 h2
  obtain rfl : k = k' := by omega
  refine ⟨rfl, ?_⟩
  have : v * 2 ^ (16 - k) = v' * 2 ^ (16 - k) := by omega
  exact Nat.eq_of_mul_eq_mul_right (pow_pos _) this
theorem LtR.tri (x : Rt) (a l : Int) : LtR x (a, l, 0) ∨ (x.1 = a ∧ x.2.1 = l) ∨ LtR (a, l, 0) x := by
  unfold LtR
  simp only
  omega
/-- The routes, split at a place. -/
theorem routes_split (h : Nat → Nat → Int) {k v : Nat} (hk : k ≤ 16) (hv : v < 2 ^ k) :
    routesL h = ltF (routesL h) (rt h k v).1 k ++ oneR h k v ++ gtF (routesL h) (rt h k v).1 k := by
  refine sorted_unique (routes_sorted h) ?_ ?_
  · refine List.pairwise_append.2 ⟨List.pairwise_append.2 ⟨(routes_sorted h).filter _, ?_, ?_⟩, (routes_sorted h).filter _, ?_⟩
    · unfold oneR; split <;> simp
    · intro x hx y hy
      obtain ⟨_, rfl⟩ := oneR_mem.1 hy
      unfold ltF at hx
      simp only [List.mem_filter, decide_eq_true_iff] at hx
      have := hx.2
      unfold LtR rt at *
      simpa using this
    · intro x hx y hy
      unfold gtF at hy
      simp only [List.mem_filter, decide_eq_true_iff] at hy
      have h2 := hy.2
      rcases List.mem_append.1 hx with hx | hx
      · unfold ltF at hx
        simp only [List.mem_filter, decide_eq_true_iff] at hx
        have h1 := hx.2
        unfold LtR at *
        simp only at *
        omega
      · obtain ⟨_, rfl⟩ := oneR_mem.1 hx
        unfold LtR rt at *
        simpa using h2
  · intro x
    rw [List.mem_append, List.mem_append, oneR_mem]
    unfold ltF gtF
    simp only [List.mem_filter, decide_eq_true_iff]
    constructor
    · intro hx
      rcases LtR.tri x (rt h k v).1 k with h1 | ⟨h1, h2⟩ | h1
      · exact .inl (.inl ⟨hx, h1⟩)
      · obtain ⟨k', hk', u, hu, h3, rfl⟩ := routes_mem.1 hx
        obtain ⟨rfl, rfl⟩ := rt_key (h := h) (g := h) (k := k') (v := u) (k' := k) (v' := v) h1 h2
        exact .inl (.inr ⟨h3, rfl⟩)
      · exact .inr ⟨hx, h1⟩
    · rintro ((⟨h1, _⟩ | ⟨h1, h2⟩) | ⟨h1, _⟩)
      · exact h1
      · exact routes_mem.2 ⟨k, hk, v, hv, h1, h2⟩
      · exact h1
/-- Setting a place leaves the others. -/
theorem ltF_upd (h : Nat → Nat → Int) {k v : Nat} (z : Int) : ltF (routesL (upd h k v z)) (rt h k v).1 k = ltF (routesL h) (rt h k v).1 k ∧ gtF (routesL (upd h k v z)) (rt h k v).1 k = gtF (routesL h) (rt h k v).1 k := by
  have hm : ∀ x : Rt, (LtR x ((rt h k v).1, (k : Int), 0) ∨ LtR ((rt h k v).1, (k : Int), 0) x) → (x ∈ routesL (upd h k v z) ↔ x ∈ routesL h) := by
    intro x hx
    have hne : ∀ k' u, x.1 = (rt h k' u).1 → x.2.1 = (rt h k' u).2.1 → ¬ (k' = k ∧ u = v) := by
      rintro k' u e1 e2 ⟨rfl, rfl⟩
      have e3 : (rt h k' u).2.1 = (k' : Int) := rfl
      unfold LtR at hx
      simp only at hx
      omega
    rw [routes_mem, routes_mem]
    constructor
    · rintro ⟨k', hk', u, hu, h1, rfl⟩
      have hn := hne k' u rfl rfl
      rw [upd_ne hn] at h1
      exact ⟨k', hk', u, hu, h1, by unfold rt; rw [upd_ne hn]⟩
    · rintro ⟨k', hk', u, hu, h1, rfl⟩
      have hn := hne k' u rfl rfl
      exact ⟨k', hk', u, hu, by rwa [upd_ne hn], by unfold rt; rw [upd_ne hn]⟩
  constructor
  · refine sorted_unique ((routes_sorted _).filter _) ((routes_sorted _).filter _) fun x => ?_
    unfold ltF
    simp only [List.mem_filter, decide_eq_true_iff]
    exact ⟨fun ⟨h1, h2⟩ => ⟨(hm x (.inl h2)).1 h1, h2⟩, fun ⟨h1, h2⟩ => ⟨(hm x (.inl h2)).2 h1, h2⟩⟩
  · refine sorted_unique ((routes_sorted _).filter _) ((routes_sorted _).filter _) fun x => ?_
    unfold gtF
    simp only [List.mem_filter, decide_eq_true_iff]
    exact ⟨fun ⟨h1, h2⟩ => ⟨(hm x (.inr h2)).1 h1, h2⟩, fun ⟨h1, h2⟩ => ⟨(hm x (.inr h2)).2 h1, h2⟩⟩
/-- What is set stands in its place. -/
theorem routes_upd (h : Nat → Nat → Int) {k v : Nat} (z : Int) (hk : k ≤ 16) (hv : v < 2 ^ k) :
    routesL (upd h k v z) = ltF (routesL h) (rt h k v).1 k ++ (if 0 ≤ z then [((rt h k v).1, (k : Int), z)] else []) ++ gtF (routesL h) (rt h k v).1 k := by
  have h1 := routes_split (upd h k v z) hk hv
  have e : (rt (upd h k v z) k v).1 = (rt h k v).1 := rfl
  obtain ⟨e1, e2⟩ := ltF_upd h (k := k) (v := v) z
  rw [e, e1, e2] at h1
  rw [h1]
  congr 2
  unfold oneR rt
  rw [upd_at]
theorem routes_len (h : Nat → Nat → Int) {k v : Nat} (z : Int) (hk : k ≤ 16) (hv : v < 2 ^ k) :
    (routesL (upd h k v z)).length + (if 0 ≤ h k v then 1 else 0) = (routesL h).length + (if 0 ≤ z then 1 else 0) := by
  rw [routes_upd h z hk hv]
  conv => rhs; rw [routes_split h hk hv]
  simp only [List.length_append]
  unfold oneR
  split <;> split <;> simp <;> omega
/-- A place that had no route has none again. -/
theorem upd_back (h : Nat → Nat → Int) {k v : Nat} {z : Int} (hn : h k v = -1) : upd (upd h k v z) k v (-1) = h := by
  funext k' v'
  unfold upd
  split
  · rename_i e; rw [e.1, e.2, hn]
  · rfl
theorem routes_none (h : Nat → Nat → Int) (n k v : Nat) (hn : ∀ j, j ≤ n → ∀ u, u / 2 ^ j = v → h (k + j) u < 0) : preR h n k v = [] := by
  rw [List.eq_nil_iff_forall_not_mem]
  intro x hx
  obtain ⟨j, hj, u, hu, h1, _⟩ := (preR_mem h n k v x).1 hx
  have := hn j hj u hu
  omega
end Go.Proofs.YtfgpppgehbpblaaDoor.Lp
