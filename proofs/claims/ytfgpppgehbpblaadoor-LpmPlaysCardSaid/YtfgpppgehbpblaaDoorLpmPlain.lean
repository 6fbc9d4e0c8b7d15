/- Longest prefixes in plain words: which hop an address has, where a table is a hop (or -1) for each length and number of a prefix. No program stands in it. -/
import Derived.Test.YtfgpppgehbpblaaDoorCidrPlain
namespace Go.Proofs.YtfgpppgehbpblaaDoor.Lp
open Px
/-- The number of the prefix of k bits that an address begins with. -/
def pn (a k : Nat) : Nat := a / 2 ^ (16 - k)
theorem pn_zero {a : Nat} (h : a < 65536) : pn a 0 = 0 := by unfold pn; exact Nat.div_eq_of_lt (by simpa using h)
theorem pn_succ (a : Nat) {k : Nat} (h : k < 16) : pn a (k + 1) = 2 * pn a k + (a / 2 ^ (15 - k)) % 2 := by
  unfold pn
  have e1 : 16 - (k + 1) = 15 - k := by omega
  have e2 : 16 - k = (15 - k) + 1 := by omega
  rw [e1, e2, Nat.pow_succ, ← Nat.div_div_eq_div_mul]
  omega
theorem pn_lt {a k : Nat} (h : a < 65536) (hk : k ≤ 16) : pn a k < 2 ^ k := by
  unfold pn
  rw [Nat.div_lt_iff_lt_mul (pow_pos _), ← Nat.pow_add]
  have : k + (16 - k) = 16 := by omega
  rw [this]
  simpa using h
theorem pn_up {a b : Nat} {j k : Nat} (hjk : j ≤ k) (hk : k ≤ 16) (h : pn a k = pn b k) : pn a j = pn b j := by
  unfold pn at *
  exact div_up (by omega) h
theorem in_pn {p a k : Nat} (hal : p % 2 ^ (16 - k) = 0) : pn a k = pn p k ↔ p ≤ a ∧ a < p + 2 ^ (16 - k) := has_iff (p := (p, 16 - k)) hal a
theorem pn_inj {p q k : Nat} (hp : p % 2 ^ (16 - k) = 0) (hq : q % 2 ^ (16 - k) = 0) (h : pn p k = pn q k) : p = q := by
  have h1 := (in_pn hq).1 h
  have h2 := (in_pn hp).1 h.symm
  omega
/-- The longest prefix of fewer than n bits that has a hop: the hop, its length. -/
def best (h : Nat → Nat → Int) (a : Nat) : Nat → Int × Nat
  | 0 => (-1, 0)
  | n + 1 => if 0 ≤ h n (pn a n) then (h n (pn a n), n) else best h a n
theorem best_none {h : Nat → Nat → Int} {a : Nat} : ∀ {n : Nat}, (∀ j, j < n → h j (pn a j) < 0) → best h a n = (-1, 0)
  | 0, _ => rfl
  | n + 1, hn => by
    unfold best
    rw [if_neg (by have := hn n (by omega); omega)]
    exact best_none fun j hj => hn j (by omega)
theorem best_some {h : Nat → Nat → Int} {a l : Nat} (hl : 0 ≤ h l (pn a l)) : ∀ {n : Nat}, l < n → (∀ j, l < j → j < n → h j (pn a j) < 0) → best h a n = (h l (pn a l), l)
  | 0, hn, _ => by omega
  | n + 1, hn, hj => by
    unfold best
    by_cases e : l = n
    · subst e; rw [if_pos hl]
    · rw [if_neg (by have := hj n (by omega) (by omega); omega)]
      exact best_some hl (by omega) fun j h1 h2 => hj j h1 (by omega)
theorem best_cases (h : Nat → Nat → Int) (a : Nat) : ∀ n : Nat, (best h a n = (-1, 0) ∧ ∀ j, j < n → h j (pn a j) < 0) ∨ ∃ l, l < n ∧ 0 ≤ h l (pn a l) ∧ best h a n = (h l (pn a l), l) ∧ ∀ j, l < j → j < n → h j (pn a j) < 0
  | 0 => .inl ⟨rfl, fun j hj => by omega⟩
  | n + 1 => by
    unfold best
    by_cases e : 0 ≤ h n (pn a n)
    · rw [if_pos e]
      exact .inr ⟨n, by omega, e, rfl, fun j h1 h2 => by omega⟩
    · rw [if_neg e]
      rcases best_cases h a n with ⟨h1, h2⟩ | ⟨l, h1, h2, h3, h4⟩
      · exact .inl ⟨h1, fun j hj => by
          rcases Nat.lt_or_ge j n with h | h
          · exact h2 j h
          · obtain rfl : j = n := by omega
            omega⟩
      · exact .inr ⟨l, by omega, h2, h3, fun j h5 h6 => by
          rcases Nat.lt_or_ge j n with h | h
          · exact h4 j h5 h
          · obtain rfl : j = n := by omega
            omega⟩
theorem best_range (h : Nat → Nat → Int) (a n : Nat) : -1 ≤ (best h a n).1 ∧ (best h a n).2 ≤ n ∧ ((best h a n).1 < 0 → best h a n = (-1, 0)) := by
  rcases best_cases h a n with ⟨h1, _⟩ | ⟨l, h1, h2, h3, _⟩
  · rw [h1]; simp
  · rw [h3]; exact ⟨by simp only; omega, by simp only; omega, fun h => by simp only at h; omega⟩
theorem best_stop {h : Nat → Nat → Int} {a n : Nat} (hn : ∀ j, n ≤ j → j < 17 → h j (pn a j) < 0) (h17 : n ≤ 17) : best h a 17 = best h a n := by
  have : ∀ m, n + m ≤ 17 → best h a (n + m) = best h a n := by
    intro m
    induction m with
    | zero => intro _; rfl
    | succ m ih =>
      intro hm
      rw [← ih (by omega)]
      show best h a (n + m + 1) = _
      rw [best, if_neg (by have := hn (n + m) (by omega) (by omega); omega)]
  have := this (17 - n) (by omega)
  rwa [show n + (17 - n) = 17 from by omega] at this
def upd (h : Nat → Nat → Int) (k v : Nat) (z : Int) : Nat → Nat → Int := fun k' v' => if k' = k ∧ v' = v then z else h k' v'
theorem upd_at (h : Nat → Nat → Int) (k v : Nat) (z : Int) : upd h k v z k v = z := by unfold upd; rw [if_pos ⟨rfl, rfl⟩]
theorem upd_ne {h : Nat → Nat → Int} {k v k' v' : Nat} {z : Int} (hn : ¬ (k' = k ∧ v' = v)) : upd h k v z k' v' = h k' v' := by unfold upd; rw [if_neg hn]
theorem best_congr {h g : Nat → Nat → Int} {a : Nat} : ∀ {n : Nat}, (∀ j, j < n → h j (pn a j) = g j (pn a j)) → best h a n = best g a n
  | 0, _ => rfl
  | n + 1, hn => by
    unfold best
    rw [hn n (by omega), best_congr fun j hj => hn j (by omega)]
/-- What is set tells for its addresses, unless a longer one does. -/
theorem best_upd {h : Nat → Nat → Int} {a k v : Nat} {z : Int} (hk : k ≤ 16) (hz : 0 ≤ z) :
    (pn a k = v → ((best h a 17).1 < 0 ∨ (best h a 17).2 ≤ k) → best (upd h k v z) a 17 = (z, k)) ∧
    (¬ (pn a k = v ∧ ((best h a 17).1 < 0 ∨ (best h a 17).2 ≤ k)) → best (upd h k v z) a 17 = best h a 17) := by
  constructor
  · rintro rfl hl
    have e := upd_at h k (pn a k) z
    have := best_some (h := upd h k (pn a k) z) (a := a) (l := k) (by rw [e]; exact hz) (n := 17) (by omega) (fun j h1 h2 => by
      rw [upd_ne (by omega)]
      rcases best_cases h a 17 with ⟨h3, h4⟩ | ⟨l, h3, h4, h5, h6⟩
      · exact h4 j h2
      · rw [h5] at hl
        simp only at hl
        exact h6 j (by omega) h2)
    rwa [e] at this
  · intro hn
    by_cases hv : pn a k = v
    · subst hv
      rcases best_cases h a 17 with ⟨h3, h4⟩ | ⟨l, h3, h4, h5, h6⟩
      · exact absurd ⟨rfl, .inl (by rw [h3]; decide)⟩ hn
      · rw [h5] at hn ⊢
        simp only at hn
        have hkl : k < l := by
          rcases Nat.lt_or_ge k l with h | h
          · exact h
          · exact absurd ⟨trivial, .inr h⟩ hn
        have e := upd_ne (h := h) (k := k) (v := pn a k) (k' := l) (v' := pn a l) (z := z) (by omega)
        rw [← e]
        exact best_some (by rw [e]; exact h4) h3 fun j h1 h2 => by rw [upd_ne (by omega)]; exact h6 j h1 h2
    · exact best_congr fun j _ => upd_ne (by rintro ⟨rfl, h⟩; exact hv h)
end Go.Proofs.YtfgpppgehbpblaaDoor.Lp
