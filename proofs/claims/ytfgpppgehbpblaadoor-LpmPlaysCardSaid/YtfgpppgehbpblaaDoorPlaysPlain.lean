/- What the document's table does to its list, and that it is what the program's table does to its tree: in plain words. -/
import Derived.Test.YtfgpppgehbpblaaDoorLpmDropLaw
namespace Go.Proofs.YtfgpppgehbpblaaDoor
open Go.RowKit Lp
def setL (xs : List Rt) (a l z : Int) : List Rt := ltF xs a l ++ [(a, l, z)] ++ gtF xs a l
def dropL (xs : List Rt) (a l : Int) : List Rt := ltF xs a l ++ gtF xs a l
def setR (xs : List Rt) (a l z : Int) : Int := if checkE a l ≠ 0 then checkE a l else if inB z 0 9 = false then 1 else if hadB xs a l = false ∧ 32 ≤ xs.length then 4 else 0
def dropR (xs : List Rt) (a l : Int) : Int := if checkE a l ≠ 0 then checkE a l else if hadB xs a l = true then 0 else 5
theorem check_nat {a l : Int} (hc : checkE a l = 0) : ∃ A L : Nat, a = (A : Int) ∧ l = (L : Int) ∧ A < 65536 ∧ L ≤ 16 ∧ pn A L < 2 ^ L ∧ ∀ h : Hops, (rt h L (pn A L)).1 = (A : Int) := by
  obtain ⟨a0, a1, l0, l1, hm⟩ := checkE_ok hc
  obtain ⟨A, rfl⟩ := Int.eq_ofNat_of_zero_le a0
  obtain ⟨L, rfl⟩ := Int.eq_ofNat_of_zero_le l0
  refine ⟨A, L, rfl, rfl, by omega, by omega, pn_lt (by omega) (by omega), fun h => ?_⟩
  have hz : szI (L : Int) = ((2 ^ (16 - L) : Nat) : Int) := rfl
  rw [hz] at hm
  have hal : A % 2 ^ (16 - L) = 0 := by
    have : ((A % 2 ^ (16 - L) : Nat) : Int) = 0 := by rw [← hm]; simp
    omega
  show ((pn A L * 2 ^ (16 - L) : Nat) : Int) = (A : Int)
  have e := Nat.div_add_mod A (2 ^ (16 - L))
  rw [hal, Nat.add_zero, Nat.mul_comm] at e
  unfold pn
  rw [e]
/-- The program's table holds h, and so many routes. -/
structure Same (h : Hops) (many : Int) (xs : List Rt) : Prop where
  list : routesL h = xs
  many : many = (xs.length : Int)
  few : xs.length ≤ 32
theorem Same.sorted {h : Hops} {many : Int} {xs : List Rt} (s : Same h many xs) : xs.Pairwise LtR := by rw [← s.list]; exact routes_sorted h
theorem Same.setE {h : Hops} {many : Int} {xs : List Rt} (s : Same h many xs) (a l z : Int) : setE h many a l z = setR xs a l z := by
  unfold Go.Proofs.YtfgpppgehbpblaaDoor.setE setR
  by_cases hc : checkE a l = 0
  · rw [if_neg (show ¬ checkE a l ≠ 0 from fun h0 => h0 hc), if_neg (show ¬ checkE a l ≠ 0 from fun h0 => h0 hc)]
    obtain ⟨A, L, rfl, rfl, _, _, _, _⟩ := check_nat hc
    have hi := hadB_iff (h := h) hc
    rw [s.list] at hi
    have hm := s.many
    have hf := s.few
    rcases hz : inB z 0 9 with _ | _
    · rfl
    · rw [if_neg (show ¬ true = false from by simp), if_neg (show ¬ true = false from by simp)]
      show (if h L (pn A L) < 0 ∧ many = 32 then (4 : Int) else 0) = _
      rcases hh : hadB xs A L with _ | _
      · have h1 : ¬ 0 ≤ h L (pn A L) := fun h0 => by have := hi.2 h0; rw [hh] at this; cases this
        by_cases h2 : many = 32
        · rw [if_pos ⟨by omega, h2⟩, if_pos ⟨rfl, by omega⟩]
        · rw [if_neg (fun h3 => h2 h3.2), if_neg (fun h3 => by omega)]
      · have h1 := hi.1 hh
        rw [if_neg (fun h3 => by omega), if_neg (fun h3 => by cases h3.1)]
  · rw [if_pos hc, if_pos hc]
theorem Same.dropE {h : Hops} {many : Int} {xs : List Rt} (s : Same h many xs) (a l : Int) : dropE h a l = dropR xs a l := by
  unfold Go.Proofs.YtfgpppgehbpblaaDoor.dropE dropR
  by_cases hc : checkE a l = 0
  · rw [if_neg (show ¬ checkE a l ≠ 0 from fun h0 => h0 hc), if_neg (show ¬ checkE a l ≠ 0 from fun h0 => h0 hc)]
    obtain ⟨A, L, rfl, rfl, _, _, _, _⟩ := check_nat hc
    have hi := hadB_iff (h := h) hc
    rw [s.list] at hi
    show (if h L (pn A L) < 0 then (5 : Int) else 0) = _
    rcases hh : hadB xs A L with _ | _
    · have h1 : ¬ 0 ≤ h L (pn A L) := fun h0 => by have := hi.2 h0; rw [hh] at this; cases this
      rw [if_pos (by omega), if_neg (by simp)]
    · have h1 := hi.1 hh
      rw [if_neg (by omega), if_pos rfl]
  · rw [if_pos hc, if_pos hc]
theorem setR_ok {xs : List Rt} {a l z : Int} (h : setR xs a l z = 0) : checkE a l = 0 ∧ inB z 0 9 = true ∧ ¬ (hadB xs a l = false ∧ 32 ≤ xs.length) := by
  unfold setR at h
  by_cases hc : checkE a l = 0
  · rw [if_neg (by simpa using hc)] at h
    refine ⟨hc, ?_⟩
    rcases hz : inB z 0 9 with _ | _
    · rw [if_pos hz] at h; cases h
    · rw [if_neg (by rw [hz]; simp)] at h
      refine ⟨rfl, fun h2 => ?_⟩
      rw [if_pos h2] at h
      cases h
  · rw [if_pos hc] at h; exact absurd h hc
theorem dropR_ok {xs : List Rt} {a l : Int} (h : dropR xs a l = 0) : checkE a l = 0 ∧ hadB xs a l = true := by
  unfold dropR at h
  by_cases hc : checkE a l = 0
  · rw [if_neg (by simpa using hc)] at h
    refine ⟨hc, ?_⟩
    rcases hz : hadB xs a l with _ | _
    · rw [if_neg (by rw [hz]; simp)] at h; cases h
    · rfl
  · rw [if_pos hc] at h; exact absurd h hc
theorem Same.set {h : Hops} {many : Int} {xs : List Rt} (s : Same h many xs) {a l z : Int} (hE : setR xs a l z = 0) :
    Same (upd h l.toNat (pn a.toNat l.toNat) z) (if h l.toNat (pn a.toNat l.toNat) < 0 then many + 1 else many) (setL xs a l z) := by
  obtain ⟨hc, hz, hf⟩ := setR_ok hE
  obtain ⟨hz0, _⟩ := inB_true.1 hz
  obtain ⟨A, L, rfl, rfl, hA, hL, hp, hr⟩ := check_nat hc
  have hi := hadB_iff (h := h) hc
  rw [s.list] at hi
  have hu := routes_upd h (k := L) (v := pn A L) z hL hp
  rw [hr h, if_pos hz0, s.list] at hu
  have hl := routes_len h (k := L) (v := pn A L) z hL hp
  rw [hu, if_pos hz0, s.list] at hl
  have hm := s.many
  have hw := s.few
  show Same (upd h L (pn A L) z) (if h L (pn A L) < 0 then many + 1 else many) (setL xs A L z)
  have hset : setL xs A L z = ltF xs A L ++ [((A : Int), (L : Int), z)] ++ gtF xs A L := rfl
  by_cases h0 : 0 ≤ h L (pn A L)
  · rw [if_pos h0] at hl
    rw [if_neg (by omega)]
    exact ⟨hu, by rw [hset]; omega, by rw [hset]; omega⟩
  · have hh : hadB xs A L = false := by
      rcases hb : hadB xs A L with _ | _
      · rfl
      · exact absurd (hi.1 hb) h0
    rw [if_neg h0] at hl
    rw [if_pos (by omega)]
    exact ⟨hu, by rw [hset]; omega, by
      have : ¬ 32 ≤ xs.length := fun h2 => hf ⟨hh, h2⟩
      rw [hset]; omega⟩
theorem Same.drop {h : Hops} {many : Int} {xs : List Rt} (s : Same h many xs) {a l : Int} (hE : dropR xs a l = 0) :
    Same (upd h l.toNat (pn a.toNat l.toNat) (-1)) (many - 1) (dropL xs a l) := by
  obtain ⟨hc, hh⟩ := dropR_ok hE
  obtain ⟨A, L, rfl, rfl, hA, hL, hp, hr⟩ := check_nat hc
  have hi := hadB_iff (h := h) hc
  rw [s.list] at hi
  have h0 := hi.1 hh
  have hu := routes_upd h (k := L) (v := pn A L) (-1) hL hp
  rw [hr h, if_neg (by omega), s.list, List.append_nil] at hu
  have hl := routes_len h (k := L) (v := pn A L) (-1) hL hp
  rw [hu, if_pos h0, if_neg (by omega : ¬ (0 : Int) ≤ -1), s.list] at hl
  have hm := s.many
  have hw := s.few
  show Same (upd h L (pn A L) (-1)) (many - 1) (dropL xs A L)
  have hset : dropL xs A L = ltF xs A L ++ gtF xs A L := rfl
  exact ⟨hu, by rw [hset]; omega, by rw [hset]; omega⟩
theorem Same.start : Same (fun _ _ => -1) 0 [] :=
  ⟨routes_none (fun _ _ => -1) 16 0 0 (fun _ _ _ _ => by omega), rfl, by simp⟩
end Go.Proofs.YtfgpppgehbpblaaDoor
