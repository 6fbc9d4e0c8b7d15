/- Whether an address is in some prefixes, in plain words; cidr.Has where nothing is wrong. -/
import Derived.Test.YtfgpppgehbpblaaDoorCidrUse
namespace Go.Proofs.YtfgpppgehbpblaaDoor
open Go.RowKit Px
theorem hasI_toI {p : Pf} (h : V p) (a : Nat) : hasI (toI p).1 (toI p).2 (a : Int) = hasD p a := by
  have e : (toI (a, 0)) = ((a : Int), 16) := rfl
  have := within_toI (a, 0) h
  rw [e] at this
  unfold hasI
  rw [this]
  unfold hasD
  simp
def hasB' (a : Int) (x : Int × Int) : Bool := hasI x.1 x.2 a
def wasB (xs : List (Int × Int)) (a : Int) : Bool := xs.any (hasB' a)
def isN (xs : List (Int × Int)) (a : Int) : Nat := xs.countP (hasB' a)
theorem wasB_snoc (xs : List (Int × Int)) (a : Int) (k : Nat) (h : k < xs.length) : wasB (xs.take (k + 1)) a = (wasB (xs.take k) a || hasI xs[k].1 xs[k].2 a) := by
  unfold wasB
  rw [List.take_succ_eq_append_getElem h, List.any_append]
  simp [hasB']
theorem isN_snoc (xs : List (Int × Int)) (a : Int) (k : Nat) (h : k < xs.length) : isN (xs.take (k + 1)) a = isN (xs.take k) a + (if hasI xs[k].1 xs[k].2 a = true then 1 else 0) := by
  unfold isN
  rw [List.take_succ_eq_append_getElem h, List.countP_append, List.countP_singleton]
  rfl
theorem was_cover {xs : List (Int × Int)} (h : errP xs = 0) (a : Nat) : wasB xs a = true ↔ Cover (xs.map ofI) a := by
  unfold wasB Cover
  rw [List.any_eq_true]
  constructor
  · rintro ⟨x, hx, hh⟩
    obtain ⟨v1, e1⟩ := ofI_v (errP_all.1 h x hx)
    refine ⟨ofI x, List.mem_map_of_mem hx, ?_⟩
    rw [← hasD_iff, ← hasI_toI v1, e1]
    exact hh
  · rintro ⟨p, hp, hh⟩
    obtain ⟨x, hx, rfl⟩ := List.mem_map.1 hp
    obtain ⟨v1, e1⟩ := ofI_v (errP_all.1 h x hx)
    refine ⟨x, hx, ?_⟩
    rw [← hasD_iff, ← hasI_toI v1, e1] at hh
    exact hh
theorem was_is {xs : List (Int × Int)} (h : errP xs = 0) (a : Nat) : isN (fewI xs) a ≤ 1 ∧ (wasB xs a = true ↔ isN (fewI xs) a = 1) := by
  obtain ⟨L, e, c, v, _⟩ := few_ok h
  have h1 : isN (fewI xs) a = L.countP fun p => hasD p a := by
    rw [e]
    unfold isN
    rw [List.countP_map]
    exact List.countP_congr fun p hp => by simp only [Function.comp_apply, hasB', hasI_toI (c.v p hp)]
  have h2 : wasB xs a = true ↔ Cover (xs.map ofI) a := by
    unfold wasB Cover
    rw [List.any_eq_true]
    constructor
    · rintro ⟨x, hx, hh⟩
      obtain ⟨v1, e1⟩ := ofI_v (errP_all.1 h x hx)
      refine ⟨ofI x, List.mem_map_of_mem hx, ?_⟩
      rw [← hasD_iff, ← hasI_toI v1, e1]
      exact hh
    · rintro ⟨p, hp, hh⟩
      obtain ⟨x, hx, rfl⟩ := List.mem_map.1 hp
      obtain ⟨v1, e1⟩ := ofI_v (errP_all.1 h x hx)
      refine ⟨x, hx, ?_⟩
      rw [← hasD_iff, ← hasI_toI v1, e1] at hh
      exact hh
  obtain ⟨o1, o2⟩ := one_has c a
  rw [h1, h2, ← v, o2]
  exact ⟨o1, Iff.rfl⟩
theorem has_ok (a l x : Int) (w : World) (h : checkE a l = 0) (hx : inB x 0 65535 = true) :
    Calls Tryd.prog 11 #[.agg #[.int .i64 a, .int .i64 l], .int .i64 x] w fun e w' => e = .returned (.tuple #[.bool (hasI a l x), .nilIface]) ∧ Below w.heap.size w w' :=
  (has_any a l x w).mono fun _ _ ⟨h1, _, _, h4⟩ => ⟨h1 h hx, h4⟩

end Go.Proofs.YtfgpppgehbpblaaDoor
