/- A slice of ints that is an argument has no more room than there can be. -/
import Derived.Test.YtbmajajndckfoaaDoorWords
import Derived.Deep.Slices
namespace Go.Proofs.YtbmajajndckfoaaDoor
open Go.RowKit Go.Deep

theorem ints_cap {H : Type} {enc : TypeId × Value → H} {P : Program} {t e : TypeId} (ht : P.underlying t = some (.slice e)) {W : World} {b0 : Nat} {A : Option Addr} {n c : Nat} {d : DataW H} {p : List MemPlace} {spare : Nat → Bool} {held : Bool}
    (h : DataW.Trod enc P W b0 spare held t (.slice A n c) d p) : c ≤ maxLen := by
  obtain ⟨fuel, hf⟩ := h
  rcases open_slice ht hf with ⟨hcs, _⟩ | ⟨a, len, cap, m, k, D, Pl, hcs, _, h1, h2, _⟩
  · simp only [Value.cells, List.cons.injEq, and_true, Value.slice.injEq] at hcs
    obtain ⟨rfl, rfl, rfl⟩ := hcs
    exact Nat.zero_le _
  · simp only [Value.cells, List.cons.injEq, and_true, Value.slice.injEq] at hcs
    obtain ⟨rfl, rfl, rfl⟩ := hcs
    exact h2
end Go.Proofs.YtbmajajndckfoaaDoor
