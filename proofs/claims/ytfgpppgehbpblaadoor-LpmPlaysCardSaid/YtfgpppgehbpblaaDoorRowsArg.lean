/- Arguments that are a slice of slices of ints, or a route by value. -/
import Derived.Test.YtfgpppgehbpblaaDoorWithin
import Derived.Deep.Matrix
import Derived.Deep.Slices
import Derived.OpenShut
namespace Go.Proofs.YtfgpppgehbpblaaDoor
open Go.RowKit Go.WideShapes Go.ChangeShapes Go.Deep
/-- A slice of rows of ints. -/
def RowsW (w : World) (A : Option Addr) (n : Nat) (xss : List (List Int)) : Prop :=
  n = xss.length ∧ ∀ i (h : i < xss.length), ∃ b off B c, A = some ⟨b, off, none⟩ ∧ w.cell? ⟨b, off + i, none⟩ = some (.slice B xss[i].length c) ∧ Rds w 1 B xss[i].length (ic xss[i]) ∧ xss[i].length ≤ c ∧ c ≤ maxLen
theorem RowsW.below {w w' : World} {A : Option Addr} {n : Nat} {xss : List (List Int)} (h : RowsW w A n xss) (hb : Below w.heap.size w w') : RowsW w' A n xss := by
  refine ⟨h.1, fun i hi => ?_⟩
  obtain ⟨b, off, B, c, e, hc, hr, h1, h2⟩ := h.2 i hi
  exact ⟨b, off, B, c, e, (hb.cell (p := ⟨b, off + i, none⟩) (cell_lt hc)).trans hc, hr.below hb, h1, h2⟩
theorem rint_cells : Tryd.prog.cellsOf 3 = 1 := by kernel_rfl
theorem rows_cells : Tryd.prog.cellsOf 60 = 1 := by kernel_rfl
section
variable {H : Type} {enc : TypeId × Value → H} {w : World} {held : Bool}
set_option maxRecDepth 100000 in
theorem rows_arg_datum {b0 : Nat} {v : Value} {d : DataW H} {p : List MemPlace} {r : Reach} (hv : Value.okWide Tryd.prog w r b0 43 v) (h : DataW.Trod enc Tryd.prog w 0 (fun _ => true) held 43 v d p) :
    ∃ A n c xss, v = .slice A n c ∧ RowsW w A n xss ∧ n ≤ c ∧ c ≤ maxLen ∧ (n = 0 ∨ ∃ el sp, d = .slice el sp ∧ el.length = n) := by
  obtain ⟨A, n, c, rfl⟩ := okWide_slice Tryd.underlying43 hv
  obtain ⟨fuel, hf⟩ := h
  rcases open_int_rows Tryd.underlying43 Tryd.underlying60 Tryd.underlying3 rows_cells rint_cells hf with ⟨hcs, _⟩ | ⟨a, len, cap, Ar, L, C, Z, hcs, _, h1, h2, hd, hx⟩
  · simp only [Value.cells, List.cons.injEq, and_true, Value.slice.injEq] at hcs
    obtain ⟨rfl, rfl, rfl⟩ := hcs
    exact ⟨none, 0, 0, [], rfl, ⟨rfl, fun i hi => absurd hi (by simp)⟩, Nat.le_refl _, Nat.zero_le _, .inl rfl⟩
  · simp only [Value.cells, List.cons.injEq, and_true, Value.slice.injEq] at hcs
    obtain ⟨rfl, rfl, rfl⟩ := hcs
    refine ⟨some a, n, c, (List.range n).map fun i => (Z i).take (L i), rfl, ⟨by simp, fun i hi => ?_⟩, h1, h2, .inr ⟨_, _, (Prod.mk.inj hd).1, by simp⟩⟩
    have hin : i < n := by simpa using hi
    obtain ⟨k1, k2, k3, k4, _, k6, k7⟩ := hx i (by omega)
    obtain ⟨b, off, spot⟩ := a
    have hspot : spot = none := by simpa [Addr.add] using World.cell?_spot (hx 0 (by omega)).1
    subst hspot
    simp only [List.getElem_map, List.getElem_range]
    have hlen : ((Z i).take (L i)).length = L i := by rw [List.length_take]; omega
    rw [Go.WideShapes.add_plain] at k1
    refine ⟨b, off, Ar i, C i, rfl, by rw [hlen]; exact k1, ⟨by rw [ic_length]; omega, fun hp => ?_⟩, by rw [hlen]; exact k2, k3⟩
    rw [ic_length, hlen] at hp
    rcases hA : Ar i with _ | a'
    · have := k6 hA; omega
    · obtain ⟨_, hcell⟩ := k7 a' hA
      obtain ⟨b', off', spot'⟩ := a'
      have hspot' : spot' = none := by simpa [Addr.add] using World.cell?_spot (hcell 0 (by omega))
      subst hspot'
      refine ⟨b', off', rfl, fun j hj => ?_⟩
      rw [ic_length, hlen] at hj
      have hz := hcell j (by omega)
      rw [Go.WideShapes.add_plain] at hz
      rw [hz, ic_get _ j (by rw [hlen]; exact hj)]
      simp [List.getD, List.getElem?_eq_getElem (show j < (Z i).length by omega)]
set_option maxRecDepth 100000 in
theorem rows_arg {b0 : Nat} {v : Value} {d : DataW H} {p : List MemPlace} {r : Reach} (hv : Value.okWide Tryd.prog w r b0 43 v) (h : DataW.Trod enc Tryd.prog w 0 (fun _ => true) held 43 v d p) :
    ∃ A n c xss, v = .slice A n c ∧ RowsW w A n xss ∧ n ≤ c ∧ c ≤ maxLen := by
  obtain ⟨A, n, c, xss, h1, h2, h3, h4, _⟩ := rows_arg_datum hv h
  exact ⟨A, n, c, xss, h1, h2, h3, h4⟩
end
end Go.Proofs.YtfgpppgehbpblaaDoor
