/- Arguments that are a slice of parts, or a part by value. -/
import Derived.Test.YtbmajajndckfoaaDoorPartRow
import Derived.Deep.Slices
import Derived.Deep.Strs
import Derived.Lib.SmallJoins
import Derived.OpenShut
namespace Go.Proofs.YtbmajajndckfoaaDoor
open Go.RowKit Go.WideShapes Go.ChangeShapes Go.Deep
theorem part_cells : Tryd.prog.cellsOf 50 = 3 := by kernel_rfl
theorem pint_cells : Tryd.prog.cellsOf 3 = 1 := by kernel_rfl
theorem pbool_cells : Tryd.prog.cellsOf 4 = 1 := by kernel_rfl
theorem pstr_cells : Tryd.prog.cellsOf 9 = 1 := by kernel_rfl
/-- A part that may be handed in. -/
def FitP (x : Pt) : Prop := -9223372036854775808 ≤ x.1 ∧ x.1 ≤ 9223372036854775807 ∧ x.2.2.size ≤ maxLen
theorem fit_of_wf {z : Int} (h : (Lit.int .i64 z).wf = true) : -9223372036854775808 ≤ z ∧ z ≤ 9223372036854775807 := by
  simpa [Lit.wf, IntKind.min, IntKind.max, IntKind.signed, IntKind.bits] using h
section
variable {H : Type} {enc : TypeId × Value → H} {w : World} {base : Nat} {spare : Nat → Bool} {held : Bool}
set_option maxRecDepth 100000 in
theorem trod_part {fuel : Nat} {cs : List Value} {x : DataW H × List MemPlace} (h : DataW.trod enc Tryd.prog w base spare held fuel 50 cs = some x) :
    ∃ y : Pt, cs = [.int .i64 y.1, .bool y.2.1, .string y.2.2] ∧ FitP y := by
  obtain ⟨y0, y1, y2, n, rfl, hl, h0, h1, h2⟩ := trod_struct3 Tryd.underlying50 h
  rw [part_cells] at hl
  match cs, hl with
  | [c0, c1, c2], _ =>
    simp only [pint_cells, pbool_cells, pstr_cells, List.drop_zero, List.drop_succ_cons, List.take_succ_cons, List.take_zero] at h0 h1 h2
    obtain ⟨a, e0, _, w0⟩ := DataW.trod_int Tryd.underlying3 h0
    obtain ⟨m, e1, _⟩ := DataW.trod_bool Tryd.underlying4 h1
    obtain ⟨s, e2, _, w2⟩ := DataW.trod_string Tryd.underlying9 h2
    simp only [List.cons.injEq, and_true] at e0 e1 e2
    subst e0; subst e1; subst e2
    exact ⟨(a, m, s), rfl, (fit_of_wf w0).1, (fit_of_wf w0).2, w2⟩
set_option maxRecDepth 100000 in
theorem part_arg {r : Reach} {b0 : Nat} {v : Value} {d : DataW H} {p : List MemPlace} (hv : Value.okWide Tryd.prog w r b0 50 v) (h : DataW.Trod enc Tryd.prog w base spare held 50 v d p) :
    ∃ y : Pt, v = .agg #[.int .i64 y.1, .bool y.2.1, .string y.2.2] ∧ FitP y := by
  obtain ⟨cs, rfl, hsz⟩ := okWide_struct Tryd.underlying50 hv
  obtain ⟨fuel, hf⟩ := h
  obtain ⟨y, e, wf⟩ := trod_part (cs := cs.toList) hf
  refine ⟨y, ?_, wf⟩
  congr 1
  apply Array.toList_inj.1
  rw [e]
set_option maxRecDepth 100000 in
theorem parts_arg {b0 : Nat} {v : Value} {d : DataW H} {p : List MemPlace} {r : Reach} (hv : Value.okWide Tryd.prog w r b0 23 v) (h : DataW.Trod enc Tryd.prog w 0 spare held 23 v d p) :
    ∃ A n c xs, v = .slice A n c ∧ Rds w 3 A n (qc xs) ∧ n ≤ c ∧ c ≤ maxLen ∧ (∀ x ∈ xs, FitP x) := by
  obtain ⟨A, n, c, rfl⟩ := okWide_slice Tryd.underlying23 hv
  obtain ⟨fuel, hf⟩ := h
  rcases open_slice Tryd.underlying23 hf with ⟨hcs, _⟩ | ⟨a, len, cap, m, k, D, Pl, hcs, _, h1, h2, hm, hx, hi⟩
  · simp only [Value.cells, List.cons.injEq, and_true, Value.slice.injEq] at hcs
    obtain ⟨rfl, rfl, rfl⟩ := hcs
    exact ⟨none, 0, 0, [], rfl, Rds.qnil _, Nat.le_refl _, Nat.zero_le _, by simp⟩
  · simp only [Value.cells, List.cons.injEq, and_true, Value.slice.injEq] at hcs
    obtain ⟨rfl, rfl, rfl⟩ := hcs
    have hnm : n ≤ m := by rw [hm]; split <;> omega
    have each : ∀ i, i < n → ∃ x : Pt, w.cell? (a.add (i * 3)) = some (.int .i64 x.1) ∧ w.cell? (a.add (i * 3 + 1)) = some (.bool x.2.1) ∧ w.cell? (a.add (i * 3 + 2)) = some (.string x.2.2) ∧ FitP x := by
      intro i him
      obtain ⟨cs', hc, ht⟩ := hi i (by omega)
      rw [part_cells] at hc
      obtain ⟨_, hcl, hat⟩ := World.cells?_some hc
      obtain ⟨y, rfl, wf⟩ := trod_part ht
      have e0 := hat 0 (by omega)
      have e1 := hat 1 (by omega)
      have e2 := hat 2 (by omega)
      rw [Go.Deep.add_add] at e0 e1 e2
      exact ⟨y, by simpa using e0, by simpa using e1, by simpa using e2, wf⟩
    obtain ⟨f, hfx⟩ := choose_lt each
    have hlen : (qc ((List.range n).map f)).length = n * 3 := by rw [qc_length]; simp
    refine ⟨some a, n, c, (List.range n).map f, rfl, ⟨hlen, fun hp => ?_⟩, h1, h2, ?_⟩
    · have hn : 0 < n := by omega
      obtain ⟨b, off, spot⟩ := a
      have hspot : spot = none := by simpa [Addr.add] using World.cell?_spot (hfx 0 hn).1
      subst hspot
      refine ⟨b, off, rfl, fun j hj => ?_⟩
      rw [hlen] at hj
      obtain ⟨i, hij⟩ : ∃ i, j = i * 3 ∨ j = i * 3 + 1 ∨ j = i * 3 + 2 := ⟨j / 3, by omega⟩
      have hin : i < n := by omega
      obtain ⟨g1, g2, g3⟩ := qc_get ((List.range n).map f) i (by simpa using hin)
      obtain ⟨c1, c2, c3, _⟩ := hfx i hin
      rw [Go.WideShapes.add_plain] at c1 c2 c3
      simp only [List.getElem_map, List.getElem_range] at g1 g2 g3
      rcases hij with rfl | rfl | rfl
      · rw [c1, g1]
      · rw [c2, g2]
      · rw [c3, g3]
    · intro x hx
      obtain ⟨i, hi', rfl⟩ := List.mem_map.1 hx
      exact (hfx i (List.mem_range.1 hi')).2.2.2
end
end Go.Proofs.YtbmajajndckfoaaDoor
