/- Arguments that are a slice of prefixes, or a prefix by value. -/
import Derived.Test.YtfgpppgehbpblaaDoorPfx
import Derived.Deep.Slices
import Derived.Lib.SmallJoins
import Derived.OpenShut
namespace Go.Proofs.YtfgpppgehbpblaaDoor
open Go.RowKit Go.WideShapes Go.ChangeShapes Go.Deep
theorem pfx_cells : Tryd.prog.cellsOf 23 = 2 := by kernel_rfl
theorem int_cells : Tryd.prog.cellsOf 3 = 1 := by kernel_rfl
def I64 (z : Int) : Prop := -9223372036854775808 ≤ z ∧ z ≤ 9223372036854775807
theorem i64_of_wf {z : Int} (h : (Lit.int .i64 z).wf = true) : I64 z := by
  unfold I64
  simpa [Lit.wf, IntKind.min, IntKind.max, IntKind.signed, IntKind.bits] using h
section
variable {H : Type} {enc : TypeId × Value → H} {w : World} {base : Nat} {spare : Nat → Bool} {held : Bool}
set_option maxRecDepth 100000 in
theorem trod_pfx {fuel : Nat} {cs : List Value} {x : DataW H × List MemPlace} (h : DataW.trod enc Tryd.prog w base spare held fuel 23 cs = some x) :
    ∃ a l : Int, cs = [.int .i64 a, .int .i64 l] ∧ I64 a ∧ I64 l := by
  obtain ⟨y0, y1, n, rfl, hl, h0, h1⟩ := trod_struct2 Tryd.underlying23 h
  rw [pfx_cells] at hl
  match cs, hl with
  | [c0, c1], _ =>
    simp only [int_cells, List.drop_zero, List.drop_succ_cons, List.take_succ_cons, List.take_zero] at h0 h1
    obtain ⟨a, e0, _, w0⟩ := DataW.trod_int Tryd.underlying3 h0
    obtain ⟨l, e1, _, w1⟩ := DataW.trod_int Tryd.underlying3 h1
    simp only [List.cons.injEq, and_true] at e0 e1
    subst e0; subst e1
    exact ⟨a, l, rfl, i64_of_wf w0, i64_of_wf w1⟩
set_option maxRecDepth 100000 in
theorem pfx_arg {r : Reach} {b0 : Nat} {v : Value} {d : DataW H} {p : List MemPlace} (hv : Value.okWide Tryd.prog w r b0 23 v) (h : DataW.Trod enc Tryd.prog w base spare held 23 v d p) :
    ∃ a l : Int, v = .agg #[.int .i64 a, .int .i64 l] ∧ I64 a ∧ I64 l := by
  obtain ⟨cs, rfl, hsz⟩ := okWide_struct Tryd.underlying23 hv
  obtain ⟨fuel, hf⟩ := h
  obtain ⟨a, l, e, wa, wl⟩ := trod_pfx (cs := cs.toList) hf
  refine ⟨a, l, ?_, wa, wl⟩
  congr 1
  apply Array.toList_inj.1
  rw [e]
set_option maxRecDepth 100000 in
theorem pfxs_arg {b0 : Nat} {v : Value} {d : DataW H} {p : List MemPlace} {r : Reach} (hv : Value.okWide Tryd.prog w r b0 24 v) (h : DataW.Trod enc Tryd.prog w 0 spare held 24 v d p) :
    ∃ A n c xs, v = .slice A n c ∧ Rds w 2 A n (pc xs) ∧ n ≤ c ∧ c ≤ maxLen ∧ (∀ x ∈ xs, I64 x.1 ∧ I64 x.2) := by
  obtain ⟨A, n, c, rfl⟩ := okWide_slice Tryd.underlying24 hv
  obtain ⟨fuel, hf⟩ := h
  rcases open_slice Tryd.underlying24 hf with ⟨hcs, _⟩ | ⟨a, len, cap, m, k, D, Pl, hcs, _, h1, h2, hm, hx, hi⟩
  · simp only [Value.cells, List.cons.injEq, and_true, Value.slice.injEq] at hcs
    obtain ⟨rfl, rfl, rfl⟩ := hcs
    exact ⟨none, 0, 0, [], rfl, Rds.nil_, Nat.le_refl _, Nat.zero_le _, by simp⟩
  · simp only [Value.cells, List.cons.injEq, and_true, Value.slice.injEq] at hcs
    obtain ⟨rfl, rfl, rfl⟩ := hcs
    have hnm : n ≤ m := by rw [hm]; split <;> omega
    have each : ∀ i, i < n → ∃ x : Int × Int, w.cell? (a.add (i * 2)) = some (.int .i64 x.1) ∧ w.cell? (a.add (i * 2 + 1)) = some (.int .i64 x.2) ∧ I64 x.1 ∧ I64 x.2 := by
      intro i him
      obtain ⟨cs', hc, ht⟩ := hi i (by omega)
      rw [pfx_cells] at hc
      obtain ⟨_, hcl, hat⟩ := World.cells?_some hc
      obtain ⟨z, l, rfl, wz, wl⟩ := trod_pfx ht
      have e0 := hat 0 (by omega)
      have e1 := hat 1 (by omega)
      rw [Go.Deep.add_add] at e0 e1
      exact ⟨(z, l), by simpa using e0, by simpa using e1, wz, wl⟩
    obtain ⟨f, hfx⟩ := choose_lt each
    have hlen : (pc ((List.range n).map f)).length = n * 2 := by rw [pc_length]; simp
    refine ⟨some a, n, c, (List.range n).map f, rfl, ⟨hlen, fun hp => ?_⟩, h1, h2, ?_⟩
    · have hn : 0 < n := by omega
      obtain ⟨b, off, spot⟩ := a
      have hspot : spot = none := by simpa [Addr.add] using World.cell?_spot (hfx 0 hn).1
      subst hspot
      refine ⟨b, off, rfl, fun j hj => ?_⟩
      rw [hlen] at hj
      obtain ⟨i, hij⟩ : ∃ i, j = i * 2 ∨ j = i * 2 + 1 := ⟨j / 2, by omega⟩
      have hin : i < n := by omega
      obtain ⟨g1, g2⟩ := pc_get ((List.range n).map f) i (by simpa using hin)
      obtain ⟨c1, c2, _, _⟩ := hfx i hin
      rw [Go.WideShapes.add_plain] at c1 c2
      simp only [List.getElem_map, List.getElem_range] at g1 g2
      rcases hij with rfl | rfl
      · rw [c1, g1]
      · rw [c2, g2]
    · intro x hx
      obtain ⟨i, hi', rfl⟩ := List.mem_map.1 hx
      exact (hfx i (List.mem_range.1 hi')).2.2
end
end Go.Proofs.YtfgpppgehbpblaaDoor
