/- An argument that is a route by value. -/
import Derived.Test.YtfgpppgehbpblaaDoorPArg
namespace Go.Proofs.YtfgpppgehbpblaaDoor
open Go.RowKit Go.WideShapes Go.ChangeShapes Go.Deep
theorem route_cells : Tryd.prog.cellsOf 52 = 3 := by kernel_rfl
section
variable {H : Type} {enc : TypeId × Value → H} {w : World} {base : Nat} {spare : Nat → Bool} {held : Bool}
set_option maxRecDepth 100000 in
theorem route_arg {r : Reach} {b0 : Nat} {v : Value} {d : DataW H} {p : List MemPlace} (hv : Value.okWide Tryd.prog w r b0 52 v) (h : DataW.Trod enc Tryd.prog w base spare held 52 v d p) :
    ∃ a l z : Int, v = .agg #[.int .i64 a, .int .i64 l, .int .i64 z] ∧ I64 a ∧ I64 l ∧ I64 z := by
  obtain ⟨cs, rfl, hsz⟩ := okWide_struct Tryd.underlying52 hv
  obtain ⟨fuel, hf⟩ := h
  rw [route_cells] at hsz
  obtain ⟨l⟩ := cs
  match l, hsz with
  | [c0, c1, c2], _ =>
    obtain ⟨y0, y1, n, _, _, h0, h1⟩ := trod_struct2 Tryd.underlying52 hf
    simp only [Value.cells, pfx_cells, int_cells, List.drop_zero, List.drop_succ_cons, List.take_succ_cons, List.take_zero] at h0 h1
    obtain ⟨a, l, e0, wa, wl⟩ := trod_pfx h0
    obtain ⟨z, e1, _, w1⟩ := DataW.trod_int Tryd.underlying3 h1
    simp only [List.cons.injEq, and_true] at e0 e1
    obtain ⟨rfl, rfl⟩ := e0
    subst e1
    exact ⟨a, l, z, rfl, wa, wl, i64_of_wf w1⟩
end
end Go.Proofs.YtfgpppgehbpblaaDoor
