/- The world has drawn and has new blocks, nothing else. -/
import Derived.Sort.Grow
import Derived.RangeFuncRecord
import Derived.Laws.AppendOwn
import Derived.Test.YtbmajajndckfoaaDoorWords
import Derived.Deep.DeepFit
namespace Go.Proofs.YtbmajajndckfoaaDoor
open Go.RowKit
/-- The world has drawn and has new blocks; nothing else. -/
def Grew (w w' : World) : Prop := ∃ n os, w' = Go.Sort.grow (w.drewN n) os
theorem Grew.refl (w : World) : Grew w w := ⟨0, #[], by rw [Go.Sort.grow_empty]; rfl⟩
theorem Grew.alloc {w w' : World} (h : Grew w w') (o : Obj) : Grew w (w'.alloc o) := by
  obtain ⟨n, os, rfl⟩ := h
  exact ⟨n, os ++ #[o], by rw [Go.Sort.alloc_eq_grow, Go.Sort.grow_grow]⟩
theorem Grew.drewN {w w' : World} (h : Grew w w') (m : Nat) : Grew w (w'.drewN m) := by
  obtain ⟨n, os, rfl⟩ := h
  exact ⟨n + m, os, by simp [World.drewN, Go.Sort.grow, Nat.add_assoc]⟩
theorem Grew.below {w w' : World} (h : Grew w w') : Below w.heap.size w w' := by
  obtain ⟨n, os, rfl⟩ := h
  exact ⟨rfl, rfl, rfl, by simp [Go.Sort.grow, World.drewN], fun i hi => Go.Sort.heap_grow_old (w.drewN n) os hi⟩
theorem Grew.size {w w' : World} (h : Grew w w') : w.heap.size ≤ w'.heap.size := h.below.size
theorem Grew.cell {w w' : World} (h : Grew w w') {a : Addr} {v : Value} (hb : a.block < w.heap.size) (hc : w.cell? a = some v) : w'.cell? a = some v := (h.below.cell hb).trans hc
theorem Grew.grown {w w' : World} (h : Grew w w') (row : Option Nat) : w.grownBy w' row := by
  obtain ⟨n, os, rfl⟩ := h
  refine ⟨rfl, rfl, rfl, by simp [Go.Sort.grow, World.drewN], fun k hk _ => ?_⟩
  exact Go.Sort.heap_grow_old (w.drewN n) os hk
theorem Grew.row {w w' : World} (h : Grew w w') {base : Nat} {e : TypeId} {size : Nat} {v : Value} {n : Nat} {xs : List Value} (hr : w.ownsRow base e size v n xs) : w'.ownsRow base e size v n xs := by
  rcases hr.2 with ⟨rfl, _⟩ | ⟨g, cap, cur, rfl, _⟩
  · exact hr.kept (h.grown none) (.inl rfl)
  · exact hr.kept (h.grown none) (.inr (by simp [Value.ownBlock]))
end Go.Proofs.YtbmajajndckfoaaDoor
