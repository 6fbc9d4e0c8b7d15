/- An array of 200 ints in a block: its cells by a function. -/
import Derived.Test.YtbmajajndckfoaaDoorCore
import Derived.Laws.Rows
namespace Go.Proofs.YtbmajajndckfoaaDoor
open Go.RowKit
def arrC (f : Nat → Int) : Array Value := (Array.range 200).map fun i => .int .i64 (f i)
theorem arrC_size (f : Nat → Int) : (arrC f).size = 200 := by simp [arrC]
theorem arrC_ne (f : Nat → Int) : ¬ arrC f = #[] := fun h => by have := arrC_size f; rw [h] at this; cases this
theorem arrC_get (f : Nat → Int) (i : Nat) (h : i < 200) : (arrC f)[i]? = some (.int .i64 (f i)) := by simp [arrC, h]
theorem arrC_set (f : Nat → Int) (i : Nat) (z : Int) : (arrC f).setIfInBounds i (.int .i64 z) = arrC fun j => if j = i then z else f j := by
  apply Array.ext
  · simp [arrC]
  · intro j h1 h2
    rw [Array.getElem_setIfInBounds (by simpa using h1)]
    simp only [arrC, Array.getElem_map, Array.getElem_range]
    by_cases e : i = j
    · subst e; simp
    · rw [if_neg e, if_neg (fun h => e h.symm)]
theorem info_arr : (Tryd.prog.info? 61).map (·.zero) = some (some (.agg (arrC fun _ => 0))) := by kernel_rfl
theorem zero200 (w : World) : Sem.run Tryd.prog (zeroValue 61) w = .ok (.agg (arrC fun _ => 0)) w := by
  rcases h : Tryd.prog.info? 61 with _ | i
  · have := info_arr; rw [h] at this; cases this
  · have hz := info_arr
    rw [h] at hz
    simp only [Option.map_some, Option.some.injEq] at hz
    simp [zeroValue, typeInfo, h, hz]
/-- The block b holds the array f. -/
def Arr (w : World) (b : Nat) (f : Nat → Int) : Prop := w.heap[b]? = some (.cells (arrC f) 61 (0, 0))
theorem Arr.new (w : World) (f : Nat → Int) : Arr (w.alloc (.cells (arrC f) 61)) w.heap.size f := by
  show (w.heap.push _)[w.heap.size]? = _
  simp
theorem Arr.new' (w : World) {cs : Array Value} {f : Nat → Int} (h : cs = arrC f) : Arr (w.alloc (.cells cs 61)) w.heap.size f := h ▸ Arr.new w f
theorem Arr.cell {w : World} {b : Nat} {f : Nat → Int} (h : Arr w b f) {i : Nat} (hi : i < 200) : w.cell? ⟨b, i, none⟩ = some (.int .i64 (f i)) := by
  unfold Arr at h
  simp [World.cell?, h, arrC_get f i hi]
theorem Arr.frozen {w : World} {b : Nat} {f : Nat → Int} (h : Arr w b f) (i : Nat) : w.frozen? ⟨b, i, none⟩ = false := frozen_of_row w b i _ _ h
theorem Arr.set {w : World} {b : Nat} {f : Nat → Int} (h : Arr w b f) (i : Nat) (z : Int) : Arr (w.setCell ⟨b, i, none⟩ (.int .i64 z)) b fun j => if j = i then z else f j := by
  unfold Arr at h ⊢
  rw [heap_setCell_same w b i _ _ _ h, arrC_set]
theorem Arr.keep {w w' : World} {b : Nat} {f : Nat → Int} (h : Arr w b f) (hb : w'.heap[b]? = w.heap[b]?) : Arr w' b f := hb.trans h
theorem Arr.lt {w : World} {b : Nat} {f : Nat → Int} (h : Arr w b f) : b < w.heap.size := (Array.getElem?_eq_some_iff.1 h).1
theorem Arr.below {w w' : World} {b : Nat} {f : Nat → Int} (h : Arr w b f) (hb : Below w.heap.size w w') : Arr w' b f := h.keep (hb.block b h.lt)
theorem Arr.congr {w : World} {b : Nat} {f g : Nat → Int} (h : Arr w b f) (e : ∀ i, i < 200 → f i = g i) : Arr w b g := by
  have : arrC f = arrC g := by
    apply Array.ext
    · simp [arrC]
    · intro i h1 h2
      simp only [arrC, Array.getElem_map, Array.getElem_range]
      rw [e i (by rw [arrC_size] at h1; exact h1)]
  unfold Arr at h ⊢
  rw [h, this]
/-- A slice of the array. -/
def arrL (f : Nat → Int) (a b : Nat) : List Int := (List.range' a (b - a)).map f
theorem Arr.rds {w : World} {b : Nat} {f : Nat → Int} (h : Arr w b f) {i j : Nat} (hj : j ≤ 200) : Rds w 1 (some ⟨b, i, none⟩) (j - i) (ic (arrL f i j)) := by
  refine ⟨by simp [ic, arrL], fun _ => ⟨b, i, rfl, fun k hk => ?_⟩⟩
  rw [ic_length] at hk
  simp only [arrL, List.length_map, List.length_range'] at hk
  rw [h.cell (by omega), ic_get _ k (by simpa [arrL] using hk)]
  simp [arrL]
end Go.Proofs.YtbmajajndckfoaaDoor
