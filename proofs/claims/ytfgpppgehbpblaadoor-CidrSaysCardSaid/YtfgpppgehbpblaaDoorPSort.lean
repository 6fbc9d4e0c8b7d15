/- slices.SortedFunc at prefixes: slices.Values' list, sorted by address, then by length. -/
import Derived.Test.YtfgpppgehbpblaaDoorPApp
import Derived.Test.YtfgpppgehbpblaaDoorPCmp
import Derived.Test.YtfgpppgehbpblaaDoorSortP
import Derived.Sort.OwnSorted
namespace Go.Proofs.YtfgpppgehbpblaaDoor
open Go.RowKit Go.Sort Go.Shelf
def encP (x : Int × Int) : List Value := [.int .i64 x.1, .int .i64 x.2]
theorem flat_pc (xs : List (Int × Int)) : flatK encP 2 xs.toArray = (pc xs).toArray := by
  refine ext_get! (by simp [pc_length]) fun t ht => ?_
  have ht' : t < xs.length * 2 := by simpa using ht
  rw [get_flatK _ _ _ t (by simpa using ht')]
  have hk : t / 2 < xs.length := by omega
  obtain ⟨g1, g2⟩ := pc_get xs (t / 2) hk
  have e0 : xs.toArray[t / 2]! = xs[t / 2] := by simp [hk]
  rw [e0]
  rcases Nat.mod_two_eq_zero_or_one t with h | h
  · rw [h]
    have e : t / 2 * 2 = t := by omega
    rw [e] at g1
    simp [encP, g1]
  · rw [h]
    have e : t / 2 * 2 + 1 = t := by omega
    rw [e] at g2
    simp [encP, g2]
theorem holds_pc {w : World} {g : Nat} {cur : Array Value} {e : TypeId} {xs : List (Int × Int)} (hb : w.heap[g]? = some (.cells cur e (0, 0))) (ht : cur.toList.take (xs.length * 2) = pc xs) : HoldsK encP 2 w g 0 xs.toArray := by
  unfold HoldsK
  rw [flat_pc]
  intro j hj
  have hj' : j < xs.length * 2 := by simpa [pc_length] using hj
  refine ⟨?_, by simp [World.frozen?, hb]⟩
  have h1 : (cur.toList.take (xs.length * 2))[j]? = (pc xs)[j]? := by rw [ht]
  rw [List.getElem?_take_of_lt hj'] at h1
  simp only [World.cell?, hb, Nat.zero_add]
  simp only [Option.isSome_none, Bool.false_eq_true, if_false]
  rw [← Array.getElem?_toList, h1]
  simp [pc_length, hj']
theorem heap_sortedP {w : World} {g n : Nat} {os : Array Obj} {cur : Array Value} {e : TypeId} {fr : Nat × Nat} (d : Array Value) (hb : w.heap[g]? = some (.cells cur e fr)) :
    (grow (putRow id (Sort.ahead w n) g 0 d) os).heap[g]? = some (.cells (putCells id 0 d cur) e fr) := by
  have hg : g < w.heap.size := (Array.getElem?_eq_some_iff.1 hb).1
  rw [heap_grow_old _ _ (by simpa using hg)]
  simp [putRow, mapBlock, Sort.ahead, Array.getElem?_modify, hb, onCells]
theorem grownBy_sortedP {w : World} {g n : Nat} {os : Array Obj} (d : Array Value) : w.grownBy (grow (putRow id (Sort.ahead w n) g 0 d) os) (some g) := by
  refine ⟨rfl, rfl, rfl, by simp, fun k hk hne => ?_⟩
  rw [heap_grow_old _ _ (by simpa using hk)]
  have : g ≠ k := fun e => hne (by rw [e])
  simp [putRow, mapBlock, Sort.ahead, Array.getElem?_modify, this]
theorem take_putP (cur : Array Value) (vs : List Value) (h : vs.length ≤ cur.size) : (putCells id 0 vs.toArray cur).toList.take vs.length = vs := by
  apply List.ext_getElem?
  intro j
  by_cases hj : j < vs.length
  · rw [List.getElem?_take_of_lt hj, Array.getElem?_toList]
    simp [putCells, hj, show j < cur.size by omega]
  · rw [List.getElem?_take_eq_none (by omega), List.getElem?_eq_none (by omega)]

theorem ltP (x y : Int × Int) : ltOf cmpP x y = decide (x.1 < y.1 ∨ x.1 = y.1 ∧ x.2 < y.2) := by
  unfold ltOf cmpP orI cmpI
  by_cases h1 : x.1 < y.1
  · simp [h1]
  · by_cases h2 : y.1 < x.1
    · have : ¬ x.1 = y.1 := by omega
      simp [h1, h2, this]
    · have h3 : x.1 = y.1 := by omega
      by_cases h4 : x.2 < y.2
      · simp [h3, h4]
      · by_cases h5 : y.2 < x.2
        · simp [h3, h4, h5]
        · simp [h3, h4, h5]
theorem swoP : SWO (ltOf cmpP) where
  irrefl x := by rw [ltP]; simp
  trans x y z h1 h2 := by rw [ltP, decide_eq_true_iff] at *; omega
  ntrans x y z h1 h2 := by rw [ltP, decide_eq_false_iff_not] at *; omega
theorem totP (x y : Int × Int) (h1 : ltOf cmpP x y = false) (h2 : ltOf cmpP y x = false) : x = y := by
  rw [ltP] at *
  simp at h1 h2
  exact Prod.ext (by omega) (by omega)
/-- The prefixes as the program sorts them. -/
def sortP (xs : List (Int × Int)) : List (Int × Int) := xs.mergeSort fun x y => !(ltOf cmpP) y x
theorem sortP_length (xs : List (Int × Int)) : (sortP xs).length = xs.length := List.length_mergeSort _
theorem sortP_mem (xs : List (Int × Int)) (x : Int × Int) : x ∈ sortP xs ↔ x ∈ xs := List.mem_mergeSort
theorem sortP_sorted (xs : List (Int × Int)) : (sortP xs).Pairwise fun x y => x.1 < y.1 ∨ x.1 = y.1 ∧ x.2 ≤ y.2 := by
  have h := List.pairwise_mergeSort (le := fun x y => !(ltOf cmpP) y x) (fun a b c h1 h2 => by rw [ltP] at *; simp at *; omega) (fun a b => by rw [ltP, ltP]; simp; omega) xs
  exact h.imp fun {x y} hxy => by rw [ltP] at hxy; simp at hxy; omega

theorem sortfunc_any (g cap : Nat) (xs : List (Int × Int)) (n₀ : Nat) (w : World) (hn : xs.length ≤ 1000000) (hn₀ : n₀ ≤ w.heap.size) (h : w.ownsRow n₀ 23 2 (.slice (some ⟨g, 0, none⟩) xs.length cap) xs.length (pc xs)) :
    Calls Tryd.prog 48 #[.slice (some ⟨g, 0, none⟩) xs.length cap, .func (.func 37) #[] #[]] w fun e w' => e = .returned (.tuple #[]) ∧ w'.ownsRow n₀ 23 2 (.slice (some ⟨g, 0, none⟩) xs.length cap) xs.length (pc (sortP xs)) ∧ Below n₀ w w' := by
  rcases h.2 with ⟨h0, _⟩ | ⟨g', cap', cur, hv, hg, hb, h1, h2, h3, h4⟩
  · cases h0
  cases hv
  have eg : ∀ args w, (callFunc 37 args).run Tryd.prog w = .ok (.enter 37 args) w := enters_of Tryd.func37 (by kernel_rfl) rfl
  have hcon := AnyQ.slices_SortFunc_total Tryd.sortP 2 Tryd.isAgg23 Tryd.sizeOf23 encP (fun _ => rfl) (fun x v hv => by simp [encP] at hv; rcases hv with rfl | rfl <;> rfl) cmpP swoP 37 #[] g 0 cap xs.toArray w eg
    (fun _ _ _ _ x y => cmpP_any x y _) (holds_pc hb h4) (Array.getElem?_eq_some_iff.1 hb).1 (by simp; omega) totP
  refine hcon.mono ?_
  rintro e w' ⟨rfl, n, os, rfl⟩
  have hl : (pc (sortP xs)).length = xs.length * 2 := by rw [pc_length, sortP_length]
  have es : sortWorldK encP 2 w g 0 n (xs.toArray.toList.mergeSort fun x y => !(ltOf cmpP) y x).toArray os = grow (putRow id (Sort.ahead w n) g 0 (pc (sortP xs)).toArray) os := by
    unfold sortWorldK putRowK
    rw [flat_pc]
    rfl
  rw [es]
  refine ⟨rfl, ⟨hl, .inr ⟨g, cap, _, rfl, hg, heap_sortedP _ hb, h1, h2, by simp [putCells, h3], ?_⟩⟩, ?_⟩
  · rw [← hl]; exact take_putP _ _ (by omega)
  · exact (Below.refl n₀ w).grown (grownBy_sortedP _) hn₀ fun k e => by cases e; exact hg

set_option maxRecDepth 100000 in
theorem psorted_any (A : Option Addr) (n c Bs n₀ : Nat) (xs : List (Int × Int)) (hn : n ≤ 1000000) (w : World) (hBs : Bs < w.heap.size) (hn₀ : n₀ ≤ w.heap.size)
    (hc : w.cell? ⟨Bs, 0, none⟩ = some (.slice A n c)) (hr : Rds w 2 A n (pc xs)) (hlow : ∀ a, A = some a → 0 < n → a.block < n₀) :
    Calls Tryd.prog 35 #[.func (.func 49) #[] #[.pointer (some ⟨Bs, 0, none⟩)], .func (.func 37) #[] #[]] w fun e w' => ∃ v, e = .returned v ∧ w'.ownsRow n₀ 23 2 v xs.length (pc (sortP xs)) ∧ Below n₀ w w' := by
  obtain rfl : n = xs.length := hr.plen
  have hcol : Calls Tryd.prog 47 _ w _ := callsIn_wide.1 (pcollect_in Fence.wide 4 trivial trivial trivial rfl (by omega) A xs.length c Bs n₀ xs hn w hBs hn₀ hc hr hlow)
  have hs0 := AnyF.slices_SortFunc_none Tryd.sortP none 0 (.func (.func 37) #[] #[])
  change ∀ w, Calls Tryd.prog 48 _ w _ at hs0
  go_enter Tryd.func35, Tryd.ntmps35
  go_wp2_with (go_at_call 47; refine hcol.mono ?_; rintro e w' ⟨v, rfl, g1, g2, g3⟩)
  rcases g1.2 with ⟨rfl, h0⟩ | ⟨g, cap, cur, rfl, _⟩
  · obtain rfl : xs = [] := List.length_eq_zero_iff.1 h0
    go_wp2_with (go_at_call 48; refine (hs0 _).mono ?_; rintro e w' ⟨rfl, rfl⟩)
    go_ret
    exact ⟨.slice none 0 0, rfl, by rw [show sortP [] = [] from by simp [sortP]]; exact g1, g3⟩
  · go_wp2_with (go_at_call 48; refine (sortfunc_any g cap xs n₀ _ hn (Nat.le_trans hn₀ g3.size) g1).mono ?_; rintro e w' ⟨rfl, k1, k2⟩)
    go_ret
    exact ⟨_, rfl, k1, g3.trans k2⟩
end Go.Proofs.YtfgpppgehbpblaaDoor
