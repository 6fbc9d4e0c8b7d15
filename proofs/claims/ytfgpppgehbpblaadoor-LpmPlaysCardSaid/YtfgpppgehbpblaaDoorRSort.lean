/- slices.SortFunc at routes that stand in order already: nothing changes. -/
import Derived.Test.YtfgpppgehbpblaaDoorRRow
import Derived.Test.YtfgpppgehbpblaaDoorPCmp
import Derived.Test.YtfgpppgehbpblaaDoorSortR
import Derived.Deep.RegionHeld3
import Derived.Sort.OwnSorted
namespace Go.Proofs.YtfgpppgehbpblaaDoor
open Go.RowKit Go.Sort Go.Shelf Lp
attribute [local go_sem ↓] Go.wp_at_zero Go.wp_at_succ
/-- How the program orders two routes. -/
def cmpR (p q : Rt) : Int := orI (cmpI p.1 q.1) (cmpI p.2.1 q.2.1)
set_option maxHeartbeats 2000000 in
theorem cmpR_any (p q : Rt) (w : World) :
    Calls Tryd.prog 42 #[.agg #[.int .i64 p.1, .int .i64 p.2.1, .int .i64 p.2.2], .agg #[.int .i64 q.1, .int .i64 q.2.1, .int .i64 q.2.2]] w fun e w' => e = .returned (.int .i64 (cmpR p q)) ∧ Grew w w' := by
  obtain ⟨a, l, x⟩ := p
  obtain ⟨b, m, y⟩ := q
  have HC := Lib.hid (fun w => compare_any a b w)
  have HD := Lib.hid (fun w => compare_any l m w)
  have HP : Hid (cmpR (a, l, x) (b, m, y) = orI (cmpI a b) (cmpI l m)) := Lib.hid rfl
  generalize cmpR (a, l, x) (b, m, y) = r at *
  generalize cmpI a b = c at *
  generalize cmpI l m = d at *
  have HO := Lib.hid (fun n w h0 h1 => or_any c d n w h0 h1)
  generalize orI c d = v at *
  obtain rfl : r = v := HP.out
  go_enter Tryd.func42, Tryd.ntmps42
  go_wp2_with fail
  go_region_held3 (fun w' => w'.cell? ⟨w.heap.size, 0, none⟩ = some (.int .i64 a) ∧ w'.cell? ⟨w.heap.size, 1, none⟩ = some (.int .i64 l) ∧ w'.cell? ⟨w.heap.size + 1, 0, none⟩ = some (.int .i64 b) ∧ w'.cell? ⟨w.heap.size + 1, 1, none⟩ = some (.int .i64 m)) (go_keep) ((first | (go_at_call 39; with_reducible refine (HC.out _).mono ?_; rintro e w' ⟨rfl, rfl⟩) | (go_at_call 39; with_reducible refine (HD.out _).mono ?_; rintro e w' ⟨rfl, rfl⟩) | (go_at_call 38; refine (HO.out _ _ (cell_third0 w _ _ _ _ _) (cell_third1 w _ _ _ _ _)).mono ?_; rintro e w' ⟨rfl, rfl⟩)))
  all_goals
    go_wp2
    go_ret
    exact ⟨rfl, (((((Grew.refl w).alloc _).alloc _).alloc _).drewN 1)⟩
theorem ltR (x y : Rt) : ltOf cmpR x y = decide (LtR x y) := by
  unfold ltOf cmpR orI cmpI LtR
  by_cases h1 : x.1 < y.1
  · simp [h1]
  · by_cases h2 : y.1 < x.1
    · have : ¬ x.1 = y.1 := by omega
      simp [h1, h2, this]
    · have h3 : x.1 = y.1 := by omega
      by_cases h4 : x.2.1 < y.2.1
      · simp [h3, h4]
      · by_cases h5 : y.2.1 < x.2.1
        · simp [h3, h4, h5]
        · simp [h3, h4, h5]
theorem swoR : SWO (ltOf cmpR) where
  irrefl x := by rw [ltR, decide_eq_false_iff_not]; unfold LtR; omega
  trans x y z h1 h2 := by rw [ltR, decide_eq_true_iff] at *; unfold LtR at *; omega
  ntrans x y z h1 h2 := by rw [ltR, decide_eq_false_iff_not] at *; unfold LtR at *; omega
theorem sorted_same {L M : List Rt} (h : L.Pairwise LtR) (hp : M.Perm L) (hs : ∀ (i j : Nat) (hj : j < M.length) (hij : i < j), ¬ LtR M[j] M[i]) : M = L := by
  have hnd : M.Nodup := hp.symm.nodup_iff.1 (h.imp fun {x y} hxy e => by subst e; exact hxy.irr)
  refine sorted_unique ?_ h (fun x => hp.mem_iff)
  rw [List.pairwise_iff_getElem]
  intro i j hi hj hij
  have hne : M[i] ≠ M[j] := by
    have := List.pairwise_iff_getElem.1 hnd i j hi hj hij
    exact this
  have h1 : M[i] ∈ L := hp.mem_iff.1 (List.getElem_mem hi)
  have h2 : M[j] ∈ L := hp.mem_iff.1 (List.getElem_mem hj)
  obtain ⟨a, ha, e1⟩ := List.getElem_of_mem h1
  obtain ⟨b, hb, e2⟩ := List.getElem_of_mem h2
  have hno := hs i j hj hij
  rcases Nat.lt_trichotomy a b with hab | hab | hab
  · have := List.pairwise_iff_getElem.1 h a b ha hb hab
    rw [e1, e2] at this
    exact this
  · subst hab
    exact absurd (e1.symm.trans e2) hne
  · have := List.pairwise_iff_getElem.1 h b a hb ha hab
    rw [e1, e2] at this
    exact absurd this hno
def encR (x : Rt) : List Value := [.int .i64 x.1, .int .i64 x.2.1, .int .i64 x.2.2]
theorem flat_rc (xs : List Rt) : flatK encR 3 xs.toArray = (rc xs).toArray := by
  refine ext_get! (by simp [rc_length]) fun t ht => ?_
  have ht' : t < xs.length * 3 := by simpa using ht
  rw [get_flatK _ _ _ t (by simpa using ht')]
  have hk : t / 3 < xs.length := by omega
  obtain ⟨g1, g2, g3⟩ := rc_get xs (t / 3) hk
  have e0 : xs.toArray[t / 3]! = xs[t / 3] := by simp [hk]
  rw [e0]
  have h3 : t % 3 = 0 ∨ t % 3 = 1 ∨ t % 3 = 2 := by omega
  rcases h3 with h | h | h
  · rw [h]
    have e : t / 3 * 3 = t := by omega
    rw [e] at g1
    simp [encR, g1]
  · rw [h]
    have e : t / 3 * 3 + 1 = t := by omega
    rw [e] at g2
    simp [encR, g2]
  · rw [h]
    have e : t / 3 * 3 + 2 = t := by omega
    rw [e] at g3
    simp [encR, g3]
theorem holds_rc {w : World} {g : Nat} {cur : Array Value} {e : TypeId} {xs : List Rt} (hb : w.heap[g]? = some (.cells cur e (0, 0))) (ht : cur.toList.take (xs.length * 3) = rc xs) : HoldsK encR 3 w g 0 xs.toArray := by
  unfold HoldsK
  rw [flat_rc]
  intro j hj
  have hj' : j < xs.length * 3 := by simpa [rc_length] using hj
  refine ⟨?_, by simp [World.frozen?, hb]⟩
  have h1 : (cur.toList.take (xs.length * 3))[j]? = (rc xs)[j]? := by rw [ht]
  rw [List.getElem?_take_of_lt hj'] at h1
  simp only [World.cell?, hb, Nat.zero_add]
  simp only [Option.isSome_none, Bool.false_eq_true, if_false]
  rw [← Array.getElem?_toList, h1]
  simp [rc_length, hj']
theorem heap_sortedR {w : World} {g n : Nat} {os : Array Obj} {cur : Array Value} {e : TypeId} {fr : Nat × Nat} (d : Array Value) (hb : w.heap[g]? = some (.cells cur e fr)) :
    (grow (putRow id (Sort.ahead w n) g 0 d) os).heap[g]? = some (.cells (putCells id 0 d cur) e fr) := by
  have hg : g < w.heap.size := (Array.getElem?_eq_some_iff.1 hb).1
  rw [heap_grow_old _ _ (by simpa using hg)]
  simp [putRow, mapBlock, Sort.ahead, Array.getElem?_modify, hb, onCells]
theorem grownBy_sortedR {w : World} {g n : Nat} {os : Array Obj} (d : Array Value) : w.grownBy (grow (putRow id (Sort.ahead w n) g 0 d) os) (some g) := by
  refine ⟨rfl, rfl, rfl, by simp, fun k hk hne => ?_⟩
  rw [heap_grow_old _ _ (by simpa using hk)]
  have : g ≠ k := fun e => hne (by rw [e])
  simp [putRow, mapBlock, Sort.ahead, Array.getElem?_modify, this]
theorem take_putR (cur : Array Value) (vs : List Value) (h : vs.length ≤ cur.size) : (putCells id 0 vs.toArray cur).toList.take vs.length = vs := by
  apply List.ext_getElem?
  intro j
  by_cases hj : j < vs.length
  · rw [List.getElem?_take_of_lt hj, Array.getElem?_toList]
    simp [putCells, hj, show j < cur.size by omega]
  · rw [List.getElem?_take_eq_none (by omega), List.getElem?_eq_none (by omega)]
theorem sortR_any (g cap : Nat) (xs : List Rt) (n₀ : Nat) (w : World) (hs : xs.Pairwise LtR) (hn : xs.length ≤ 1000000) (_ : n₀ ≤ w.heap.size) (h : OwnT w n₀ (.slice (some ⟨g, 0, none⟩) xs.length cap) xs) :
    Calls Tryd.prog 41 #[.slice (some ⟨g, 0, none⟩) xs.length cap, .func (.func 42) #[] #[]] w fun e w' => e = .returned (.tuple #[]) ∧ OwnT w' n₀ (.slice (some ⟨g, 0, none⟩) xs.length cap) xs ∧ w.grownBy w' (some g) := by
  rcases h.2 with ⟨h0, _⟩ | ⟨g', cap', cur, hv, hg, hb, h1, h2, h3, h4⟩
  · cases h0
  cases hv
  have eg : ∀ args w, (callFunc 42 args).run Tryd.prog w = .ok (.enter 42 args) w := enters_of Tryd.func42 (by kernel_rfl) rfl
  have hcon := AnyQ.slices_SortFunc Tryd.sortR 3 Tryd.isAgg52 Tryd.sizeOf52 encR (fun _ => rfl) (fun x v hv => by simp [encR] at hv; rcases hv with rfl | rfl | rfl <;> rfl) cmpR swoR 42 #[] g 0 cap xs.toArray w eg
    (fun _ _ _ _ x y => cmpR_any x y _) (holds_rc hb h4) (Array.getElem?_eq_some_iff.1 hb).1 (by simp; omega)
  refine hcon.mono ?_
  rintro e w' ⟨rfl, d', n, os, hp, hso, rfl⟩
  have hd : d'.toList = xs := by
    obtain ⟨hsz, _, hperm⟩ := hp
    have e1 : d'.extract 0 xs.toArray.size = d' := by rw [← hsz]; exact Array.extract_size
    rw [e1, Array.extract_size] at hperm
    refine sorted_same hs (by simpa using hperm) fun i j hj hij => ?_
    have hj' : j < d'.size := by simpa using hj
    have := hso i j (Nat.zero_le _) hij (by omega)
    rw [getElem!_pos d' j hj', getElem!_pos d' i (by omega), ltR, decide_eq_false_iff_not] at this
    simpa using this
  have hda : d' = xs.toArray := by rw [← hd]
  have hl : (rc xs).length = xs.length * 3 := rc_length xs
  have es : sortWorldK encR 3 w g 0 n d' os = grow (putRow id (Sort.ahead w n) g 0 (rc xs).toArray) os := by
    unfold sortWorldK putRowK
    rw [hda, flat_rc]
  rw [es]
  refine ⟨rfl, ⟨hl, .inr ⟨g, cap, _, rfl, hg, heap_sortedR _ hb, h1, h2, by simp [putCells, h3], ?_⟩⟩, grownBy_sortedR _⟩
  rw [← hl]; exact take_putR _ _ (by omega)
theorem sortR_none (w : World) : Calls Tryd.prog 41 #[.slice none 0 0, .func (.func 42) #[] #[]] w fun e w' => e = .returned (.tuple #[]) ∧ w' = w :=
  AnyF.slices_SortFunc_none Tryd.sortR none 0 (.func (.func 42) #[] #[]) w
end Go.Proofs.YtfgpppgehbpblaaDoor
