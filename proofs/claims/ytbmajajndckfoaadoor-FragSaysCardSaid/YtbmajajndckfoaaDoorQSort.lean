/- slices.SortedStableFunc at parts, 40 at most; and frag.Order: the parts in the order of their places, those of one place as they stood. -/
import Derived.Test.YtbmajajndckfoaaDoorQApp
import Derived.Test.YtbmajajndckfoaaDoorQCmp
import Derived.Test.YtbmajajndckfoaaDoorQStab
import Derived.Sort.OwnSorted
import Derived.Outline
namespace Go.Proofs.YtbmajajndckfoaaDoor
open Go.RowKit Go.Sort Go.Shelf
/-- A part, and where it stood. -/
abbrev Qt := Pt × Nat
def encQ (x : Qt) : List Value := [.int .i64 x.1.1, .bool x.1.2.1, .string x.1.2.2]
def cfQ (x y : Qt) : Int := cmpI x.1.1 y.1.1
theorem flat_qc (zs : List Qt) : flatK encQ 3 zs.toArray = (qc (zs.map Prod.fst)).toArray := by
  refine ext_get! (by simp [qc_length]) fun t ht => ?_
  have ht' : t < zs.length * 3 := by simpa using ht
  rw [get_flatK _ _ _ t (by simpa using ht')]
  have hk : t / 3 < zs.length := by omega
  have hk' : t / 3 < (zs.map Prod.fst).length := by simpa using hk
  obtain ⟨g1, g2, g3⟩ := qc_get (zs.map Prod.fst) (t / 3) hk'
  have e0 : zs.toArray[t / 3]! = zs[t / 3] := by simp [hk]
  rw [e0]
  simp only [List.getElem_map] at g1 g2 g3
  have hm : t % 3 = 0 ∨ t % 3 = 1 ∨ t % 3 = 2 := by omega
  rcases hm with h | h | h
  · rw [h]
    have e : t / 3 * 3 = t := by omega
    rw [e] at g1
    simp [encQ, g1]
  · rw [h]
    have e : t / 3 * 3 + 1 = t := by omega
    rw [e] at g2
    simp [encQ, g2]
  · rw [h]
    have e : t / 3 * 3 + 2 = t := by omega
    rw [e] at g3
    simp [encQ, g3]
theorem holds_qc {w : World} {g : Nat} {cur : Array Value} {e : TypeId} {zs : List Qt} (hb : w.heap[g]? = some (.cells cur e (0, 0))) (ht : cur.toList.take (zs.length * 3) = qc (zs.map Prod.fst)) : HoldsK encQ 3 w g 0 zs.toArray := by
  unfold HoldsK
  rw [flat_qc]
  intro j hj
  have hj' : j < zs.length * 3 := by simpa [qc_length] using hj
  refine ⟨?_, by simp [World.frozen?, hb]⟩
  have h1 : (cur.toList.take (zs.length * 3))[j]? = (qc (zs.map Prod.fst))[j]? := by rw [ht]
  rw [List.getElem?_take_of_lt hj'] at h1
  simp only [World.cell?, hb, Nat.zero_add]
  simp only [Option.isSome_none, Bool.false_eq_true, if_false]
  rw [← Array.getElem?_toList, h1]
  simp [qc_length, hj']
theorem heap_sortedQ {w : World} {g n : Nat} {os : Array Obj} {cur : Array Value} {e : TypeId} {fr : Nat × Nat} (d : Array Value) (hb : w.heap[g]? = some (.cells cur e fr)) :
    (grow (putRow id (Sort.ahead w n) g 0 d) os).heap[g]? = some (.cells (putCells id 0 d cur) e fr) := by
  have hg : g < w.heap.size := (Array.getElem?_eq_some_iff.1 hb).1
  rw [heap_grow_old _ _ (by simpa using hg)]
  simp [putRow, mapBlock, Sort.ahead, Array.getElem?_modify, hb, onCells]
theorem grownBy_sortedQ {w : World} {g n : Nat} {os : Array Obj} (d : Array Value) : w.grownBy (grow (putRow id (Sort.ahead w n) g 0 d) os) (some g) := by
  refine ⟨rfl, rfl, rfl, by simp, fun k hk hne => ?_⟩
  rw [heap_grow_old _ _ (by simpa using hk)]
  have : g ≠ k := fun e => hne (by rw [e])
  simp [putRow, mapBlock, Sort.ahead, Array.getElem?_modify, this]
theorem take_putQ (cur : Array Value) (vs : List Value) (h : vs.length ≤ cur.size) : (putCells id 0 vs.toArray cur).toList.take vs.length = vs := by
  apply List.ext_getElem?
  intro j
  by_cases hj : j < vs.length
  · rw [List.getElem?_take_of_lt hj, Array.getElem?_toList]
    simp [putCells, hj, show j < cur.size by omega]
  · rw [List.getElem?_take_eq_none (by omega), List.getElem?_eq_none (by omega)]
theorem ltQ (x y : Qt) : ltOf cfQ x y = decide (x.1.1 < y.1.1) := by
  unfold ltOf cfQ cmpI
  by_cases h1 : x.1.1 < y.1.1
  · simp [h1]
  · by_cases h2 : y.1.1 < x.1.1 <;> simp [h1, h2]
theorem swoQ : SWO (ltOf cfQ) where
  irrefl x := by rw [ltQ]; simp
  trans x y z h1 h2 := by rw [ltQ, decide_eq_true_iff] at *; omega
  ntrans x y z h1 h2 := by rw [ltQ, decide_eq_false_iff_not] at *; omega
/-- By their places; those of one place as they stood. -/
def AheadQ (x y : Qt) : Prop := x.1.1 < y.1.1 ∨ (x.1.1 = y.1.1 ∧ x.2 < y.2)
structure OrdOf (xs : List Pt) (zs : List Qt) : Prop where
  perm : zs.Perm xs.zipIdx
  sorted : zs.Pairwise AheadQ
theorem OrdOf.length {xs : List Pt} {zs : List Qt} (h : OrdOf xs zs) : zs.length = xs.length := by rw [h.perm.length_eq, List.length_zipIdx]
theorem OrdOf.parts {xs : List Pt} {zs : List Qt} (h : OrdOf xs zs) : (zs.map Prod.fst).Perm xs := by
  have := h.perm.map Prod.fst
  rwa [List.zipIdx_map_fst] at this
theorem ord_post {xs : List Pt} {d' : Array Qt} (h : Sm.Post (ltOf cfQ) Prod.snd xs.zipIdx.toArray 0 xs.length d') : OrdOf xs d'.toList := by
  have hsz : d'.size = xs.length := by have := h.perm.1; simpa using this
  have hp : d'.toList.Perm xs.zipIdx := by
    have := h.perm.2.2
    have e1 : (d'.extract 0 xs.length).toList = d'.toList := by simp [← hsz]
    have e2 : (xs.zipIdx.toArray.extract 0 xs.length).toList = xs.zipIdx := by
      simp only [List.extract_toArray, List.extract_eq_take_drop, List.drop_zero, Nat.sub_zero]
      exact List.take_of_length_le (by simp)
    rwa [e1, e2] at this
  refine ⟨hp, ?_⟩
  have hnd : (d'.toList.map Prod.snd).Nodup := by
    have := (hp.map Prod.snd).nodup_iff.2 (by rw [List.zipIdx_map_snd]; exact List.nodup_range')
    exact this
  rw [List.pairwise_iff_getElem]
  intro i j hi hj hij
  have h1 := h.sorted i j (Nat.zero_le _) hij (by rw [← hsz]; simpa using hj)
  have ei : d'[i]! = d'.toList[i] := by rw [getElem!_pos d' i (by simpa using hi)]; simp
  have ej : d'[j]! = d'.toList[j] := by rw [getElem!_pos d' j (by simpa using hj)]; simp
  rw [ei, ej] at h1
  have h2 := Sm.lt2_false h1
  have hne : (d'.toList[i]).2 ≠ (d'.toList[j]).2 := by
    have := List.pairwise_iff_getElem.1 hnd i j (by simpa using hi) (by simpa using hj) hij
    simpa using this
  unfold Sm.lt2 at h1
  rw [ltQ] at h1 h2
  rw [ltQ] at h1
  simp only [decide_eq_false_iff_not, Bool.or_eq_false_iff, Bool.and_eq_false_iff, Bool.not_eq_false', decide_eq_true_iff] at h1 h2
  unfold AheadQ
  omega
set_option maxRecDepth 100000 in
theorem sortstable_any (g cap : Nat) (xs : List Pt) (n₀ : Nat) (w : World) (hn : xs.length ≤ 40) (hn₀ : n₀ ≤ w.heap.size) (h : w.ownsRow n₀ 50 3 (.slice (some ⟨g, 0, none⟩) xs.length cap) xs.length (qc xs)) :
    Calls Tryd.prog 51 #[.slice (some ⟨g, 0, none⟩) xs.length cap, .func (.func 45) #[] #[]] w fun e w' => e = .returned (.tuple #[]) ∧ ∃ zs, OrdOf xs zs ∧ w'.ownsRow n₀ 50 3 (.slice (some ⟨g, 0, none⟩) xs.length cap) xs.length (qc (zs.map Prod.fst)) ∧ Below n₀ w w' := by
  rcases h.2 with ⟨h0, _⟩ | ⟨g', cap', cur, hv, hg, hb, h1, h2, h3, h4⟩
  · cases h0
  cases hv
  have eg : ∀ args w, (callFunc 45 args).run Tryd.prog w = .ok (.enter 45 args) w := enters_of Tryd.func45 (by kernel_rfl) rfl
  have R : RowK encQ 3 w g 0 xs.zipIdx.toArray := ⟨fun _ => rfl, fun x v hv => by simp [encQ] at hv; rcases hv with rfl | rfl | rfl <;> rfl, holds_qc hb (by rw [List.length_zipIdx, List.zipIdx_map_fst]; exact h4), (Array.getElem?_eq_some_iff.1 hb).1⟩
  have hcon := stable_any stL encQ cfQ Prod.snd swoQ 45 #[] g 0 cap xs.length xs.zipIdx.toArray w eg (fun _ _ _ _ x y => cmpQ_any x.1 y.1 _) R (by simp) hn (fun p q hpq hq => by
    have e1 : xs.zipIdx.toArray[p]! = (xs[p], p) := by simp [show p < xs.length by omega]
    have e2 : xs.zipIdx.toArray[q]! = (xs[q], q) := by simp [hq]
    rw [e1, e2]
    exact hpq)
  have HC := Lib.hid hcon
  have HH := Lib.hid (And.intro hb (And.intro h1 (And.intro h2 (And.intro h3 hg))))
  clear hcon hb h h4 R
  go_enter Tryd.func51, Tryd.ntmps51
  go_wp2_with (go_at_call 59; refine HC.out.mono ?_; rintro e w' ⟨rfl, d', P', n, os, rfl⟩)
  go_end0
  have hO := ord_post P'
  have hl : (qc (d'.toList.map Prod.fst)).length = xs.length * 3 := by rw [qc_length, List.length_map, hO.length]
  have es : sortWorldK encQ 3 w g 0 n d' os = grow (putRow id (Sort.ahead w n) g 0 (qc (d'.toList.map Prod.fst)).toArray) os := by
    unfold sortWorldK putRowK
    rw [← flat_qc, Array.toArray_toList]
  rw [es]
  obtain ⟨hb, h1, h2, h3, hg⟩ := HH.out
  refine ⟨rfl, d'.toList, hO, ⟨hl, .inr ⟨g, cap, _, rfl, hg, heap_sortedQ _ hb, h1, h2, by simp [putCells, h3], ?_⟩⟩, ?_⟩
  · rw [← hl]; exact take_putQ _ _ (by omega)
  · exact (Below.refl n₀ w).grown (grownBy_sortedQ _) hn₀ fun k e => by cases e; exact hg
theorem ins_nil (fv : Value) (w : World) : Calls Tryd.prog 63 #[.slice none 0 0, .int .i64 0, .int .i64 0, fv] w fun e w' => e = .returned (.tuple #[]) ∧ w' = w := by
  go_enter Tryd.func63, Tryd.ntmps63
  go_wp2
  refine wp_loop_rounds 1 ?_
  rw [rounds_succ]
  go_wp2
  go_end0
  exact ⟨rfl, rfl⟩
theorem sort_nil (fv : Value) (w : World) : Calls Tryd.prog 51 #[.slice none 0 0, fv] w fun e w' => e = .returned (.tuple #[]) ∧ w' = w := by
  have hs : Calls Tryd.prog 59 #[.slice none 0 0, .int .i64 0, fv] w fun e w' => e = .returned (.tuple #[]) ∧ w' = w := by
    go_enter Tryd.func59, Tryd.ntmps59
    go_wp2
    refine wp_loop_rounds 1 ?_
    rw [rounds_succ]
    go_wp2_with (go_at_call 63; refine (ins_nil _ _).mono ?_; rintro e w' ⟨rfl, rfl⟩)
    refine wp_loop_rounds 1 ?_
    rw [rounds_succ]
    go_wp2
    go_end0
    exact ⟨rfl, rfl⟩
  go_enter Tryd.func51, Tryd.ntmps51
  go_wp2_with (go_at_call 59; refine hs.mono ?_; rintro e w' ⟨rfl, rfl⟩)
  go_end0
  exact ⟨rfl, rfl⟩
set_option maxRecDepth 100000 in
theorem qsorted_any (A : Option Addr) (n c Bs n₀ : Nat) (xs : List Pt) (hn : n ≤ 40) (w : World) (hBs : Bs < w.heap.size) (hn₀ : n₀ ≤ w.heap.size)
    (hc : w.cell? ⟨Bs, 0, none⟩ = some (.slice A n c)) (hr : Rds w 3 A n (qc xs)) (hlow : ∀ a, A = some a → 0 < n → a.block < n₀) :
    Calls Tryd.prog 43 #[.func (.func 52) #[] #[.pointer (some ⟨Bs, 0, none⟩)], .func (.func 45) #[] #[]] w fun e w' => ∃ v zs, e = .returned v ∧ OrdOf xs zs ∧ w'.ownsRow n₀ 50 3 v xs.length (qc (zs.map Prod.fst)) ∧ Below n₀ w w' := by
  obtain rfl : n = xs.length := hr.qlen
  have hcol : Calls Tryd.prog 50 _ w _ := callsIn_wide.1 (qcollect_in Fence.wide 4 trivial trivial trivial rfl (by omega) A xs.length c Bs n₀ xs (by omega) w hBs hn₀ hc hr hlow)
  go_enter Tryd.func43, Tryd.ntmps43
  go_wp2_with (go_at_call 50; refine hcol.mono ?_; rintro e w' ⟨v, rfl, g1, g2, g3⟩)
  rcases g1.2 with ⟨rfl, h0⟩ | ⟨g, cap, cur, rfl, _⟩
  · obtain rfl : xs = [] := List.length_eq_zero_iff.1 h0
    go_wp2_with (go_at_call 51; refine (sort_nil _ _).mono ?_; rintro e w' ⟨rfl, rfl⟩)
    go_ret
    exact ⟨.slice none 0 0, [], rfl, ⟨by simp, List.Pairwise.nil⟩, g1, g3⟩
  · go_wp2_with (go_at_call 51; refine (sortstable_any g cap xs n₀ _ hn (Nat.le_trans hn₀ g3.size) g1).mono ?_; rintro e w' ⟨rfl, zs, k0, k1, k2⟩)
    go_ret
    exact ⟨_, zs, rfl, k0, k1, g3.trans k2⟩
theorem qvalues_any (A : Option Addr) (n c : Nat) (w : World) :
    Calls Tryd.prog 44 #[.slice A n c] w fun e w' => e = .returned (.func (.func 52) #[] #[.pointer (some ⟨w.heap.size, 0, none⟩)]) ∧ w' = w.alloc (.cells #[.slice A n c] 23) :=
  callsIn_wide.1 (qvalues_in Fence.wide 4 trivial rfl A n c w)
/-- What Order hands back. -/
def OrderPost (xs : List Pt) (w : World) (e : Ending) (w' : World) : Prop :=
  Below w.heap.size w w' ∧ (40 < xs.length → e = .returned (.tuple #[.slice none 0 0, .iface 60 (.int .i64 4)])) ∧
    (xs.length ≤ 40 → ∃ (A : Option Addr) (c : Nat) (zs : List Qt), e = .returned (.tuple #[.slice A xs.length c, .nilIface]) ∧ OrdOf xs zs ∧ OwnQ w' w.heap.size (.slice A xs.length c) (zs.map Prod.fst))
set_option maxRecDepth 100000 in
set_option maxHeartbeats 2000000 in
theorem order_any (A : Option Addr) (n c : Nat) (xs : List Pt) (w : World) (hr : Rds w 3 A n (qc xs)) (hn : n ≤ maxLen) :
    Calls Tryd.prog 28 #[.slice A n c] w (OrderPost xs w) := by
  obtain rfl : n = xs.length := hr.qlen
  unfold maxLen at hn
  by_cases h40 : 40 < xs.length
  · have h40z : (xs.length : Int) > 40 := by omega
    go_enter Tryd.func28, Tryd.ntmps28
    go_wp2
    go_ret2
    exact ⟨Below.refl _ _, fun _ => rfl, fun h => absurd h (by omega)⟩
  · have h40z : ¬ (40 : Int) < (xs.length : Int) := by omega
    have hlow : ∀ a, A = some a → 0 < xs.length → a.block < w.heap.size := fun a ha h0 => by
      obtain ⟨b, off, _, e, hc1, _, _⟩ := hr.part h0
      rw [e] at ha
      cases ha
      exact cell_lt hc1
    have hV := Lib.hid (fun w' => qvalues_any A xs.length c w')
    obtain ⟨W0, hW0⟩ : ∃ W0, w.alloc (.cells #[.slice A xs.length c] 23) = W0 := ⟨_, rfl⟩
    have hB0 : Below w.heap.size w W0 := by rw [← hW0]; exact (Below.refl _ _).alloc (Nat.le_refl _) _
    have hs0 : W0.heap.size = w.heap.size + 1 := by rw [← hW0]; simp
    have hc0 : W0.cell? ⟨w.heap.size, 0, none⟩ = some (.slice A xs.length c) := by rw [← hW0]; simp
    have hS := Lib.hid (qsorted_any A xs.length c w.heap.size w.heap.size xs (by omega) W0 (by omega) (by omega) hc0 (hr.below hB0) hlow)
    clear hlow hr hc0
    go_enter Tryd.func28, Tryd.ntmps28
    go_wp2_with ((first | (go_at_call 44; with_reducible refine (hV.out _).mono ?_; rintro e w' ⟨rfl, rfl⟩; rw [hW0]) | (go_at_call 43; with_reducible refine hS.out.mono ?_; rintro e w' ⟨v, zs, rfl, hO, hSo, hB1⟩; generalize w' = W1 at *)))
    have hOwn : OwnQ W1 w.heap.size v (zs.map Prod.fst) := by
      have e : xs.length = (zs.map Prod.fst).length := by rw [List.length_map, hO.length]
      unfold OwnQ
      rw [← e]
      exact hSo
    obtain ⟨AS, cS, rfl, _, _⟩ := hOwn.shape
    rw [List.length_map, hO.length] at hOwn ⊢
    go_ret2
    exact ⟨hB0.trans hB1, fun h => absurd h h40, fun _ => ⟨AS, cS, zs, rfl, hO, hOwn⟩⟩
end Go.Proofs.YtbmajajndckfoaaDoor
