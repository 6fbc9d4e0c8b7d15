/- slices.Values at parts: its iterator. -/
import Derived.RangeFuncNested
import Derived.RangeFuncBound
import Derived.RangeFuncCalls
import Derived.RangeFuncLeaves
import Derived.RangeFuncBox
import Derived.Shelf.Abstract
import Derived.Shelf.RegionOpen
import Derived.OwnWalkIn
import Derived.TacticsInMore
import Derived.LoopNIn
import Derived.LoopIn
import Derived.Test.YtbmajajndckfoaaDoorPartRow
namespace Go.Proofs.YtbmajajndckfoaaDoor
open Go.RowKit Go.Shelf
attribute [local go_sem] Oper.semAt_some

set_option maxRecDepth 100000 in
set_option maxHeartbeats 1000000 in
theorem qvalues_in (F : Fence) (q : Nat) (hF : F.fn 44) (hro : F.round = none) (A : Option Addr) (n c : Nat) (w : World) :
    CallsIn F q Tryd.prog 44 #[.slice A n c] w fun e w' => e = .returned (.func (.func 52) #[] #[.pointer (some ⟨w.heap.size, 0, none⟩)]) ∧ w' = w.alloc (.cells #[.slice A n c] 23) := by
  refine callsIn_of_wp Tryd.func44 rfl hF ?_ hro
  simp only [Tryd.ntmps44, List.size_toArray, List.length_cons, List.length_nil, Nat.reduceAdd, Nat.reduceSub, Array.replicate_succ, Array.replicate_zero, List.push_toArray, List.append_toArray, List.nil_append, List.cons_append]
  gi_wp2
  go_ret
  exact ⟨rfl, rfl⟩

theorem abides_alloc {β : Type} {B : Nat} {J : β → World → Prop} (h : AbidesFrom B J) {s : β} {W : World} (o : Obj) (hs : J s W) : J s (W.alloc o) :=
  h s W _ none hs (World.grownBy_alloc W o none) (fun r e => by cases e)

set_option maxRecDepth 100000 in
set_option maxHeartbeats 4000000 in
theorem qvalues_stops (F : Fence) (q : Nat) (hF : F.fn 52) (hro : F.round = none) (hq : 1 ≤ q) (A : Option Addr) (n c Bs n₀ : Nat) (xs : List Pt) (hn : n ≤ 1000000) (w : World) (hBs : Bs < w.heap.size) (hn₀ : n₀ ≤ w.heap.size)
    (hc : w.cell? ⟨Bs, 0, none⟩ = some (.slice A n c)) (hr : Rds w 3 A n (qc xs)) (hlow : ∀ a, A = some a → 0 < n → a.block < n₀) :
    SeqStopsK F q Tryd.prog 52 #[.pointer (some ⟨Bs, 0, none⟩)] (fun x : Pt => #[.agg #[.int .i64 x.1, .bool x.2.1, .string x.2.2]]) (Below n₀) (fun ys => ys = xs) (fun pre => pre <+: xs) xs.length w := by
  intro l J Jx W hW hJ hJx hY h0
  have hc' := (hW.cell (p := ⟨Bs, 0, none⟩) hBs).trans hc
  have hr' := hr.below hW
  have hWn : n₀ ≤ W.heap.size := Nat.le_trans hn₀ hW.size
  obtain rfl : n = xs.length := hr.qlen
  refine callsIn_of_wp Tryd.func52 rfl hF ?_ hro
  simp only [Tryd.ntmps52, List.size_toArray, List.length_cons, List.length_nil, Nat.reduceAdd, Nat.reduceSub, Array.replicate_succ, Array.replicate_zero, List.push_toArray, List.append_toArray, List.nil_append, List.cons_append]
  gi_wp2
  gi_loopw [4, 7] (fun _ i wr => ∃ k : Nat, k ≤ xs.length ∧ i = .int .i64 k ∧ J (xs.take k) wr ∧ Below n₀ W wr) (fun _ i _ => xs.length - (intOf i).toNat)
  case atStart => exact ⟨0, Nat.zero_le _, rfl, h0, Below.refl _ _⟩
  case round =>
    obtain ⟨k, hk, rfl, hJs, hnx⟩ := hrel
    by_cases hlt : k < xs.length
    · obtain ⟨b, off, hk', rfl, hx1, hx2, hx3⟩ := hr'.part hlt
      have hb := hlow _ rfl (by omega)
      have hd1 := (hnx.cell (p := ⟨b, off + k * 3, none⟩) hb).trans hx1
      have hd2 := (hnx.cell (p := ⟨b, off + k * 3 + 1, none⟩) hb).trans hx2
      have hd3 := (hnx.cell (p := ⟨b, off + k * 3 + 2, none⟩) hb).trans hx3
      have HT := Lib.hid (List.take_succ_eq_append_getElem hlt)
      obtain ⟨fn, tmps, assign, body, hy, hR⟩ := hY _ xs[k] (wr.alloc (.cells #[.int .i64 xs[k].1, .bool xs[k].2.1, .string xs[k].2.2] 50)) (abides_alloc hJ _ hJs) (by rw [List.length_take]; omega)
      generalize xs[k] = x at *
      have hb2 := hnx.alloc (Nat.le_trans hWn hnx.size) (.cells #[.int .i64 x.1, .bool x.2.1, .string x.2.2] 50)
      clear hx1 hx2 hx3
      gi_wp2
      refine hR.mono ?_
      rintro e W3 (⟨rfl, hJ3, hk3⟩ | ⟨rfl, hJx3⟩)
      · gi_wp2
        go_roundw
        case rel => exact ⟨k + 1, by omega, by simp, by rw [HT.out]; exact hJ3, hb2.trans hk3⟩
        case measure => simp [intOf]; omega
      · gi_wp2
        refine bodyPost_ret (results_none rfl _ _ _) rfl ?_
        exact ⟨⟨_, rfl⟩, .inr ⟨_, ⟨xs.drop (k + 1), by rw [← HT.out, List.take_append_drop]⟩, hJx3⟩⟩
    · obtain rfl : k = xs.length := by omega
      rw [List.take_length] at hJs
      gi_wp2
      go_end0
      exact ⟨⟨_, rfl⟩, .inl ⟨_, rfl, hJs⟩⟩
end Go.Proofs.YtbmajajndckfoaaDoor
