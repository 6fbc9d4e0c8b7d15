/- Slices of prefixes (two cells an element); slices.Values, AppendSeq, Collect at them. -/
import Derived.RangeFuncNested
import Derived.RangeFuncBound
import Derived.RangeFuncCalls
import Derived.RangeFuncLeaves
import Derived.RangeFuncBox
import Derived.Shelf.Abstract
import Derived.Shelf.RegionOpen
import Derived.OwnWalkIn
import Derived.TacticsInMore
import Derived.LoopNIn
import Derived.LoopIn
import Derived.Test.YtfgpppgehbpblaaDoorWithin
namespace Go.Proofs.YtfgpppgehbpblaaDoor
open Go.RowKit Go.Shelf
attribute [local go_sem] Oper.semAt_some

/-- The cells of a list of prefixes. -/
def pc (xs : List (Int × Int)) : List Value := xs.flatMap fun p => [.int .i64 p.1, .int .i64 p.2]
theorem pc_length (xs : List (Int × Int)) : (pc xs).length = xs.length * 2 := by
  induction xs with
  | nil => rfl
  | cons x t ih => simp only [pc, List.flatMap_cons, List.length_append, List.length_cons, List.length_nil] at ih ⊢; omega
theorem pc_append (xs ys : List (Int × Int)) : pc (xs ++ ys) = pc xs ++ pc ys := by simp [pc]
theorem pc_get : ∀ (xs : List (Int × Int)) (k : Nat) (h : k < xs.length), (pc xs)[k * 2]? = some (.int .i64 xs[k].1) ∧ (pc xs)[k * 2 + 1]? = some (.int .i64 xs[k].2)
  | x :: t, 0, _ => by simp [pc]
  | x :: t, k + 1, h => by
    have := pc_get t k (by simpa using h)
    have e : pc (x :: t) = .int .i64 x.1 :: .int .i64 x.2 :: pc t := by simp [pc]
    rw [e, show (k + 1) * 2 = k * 2 + 1 + 1 from by omega]
    simpa using this
theorem pc_one (xs : List (Int × Int)) : ∀ u ∈ pc xs, u.oneCell' = true := by
  intro u hu
  simp only [pc, List.mem_flatMap, List.mem_cons, List.not_mem_nil, or_false] at hu
  obtain ⟨p, _, rfl | rfl⟩ := hu <;> rfl
theorem Rds.pfx {w : World} {A : Option Addr} {n k : Nat} {xs : List (Int × Int)} (h : Rds w 2 A n (pc xs)) (hk : k < n) :
    ∃ b off, ∃ hk' : k < xs.length, A = some ⟨b, off, none⟩ ∧ w.cell? ⟨b, off + k * 2, none⟩ = some (.int .i64 xs[k].1) ∧ w.cell? ⟨b, off + k * 2 + 1, none⟩ = some (.int .i64 xs[k].2) := by
  have hl := h.1
  rw [pc_length] at hl
  have hk' : k < xs.length := by omega
  obtain ⟨b, off, e, hc⟩ := h.2 (by rw [pc_length]; omega)
  obtain ⟨g1, g2⟩ := pc_get xs k hk'
  refine ⟨b, off, hk', e, ?_, ?_⟩
  · rw [hc (k * 2) (by rw [pc_length]; omega), g1]
  · rw [Nat.add_assoc, hc (k * 2 + 1) (by rw [pc_length]; omega), g2]
theorem Rds.plen {w : World} {A : Option Addr} {n : Nat} {xs : List (Int × Int)} (h : Rds w 2 A n (pc xs)) : n = xs.length := by
  have := h.1; rw [pc_length] at this; omega

set_option maxRecDepth 100000 in
set_option maxHeartbeats 1000000 in
theorem pvalues_in (F : Fence) (q : Nat) (hF : F.fn 36) (hro : F.round = none) (A : Option Addr) (n c : Nat) (w : World) :
    CallsIn F q Tryd.prog 36 #[.slice A n c] w fun e w' => e = .returned (.func (.func 49) #[] #[.pointer (some ⟨w.heap.size, 0, none⟩)]) ∧ w' = w.alloc (.cells #[.slice A n c] 24) := by
  refine callsIn_of_wp Tryd.func36 rfl hF ?_ hro
  simp only [Tryd.ntmps36, List.size_toArray, List.length_cons, List.length_nil, Nat.reduceAdd, Nat.reduceSub, Array.replicate_succ, Array.replicate_zero, List.push_toArray, List.append_toArray, List.nil_append, List.cons_append]
  gi_wp2
  go_ret
  exact ⟨rfl, rfl⟩

theorem abides_alloc {β : Type} {B : Nat} {J : β → World → Prop} (h : AbidesFrom B J) {s : β} {W : World} (o : Obj) (hs : J s W) : J s (W.alloc o) :=
  h s W _ none hs (World.grownBy_alloc W o none) (fun r e => by cases e)

set_option maxRecDepth 100000 in
set_option maxHeartbeats 4000000 in
theorem pvalues_stops (F : Fence) (q : Nat) (hF : F.fn 49) (hro : F.round = none) (hq : 1 ≤ q) (A : Option Addr) (n c Bs n₀ : Nat) (xs : List (Int × Int)) (hn : n ≤ 1000000) (w : World) (hBs : Bs < w.heap.size) (hn₀ : n₀ ≤ w.heap.size)
    (hc : w.cell? ⟨Bs, 0, none⟩ = some (.slice A n c)) (hr : Rds w 2 A n (pc xs)) (hlow : ∀ a, A = some a → 0 < n → a.block < n₀) :
    SeqStopsK F q Tryd.prog 49 #[.pointer (some ⟨Bs, 0, none⟩)] (fun x : Int × Int => #[.agg #[.int .i64 x.1, .int .i64 x.2]]) (Below n₀) (fun ys => ys = xs) (fun pre => pre <+: xs) xs.length w := by
  intro l J Jx W hW hJ hJx hY h0
  have hc' := (hW.cell (p := ⟨Bs, 0, none⟩) hBs).trans hc
  have hr' := hr.below hW
  have hWn : n₀ ≤ W.heap.size := Nat.le_trans hn₀ hW.size
  obtain rfl : n = xs.length := hr.plen
  refine callsIn_of_wp Tryd.func49 rfl hF ?_ hro
  simp only [Tryd.ntmps49, List.size_toArray, List.length_cons, List.length_nil, Nat.reduceAdd, Nat.reduceSub, Array.replicate_succ, Array.replicate_zero, List.push_toArray, List.append_toArray, List.nil_append, List.cons_append]
  gi_wp2
  gi_loopw [4, 7] (fun _ i wr => ∃ k : Nat, k ≤ xs.length ∧ i = .int .i64 k ∧ J (xs.take k) wr ∧ Below n₀ W wr) (fun _ i _ => xs.length - (intOf i).toNat)
  case atStart => exact ⟨0, Nat.zero_le _, rfl, h0, Below.refl _ _⟩
  case round =>
    obtain ⟨k, hk, rfl, hJs, hnx⟩ := hrel
    by_cases hlt : k < xs.length
    · obtain ⟨b, off, hk', rfl, hx1, hx2⟩ := hr'.pfx hlt
      have hb := hlow _ rfl (by omega)
      have hd1 := (hnx.cell (p := ⟨b, off + k * 2, none⟩) hb).trans hx1
      have hd2 := (hnx.cell (p := ⟨b, off + k * 2 + 1, none⟩) hb).trans hx2
      have HT := Lib.hid (List.take_succ_eq_append_getElem hlt)
      obtain ⟨fn, tmps, assign, body, hy, hR⟩ := hY _ xs[k] (wr.alloc (.cells #[.int .i64 xs[k].1, .int .i64 xs[k].2] 23)) (abides_alloc hJ _ hJs) (by rw [List.length_take]; omega)
      generalize xs[k] = x at *
      have hb2 := hnx.alloc (Nat.le_trans hWn hnx.size) (.cells #[.int .i64 x.1, .int .i64 x.2] 23)
      clear hx1 hx2
      gi_wp2
      refine hR.mono ?_
      rintro e W3 (⟨rfl, hJ3, hk3⟩ | ⟨rfl, hJx3⟩)
      · gi_wp2
        go_roundw
        case rel => exact ⟨k + 1, by omega, by simp, by rw [HT.out]; exact hJ3, hb2.trans hk3⟩
        case measure => simp [intOf]; omega
      · gi_wp2
        refine bodyPost_ret (results_none rfl _ _ _) rfl ?_
        exact ⟨⟨_, rfl⟩, .inr ⟨_, ⟨xs.drop (k + 1), by rw [← HT.out, List.take_append_drop]⟩, hJx3⟩⟩
    · obtain rfl : k = xs.length := by omega
      rw [List.take_length] at hJs
      gi_wp2
      go_end0
      exact ⟨⟨_, rfl⟩, .inl ⟨_, rfl, hJs⟩⟩
end Go.Proofs.YtfgpppgehbpblaaDoor
