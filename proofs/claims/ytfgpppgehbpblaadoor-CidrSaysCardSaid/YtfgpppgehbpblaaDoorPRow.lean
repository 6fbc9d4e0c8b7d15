/- Rows of prefixes of the call's own: read, shortened, appended to. -/
import Derived.Test.YtfgpppgehbpblaaDoorPfx
import Derived.Test.YtfgpppgehbpblaaDoorGrown
import Derived.Maps.AppendAt
import Derived.OwnWalk
import Derived.Deep.RegionLaw
namespace Go.Proofs.YtfgpppgehbpblaaDoor
open Go.RowKit
theorem info_pfx2 : (Tryd.prog.info? 23).map (fun i => (i.zero, i.size, i.bytes)) = some (some (.agg #[.int .i64 0, .int .i64 0]), 2, 16) := by kernel_rfl
def OwnP (w : World) (base : Nat) (v : Value) (xs : List (Int × Int)) : Prop := w.ownsRow base 23 2 v xs.length (pc xs)
theorem OwnP.shape {w : World} {base : Nat} {v : Value} {xs : List (Int × Int)} (h : OwnP w base v xs) : ∃ A c, v = .slice A xs.length c := by
  rcases h.2 with ⟨rfl, h0⟩ | ⟨g, cap, cur, rfl, _⟩
  · exact ⟨none, 0, by rw [h0]⟩
  · exact ⟨_, _, rfl⟩
theorem OwnP.rds {w : World} {base : Nat} {A : Option Addr} {n c : Nat} {xs : List (Int × Int)} (h : OwnP w base (.slice A n c) xs) : Rds w 2 A n (pc xs) := by
  obtain ⟨A', c', e⟩ := h.shape
  cases e
  exact Rds.of_own h
theorem OwnP.len {w : World} {base : Nat} {A : Option Addr} {n c : Nat} {xs : List (Int × Int)} (h : OwnP w base (.slice A n c) xs) : n = xs.length := by
  obtain ⟨A', c', e⟩ := h.shape
  cases e
  rfl
theorem OwnP.keep {w w' : World} {base : Nat} {v : Value} {xs : List (Int × Int)} (h : OwnP w base v xs) (hb : Below w.heap.size w w') : OwnP w' base v xs := own_below h hb
theorem OwnP.full {w : World} {base : Nat} {v : Value} {xs : List (Int × Int)} (h : OwnP w base v xs) (h0 : xs ≠ []) : ∃ g c, v = .slice (some ⟨g, 0, none⟩) xs.length c ∧ base ≤ g ∧ g < w.heap.size ∧ xs.length ≤ c ∧ c ≤ maxLen := by
  rcases h.2 with ⟨_, h1⟩ | ⟨g, cap, cur, rfl, h1, h2, h3, h4, _⟩
  · exact absurd (List.length_eq_zero_iff.1 h1) h0
  · exact ⟨_, _, rfl, h1, (Array.getElem?_eq_some_iff.1 h2).1, h3, h4⟩
theorem OwnP.cells {w : World} {base g c : Nat} {n : Nat} {xs : List (Int × Int)} (h : OwnP w base (.slice (some ⟨g, 0, none⟩) n c) xs) (k : Nat) (hk : k < xs.length) :
    w.cell? ⟨g, k * 2, none⟩ = some (.int .i64 xs[k].1) ∧ w.cell? ⟨g, k * 2 + 1, none⟩ = some (.int .i64 xs[k].2) := by
  obtain ⟨A, c', e⟩ := h.shape
  cases e
  obtain ⟨g1, g2⟩ := pc_get xs k hk
  exact ⟨(World.ownsRow.cellAt h (k * 2) (by omega)).trans g1, (World.ownsRow.cellAt h (k * 2 + 1) (by omega)).trans g2⟩
theorem OwnP.mono {w w' : World} {base : Nat} {v : Value} {xs : List (Int × Int)} (h : OwnP w base v xs) (hg : Grew w w') : OwnP w' base v xs := hg.row h
theorem pc_take (xs : List (Int × Int)) (m : Nat) : pc (xs.take m) = (pc xs).take (m * 2) := by
  induction xs generalizing m with
  | nil => simp [pc]
  | cons x t ih =>
    cases m with
    | zero => simp [pc]
    | succ m =>
      rw [List.take_succ_cons, show pc (x :: t.take m) = .int .i64 x.1 :: .int .i64 x.2 :: pc (t.take m) from by simp [pc], show pc (x :: t) = .int .i64 x.1 :: .int .i64 x.2 :: pc t from by simp [pc], show (m + 1) * 2 = m * 2 + 1 + 1 from by omega, List.take_succ_cons, List.take_succ_cons, ih]
theorem OwnP.take {w : World} {base g n c : Nat} {xs : List (Int × Int)} (h : OwnP w base (.slice (some ⟨g, 0, none⟩) n c) xs) (m : Nat) (hm : m ≤ xs.length) : OwnP w base (.slice (some ⟨g, 0, none⟩) m c) (xs.take m) := by
  rcases h.2 with ⟨h0, _⟩ | ⟨g', cap, cur, e, h1, h2, h3, h4, h5, h6⟩
  · cases h0
  · cases e
    have hl : (xs.take m).length = m := by simp; omega
    refine ⟨by rw [pc_length], .inr ⟨g, c, cur, by rw [hl], h1, h2, by omega, h4, h5, ?_⟩⟩
    rw [hl, pc_take, ← h6, List.take_take]
    congr 1
    omega
theorem rds_pfx (w : World) (z : Int × Int) (t : TypeId) : Rds (w.alloc (.cells #[.int .i64 z.1, .int .i64 z.2] t)) 2 (some ⟨w.heap.size, 0, none⟩) 1 (pc [z]) := by
  refine ⟨rfl, fun _ => ⟨_, _, rfl, fun j hj => ?_⟩⟩
  match j, hj with
  | 0, _ => rw [World.cell?_alloc_at _ _ _ _ (by simp)]; rfl
  | 1, _ => rw [World.cell?_alloc_at _ _ _ _ (by simp)]; rfl
theorem below_ownP {W w w' : World} {base : Nat} {e : TypeId} {size : Nat} {v : Value} {n : Nat} {xs : List Value} (hB : Below base W w) (hg : w.grownBy w' v.ownBlock) (hbase : base ≤ w.heap.size) (hown : w.ownsRow base e size v n xs) : Below base W w' := by
  refine hB.grown hg hbase fun k hk => ?_
  rcases hown.2 with ⟨rfl, _⟩ | ⟨g, cap, cur, rfl, hge, _⟩
  · simp [Value.ownBlock] at hk
  · simp [Value.ownBlock] at hk; omega
/-- append(s, z): one prefix; behind 'at_builtin' (the prefix lies in a new block). -/
theorem wp_append_pfx (w0 : World) {ops : Array Oper} {rest : List Oper} {o : Oper} {a : Act} {Q : Exit → Act → World → Prop} {t : TypeId} {c : Nat} (hgd : o.guard = none) (s x : Operand)
    (ho : o.op = .call { callee := .builtin .append, args := #[s, x], argTypes := #[24, 24] })
    (base : Nat) (v : Value) (xs : List (Int × Int)) (hs : a.eval s = v) (hown : OwnP w0 base v xs)
    (z : Int × Int) (hx : a.eval x = .slice (some ⟨w0.heap.size, 0, none⟩) 1 c)
    (hlen : xs.length + 1 ≤ 1000000) (hbase : base ≤ w0.heap.size)
    (h : ∀ A' c' w', OwnP w' base (.slice A' (xs.length + 1) c') (xs ++ [z]) → Below base w0 w' → wpList Tryd.prog ops Q rest (a.put o.dst (.slice A' (xs.length + 1) c')) w') :
    wpList Tryd.prog ops Q (o :: rest) a (w0.alloc (.cells #[.int .i64 z.1, .int .i64 z.2] t)) := by
  obtain ⟨i0, hi, hz0, hz1, hz2⟩ := info_parts info_pfx2
  refine wpList_append_rds _ hgd s x 24 ho base 23 i0 (.agg #[.int .i64 0, .int .i64 0]) 2 16 Tryd.underlying24 hi hz0 hz1 hz2 rfl (by omega) v xs.length (pc xs) hs (own_below hown ((Below.refl _ _).alloc (Nat.le_refl _) _)) _ 1 c (pc [z]) hx (rds_pfx w0 z t) (pc_one _) (by unfold maxLen; omega) (by omega) (by simp; omega) ?_
  intro v' w' h1 h2 h3
  obtain ⟨A', c', rfl, hc1, hc2⟩ := own_slice h1
  refine h A' c' w' ?_ (below_ownP ((Below.refl _ _).alloc hbase _) h2 (by simp; omega) (own_below hown ((Below.refl _ _).alloc (Nat.le_refl _) _)))
  unfold OwnP
  rw [List.length_append, pc_append]
  exact h1
/-- The same inside a region that draws its order (go_region_law). -/
theorem step_append_pfx (w : World) {ops : Array Oper} {o : Oper} {a : Act} {K : Act → World → Prop} {Q : Exit → Act → World → Prop} {E : Prop} (hgd : o.guard = none) (s x : Operand)
    (ho : o.op = .call { callee := .builtin .append, args := #[s, x], argTypes := #[24, 24] })
    (base : Nat) (v : Value) (xs : List (Int × Int)) (hs : a.eval s = v) (hown : OwnP w base v xs)
    (z : Int × Int) (A : Option Addr) (c : Nat) (hx : a.eval x = .slice A 1 c) (hr : Rds w 2 A 1 (pc [z]))
    (hlen : xs.length + 1 ≤ 1000000) (hbase : base ≤ w.heap.size)
    (h : ∀ A' c' w', OwnP w' base (.slice A' (xs.length + 1) c') (xs ++ [z]) → Below base w w' → K (a.put o.dst (.slice A' (xs.length + 1) c')) w') : if Region.wanted o (yielded ops a.tmps) = true then Oper.wp Tryd.prog o a w K Q else E := by
  have hw : Region.wanted o (yielded ops a.tmps) = true := by simp [Region.wanted, hgd]
  rw [if_pos hw]
  obtain ⟨i0, hi, hz0, hz1, hz2⟩ := info_parts info_pfx2
  refine wp_append_rds w s x 24 ho base 23 i0 (.agg #[.int .i64 0, .int .i64 0]) 2 16 Tryd.underlying24 hi hz0 hz1 hz2 rfl (by omega) v xs.length (pc xs) hs hown A 1 c (pc [z]) hx hr (pc_one _) (by unfold maxLen; omega) (by omega) hbase ?_
  intro v' w' h1 h2 h3
  obtain ⟨A', c', rfl, hc1, hc2⟩ := own_slice h1
  refine h A' c' w' ?_ (below_ownP (Below.refl _ _) h2 hbase hown)
  unfold OwnP
  rw [List.length_append, pc_append]
  exact h1
end Go.Proofs.YtfgpppgehbpblaaDoor
