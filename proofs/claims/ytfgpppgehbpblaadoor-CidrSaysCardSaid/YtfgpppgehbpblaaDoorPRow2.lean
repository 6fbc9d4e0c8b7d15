/- append(s, x...) at rows of prefixes of the call's own. -/
import Derived.Test.YtfgpppgehbpblaaDoorPRow
namespace Go.Proofs.YtfgpppgehbpblaaDoor
open Go.RowKit
theorem wp_append_pfxs (w0 : World) {ops : Array Oper} {rest : List Oper} {o : Oper} {a : Act} {Q : Exit → Act → World → Prop} (hgd : o.guard = none) (s x : Operand)
    (ho : o.op = .call { callee := .builtin .append, args := #[s, x], argTypes := #[24, 24] })
    (base : Nat) (v : Value) (xs : List (Int × Int)) (hs : a.eval s = v) (hown : OwnP w0 base v xs)
    (A : Option Addr) (m c : Nat) (ys : List (Int × Int)) (hx : a.eval x = .slice A m c) (hr : Rds w0 2 A m (pc ys))
    (hlen : xs.length + m ≤ 1000000) (hbase : base ≤ w0.heap.size)
    (h : ∀ A' c' w', OwnP w' base (.slice A' (xs.length + m) c') (xs ++ ys) → Below base w0 w' → wpList Tryd.prog ops Q rest (a.put o.dst (.slice A' (xs.length + m) c')) w') :
    wpList Tryd.prog ops Q (o :: rest) a w0 := by
  obtain ⟨i0, hi, hz0, hz1, hz2⟩ := info_parts info_pfx2
  refine wpList_append_rds _ hgd s x 24 ho base 23 i0 (.agg #[.int .i64 0, .int .i64 0]) 2 16 Tryd.underlying24 hi hz0 hz1 hz2 rfl (by omega) v xs.length (pc xs) hs hown A m c (pc ys) hx hr (pc_one _) (by unfold maxLen; omega) (by omega) hbase ?_
  intro v' w' h1 h2 h3
  obtain ⟨A', c', rfl, hc1, hc2⟩ := own_slice h1
  refine h A' c' w' ?_ (below_ownP (Below.refl _ _) h2 hbase hown)
  unfold OwnP
  rw [List.length_append, pc_append, ← hr.plen]
  exact h1
end Go.Proofs.YtfgpppgehbpblaaDoor
