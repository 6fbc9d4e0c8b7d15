/- Rows of routes (three cells an element): read, and of the call's own: appended to; two routes compared. -/
import Derived.Test.YtfgpppgehbpblaaDoorLpmList
import Derived.Test.YtfgpppgehbpblaaDoorGrown
import Derived.Maps.AppendAt
import Derived.OwnWalk
import Derived.Deep.RegionLaw
import Derived.Laws.StructEq
namespace Go.Proofs.YtfgpppgehbpblaaDoor
open Go.RowKit Lp
def rc (xs : List Rt) : List Value := xs.flatMap fun p => [.int .i64 p.1, .int .i64 p.2.1, .int .i64 p.2.2]
theorem rc_cons (x : Rt) (t : List Rt) : rc (x :: t) = .int .i64 x.1 :: .int .i64 x.2.1 :: .int .i64 x.2.2 :: rc t := by simp [rc]
theorem rc_length (xs : List Rt) : (rc xs).length = xs.length * 3 := by
  induction xs with
  | nil => rfl
  | cons x t ih => rw [rc_cons]; simp only [List.length_cons, ih]; omega
theorem rc_append (xs ys : List Rt) : rc (xs ++ ys) = rc xs ++ rc ys := by simp [rc]
theorem rc_get : ∀ (xs : List Rt) (k : Nat) (h : k < xs.length), (rc xs)[k * 3]? = some (.int .i64 xs[k].1) ∧ (rc xs)[k * 3 + 1]? = some (.int .i64 xs[k].2.1) ∧ (rc xs)[k * 3 + 2]? = some (.int .i64 xs[k].2.2)
  | x :: t, 0, _ => by simp [rc]
  | x :: t, k + 1, h => by
    have := rc_get t k (by simpa using h)
    rw [rc_cons, show (k + 1) * 3 = k * 3 + 1 + 1 + 1 from by omega]
    simpa using this
theorem rc_one (xs : List Rt) : ∀ u ∈ rc xs, u.oneCell' = true := by
  intro u hu
  simp only [rc, List.mem_flatMap, List.mem_cons, List.not_mem_nil, or_false] at hu
  obtain ⟨p, _, rfl | rfl | rfl⟩ := hu <;> rfl
theorem Rds.rte {w : World} {A : Option Addr} {n k : Nat} {xs : List Rt} (h : Rds w 3 A n (rc xs)) (hk : k < n) :
    ∃ b off, ∃ hk' : k < xs.length, A = some ⟨b, off, none⟩ ∧ w.cell? ⟨b, off + k * 3, none⟩ = some (.int .i64 xs[k].1) ∧ w.cell? ⟨b, off + k * 3 + 1, none⟩ = some (.int .i64 xs[k].2.1) ∧ w.cell? ⟨b, off + k * 3 + 2, none⟩ = some (.int .i64 xs[k].2.2) := by
  have hl := h.1
  rw [rc_length] at hl
  have hk' : k < xs.length := by omega
  obtain ⟨b, off, e, hc⟩ := h.2 (by rw [rc_length]; omega)
  obtain ⟨g1, g2, g3⟩ := rc_get xs k hk'
  refine ⟨b, off, hk', e, ?_, ?_, ?_⟩
  · rw [hc (k * 3) (by rw [rc_length]; omega), g1]
  · rw [Nat.add_assoc, hc (k * 3 + 1) (by rw [rc_length]; omega), g2]
  · rw [Nat.add_assoc, hc (k * 3 + 2) (by rw [rc_length]; omega), g3]
theorem Rds.rlen {w : World} {A : Option Addr} {n : Nat} {xs : List Rt} (h : Rds w 3 A n (rc xs)) : n = xs.length := by
  have := h.1; rw [rc_length] at this; omega
theorem Rds.rnil (w : World) : Rds w 3 none 0 (rc []) := ⟨rfl, fun h => absurd h (by simp [rc])⟩
theorem info_rte : (Tryd.prog.info? 52).map (fun i => (i.zero, i.size, i.bytes)) = some (some (.agg #[.int .i64 0, .int .i64 0, .int .i64 0]), 3, 24) := by kernel_rfl
def OwnT (w : World) (base : Nat) (v : Value) (xs : List Rt) : Prop := w.ownsRow base 52 3 v xs.length (rc xs)
theorem OwnT.shape {w : World} {base : Nat} {v : Value} {xs : List Rt} (h : OwnT w base v xs) : ∃ A c, v = .slice A xs.length c := by
  rcases h.2 with ⟨rfl, h0⟩ | ⟨g, cap, cur, rfl, _⟩
  · exact ⟨none, 0, by rw [h0]⟩
  · exact ⟨_, _, rfl⟩
theorem OwnT.rds {w : World} {base : Nat} {A : Option Addr} {n c : Nat} {xs : List Rt} (h : OwnT w base (.slice A n c) xs) : Rds w 3 A n (rc xs) := by
  obtain ⟨A', c', e⟩ := h.shape
  cases e
  exact Rds.of_own h
theorem OwnT.len {w : World} {base : Nat} {A : Option Addr} {n c : Nat} {xs : List Rt} (h : OwnT w base (.slice A n c) xs) : n = xs.length := by
  obtain ⟨A', c', e⟩ := h.shape
  cases e
  rfl
theorem OwnT.nil_ (w : World) (base : Nat) : OwnT w base (.slice none 0 0) [] := ownsRow_nil w base _ 3
theorem OwnT.keep {w w' : World} {base : Nat} {v : Value} {xs : List Rt} (h : OwnT w base v xs) (hb : Below w.heap.size w w') : OwnT w' base v xs := own_below h hb
theorem OwnT.mono {w w' : World} {base : Nat} {v : Value} {xs : List Rt} (h : OwnT w base v xs) (hg : Grew w w') : OwnT w' base v xs := hg.row h
theorem OwnT.base {w : World} {base base' : Nat} {v : Value} {xs : List Rt} (h : OwnT w base v xs) (hb : base' ≤ base) : OwnT w base' v xs := by
  refine ⟨h.1, ?_⟩
  rcases h.2 with h0 | ⟨g, cap, cur, e, hg, h3⟩
  · exact .inl h0
  · exact .inr ⟨g, cap, cur, e, Nat.le_trans hb hg, h3⟩
theorem rds_rte (w : World) (z : Rt) (t : TypeId) : Rds (w.alloc (.cells #[.int .i64 z.1, .int .i64 z.2.1, .int .i64 z.2.2] t)) 3 (some ⟨w.heap.size, 0, none⟩) 1 (rc [z]) := by
  refine ⟨rfl, fun _ => ⟨_, _, rfl, fun j hj => ?_⟩⟩
  match j, hj with
  | 0, _ => rw [World.cell?_alloc_at _ _ _ _ (by simp)]; rfl
  | 1, _ => rw [World.cell?_alloc_at _ _ _ _ (by simp)]; rfl
  | 2, _ => rw [World.cell?_alloc_at _ _ _ _ (by simp)]; rfl
theorem below_ownT {W w w' : World} {base : Nat} {e : TypeId} {size : Nat} {v : Value} {n : Nat} {xs : List Value} (hB : Below base W w) (hg : w.grownBy w' v.ownBlock) (hbase : base ≤ w.heap.size) (hown : w.ownsRow base e size v n xs) : Below base W w' := by
  refine hB.grown hg hbase fun k hk => ?_
  rcases hown.2 with ⟨rfl, _⟩ | ⟨g, cap, cur, rfl, hge, _⟩
  · simp [Value.ownBlock] at hk
  · simp [Value.ownBlock] at hk; omega
/-- append(s, z): one route; behind 'at_builtin' (the route lies in a new block). -/
theorem wp_append_rte (w0 : World) {ops : Array Oper} {rest : List Oper} {o : Oper} {a : Act} {Q : Exit → Act → World → Prop} {t : TypeId} {c : Nat} (hgd : o.guard = none) (s x : Operand)
    (ho : o.op = .call { callee := .builtin .append, args := #[s, x], argTypes := #[47, 47] })
    (base : Nat) (v : Value) (xs : List Rt) (hs : a.eval s = v) (hown : OwnT w0 base v xs)
    (z : Rt) (hx : a.eval x = .slice (some ⟨w0.heap.size, 0, none⟩) 1 c)
    (hlen : xs.length + 1 ≤ 1000000) (hbase : base ≤ w0.heap.size)
    (h : ∀ A' c' w', OwnT w' base (.slice A' (xs.length + 1) c') (xs ++ [z]) → Below base w0 w' → (w0.alloc (.cells #[.int .i64 z.1, .int .i64 z.2.1, .int .i64 z.2.2] t)).grownBy w' v.ownBlock → wpList Tryd.prog ops Q rest (a.put o.dst (.slice A' (xs.length + 1) c')) w') :
    wpList Tryd.prog ops Q (o :: rest) a (w0.alloc (.cells #[.int .i64 z.1, .int .i64 z.2.1, .int .i64 z.2.2] t)) := by
  obtain ⟨i0, hi, hz0, hz1, hz2⟩ := info_parts info_rte
  refine wpList_append_rds _ hgd s x 47 ho base 52 i0 (.agg #[.int .i64 0, .int .i64 0, .int .i64 0]) 3 24 Tryd.underlying47 hi hz0 hz1 hz2 rfl (by omega) v xs.length (rc xs) hs (own_below hown ((Below.refl _ _).alloc (Nat.le_refl _) _)) _ 1 c (rc [z]) hx (rds_rte w0 z t) (rc_one _) (by unfold maxLen; omega) (by omega) (by simp; omega) ?_
  intro v' w' h1 h2 h3
  obtain ⟨A', c', rfl, hc1, hc2⟩ := own_slice h1
  refine h A' c' w' ?_ (below_ownT ((Below.refl _ _).alloc hbase _) h2 (by simp; omega) (own_below hown ((Below.refl _ _).alloc (Nat.le_refl _) _))) h2
  unfold OwnT
  rw [List.length_append, rc_append]
  exact h1
/-- append(s, x...). -/
theorem wp_append_rtes (w0 : World) {ops : Array Oper} {rest : List Oper} {o : Oper} {a : Act} {Q : Exit → Act → World → Prop} (hgd : o.guard = none) (s x : Operand)
    (ho : o.op = .call { callee := .builtin .append, args := #[s, x], argTypes := #[47, 47] })
    (base : Nat) (v : Value) (xs : List Rt) (hs : a.eval s = v) (hown : OwnT w0 base v xs)
    (A : Option Addr) (m c : Nat) (ys : List Rt) (hx : a.eval x = .slice A m c) (hr : Rds w0 3 A m (rc ys))
    (hlen : xs.length + m ≤ 1000000) (hbase : base ≤ w0.heap.size)
    (h : ∀ A' c' w', OwnT w' base (.slice A' (xs.length + m) c') (xs ++ ys) → Below base w0 w' → wpList Tryd.prog ops Q rest (a.put o.dst (.slice A' (xs.length + m) c')) w') :
    wpList Tryd.prog ops Q (o :: rest) a w0 := by
  obtain ⟨i0, hi, hz0, hz1, hz2⟩ := info_parts info_rte
  refine wpList_append_rds _ hgd s x 47 ho base 52 i0 (.agg #[.int .i64 0, .int .i64 0, .int .i64 0]) 3 24 Tryd.underlying47 hi hz0 hz1 hz2 rfl (by omega) v xs.length (rc xs) hs hown A m c (rc ys) hx hr (rc_one _) (by unfold maxLen; omega) (by omega) hbase ?_
  intro v' w' h1 h2 h3
  obtain ⟨A', c', rfl, hc1, hc2⟩ := own_slice h1
  refine h A' c' w' ?_ (below_ownT (Below.refl _ _) h2 hbase hown)
  unfold OwnT
  rw [List.length_append, rc_append, ← hr.rlen]
  exact h1
/-- append(s, z) inside a region that draws its order (go_region_law). -/
theorem step_append_rte (w : World) {ops : Array Oper} {o : Oper} {a : Act} {K : Act → World → Prop} {Q : Exit → Act → World → Prop} {E : Prop} (hgd : o.guard = none) (s x : Operand)
    (ho : o.op = .call { callee := .builtin .append, args := #[s, x], argTypes := #[47, 47] })
    (base : Nat) (v : Value) (xs : List Rt) (hs : a.eval s = v) (hown : OwnT w base v xs)
    (z : Rt) (A : Option Addr) (c : Nat) (hx : a.eval x = .slice A 1 c) (hr : Rds w 3 A 1 (rc [z]))
    (hlen : xs.length + 1 ≤ 1000000) (hbase : base ≤ w.heap.size)
    (h : ∀ A' c' w', OwnT w' base (.slice A' (xs.length + 1) c') (xs ++ [z]) → Below base w w' → w.grownBy w' v.ownBlock → ((Value.slice A' (xs.length + 1) c').ownBlock = v.ownBlock ∨ (Value.slice A' (xs.length + 1) c').ownBlock = some w.heap.size) → K (a.put o.dst (.slice A' (xs.length + 1) c')) w') : if Region.wanted o (yielded ops a.tmps) = true then Oper.wp Tryd.prog o a w K Q else E := by
  have hw : Region.wanted o (yielded ops a.tmps) = true := by simp [Region.wanted, hgd]
  rw [if_pos hw]
  obtain ⟨i0, hi, hz0, hz1, hz2⟩ := info_parts info_rte
  refine wp_append_rds w s x 47 ho base 52 i0 (.agg #[.int .i64 0, .int .i64 0, .int .i64 0]) 3 24 Tryd.underlying47 hi hz0 hz1 hz2 rfl (by omega) v xs.length (rc xs) hs hown A 1 c (rc [z]) hx hr (rc_one _) (by unfold maxLen; omega) (by omega) hbase ?_
  intro v' w' h1 h2 h3
  obtain ⟨A', c', rfl, hc1, hc2⟩ := own_slice h1
  refine h A' c' w' ?_ (below_ownT (Below.refl _ _) h2 hbase hown) h2 h3
  unfold OwnT
  rw [List.length_append, rc_append]
  exact h1
@[go_sem] theorem eqRte (a b c d e f : Int) (w : World) : (Op.equalIn 10000 52 (.agg #[.int .i64 a, .int .i64 b, .int .i64 e]) (.agg #[.int .i64 c, .int .i64 d, .int .i64 f])).run Tryd.prog w = .ok ((a == c && b == d) && e == f) w := by
  have u3 := Tryd.underlying3
  have u23 := Tryd.underlying23
  have hS : Tryd.prog.underlying 52 = some (.struct (Tryd.prog.fieldsOf 52)) := by kernel_rfl
  have hS2 : Tryd.prog.underlying 23 = some (.struct (Tryd.prog.fieldsOf 23)) := by kernel_rfl
  have hp : Tryd.prog.stoodInHeld 52 = false := by kernel_rfl
  have hp2 : Tryd.prog.stoodInHeld 23 = false := by kernel_rfl
  rw [show (10000 : Nat) = 9999 + 1 from rfl, run_equalIn_agg w 9999 52 _ _ hS hp]
  simp only [Program.fieldsOf, Tryd.underlying52]
  go_simp
  by_cases h1 : a = c <;> by_cases h2 : b = d <;> by_cases h3 : e = f <;> simp [h1, h2, h3]
@[go_sem] theorem guardRte : Tryd.prog.eqGuardType Tryd.prog.depth 52 = false := by kernel_rfl
end Go.Proofs.YtfgpppgehbpblaaDoor
