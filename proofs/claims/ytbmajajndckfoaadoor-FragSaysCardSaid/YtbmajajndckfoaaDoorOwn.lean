/- The law of append at a row of ints of the call's own, in the form that the walks of this seat use. -/
import Derived.Test.YtbmajajndckfoaaDoorCore
namespace Go.Proofs.YtbmajajndckfoaaDoor
open Go.RowKit

theorem info_int : (Tryd.prog.info? 3).map (fun i => (i.zero, i.size, i.bytes)) = some (some (.int .i64 0), 1, 8) := by kernel_rfl

/-- A row of ints of the call's own: every block from base on is the call's. -/
def Own (w : World) (base : Nat) (v : Value) (xs : List Int) : Prop := w.ownsRow base 3 1 v xs.length (ic xs)
theorem Own.nil_ (w : World) (base : Nat) : Own w base (.slice none 0 0) [] := ownsRow_nil w base _ 1
theorem Own.rds {w : World} {base : Nat} {A : Option Addr} {n c : Nat} {xs : List Int} (h : Own w base (.slice A n c) xs) : Rds w 1 A xs.length (ic xs) := by
  obtain ⟨A', c', e, _, _⟩ := own_slice h
  injection e with e1 e2 e3
  unfold Own at h
  subst e1; subst e2; subst e3
  exact Rds.of_own h
theorem Own.len {w : World} {base : Nat} {A : Option Addr} {n c : Nat} {xs : List Int} (h : Own w base (.slice A n c) xs) : n = xs.length := by
  obtain ⟨A', c', e, _, _⟩ := own_slice h
  injection e with e1 e2 e3
theorem Own.self {w : World} {base : Nat} {A : Option Addr} {n c : Nat} {xs : List Int} (h : Own w base (.slice A n c) xs) : Own w base (.slice A xs.length c) xs := by
  have := h.len; subst this; exact h
theorem Own.below {w w' : World} {base : Nat} {v : Value} {xs : List Int} (h : Own w base v xs) (hb : Below w.heap.size w w') : Own w' base v xs := own_below h hb
theorem Own.mono {w : World} {base base' : Nat} {v : Value} {xs : List Int} (h : Own w base v xs) (hb : base' ≤ base) : Own w base' v xs := by
  refine ⟨h.1, ?_⟩
  rcases h.2 with h0 | ⟨g, cap, cur, e, hg, h3⟩
  · exact .inl h0
  · exact .inr ⟨g, cap, cur, e, Nat.le_trans hb hg, h3⟩

theorem Own.range {w : World} {base : Nat} {A : Option Addr} {n c : Nat} {xs : List Int} (h : Own w base (.slice A n c) xs) : ∀ a, A = some a → base ≤ a.block ∧ a.block < w.heap.size := by
  intro a ha
  subst ha
  exact own_lt h rfl
theorem ownBlock_slice (A : Option Addr) (n c : Nat) : (Value.slice A n c).ownBlock = A.map (·.block) := by cases A <;> rfl
theorem below_own {W w w' : World} {base : Nat} {e : TypeId} {size : Nat} {v : Value} {n : Nat} {xs : List Value} (hB : Below base W w) (hg : w.grownBy w' v.ownBlock) (hbase : base ≤ w.heap.size) (hown : w.ownsRow base e size v n xs) : Below base W w' := by
  refine hB.grown hg hbase fun k hk => ?_
  rcases hown.2 with ⟨rfl, _⟩ | ⟨g, cap, cur, rfl, hge, _⟩
  · simp [Value.ownBlock] at hk
  · simp [Value.ownBlock] at hk; omega

/-- append(s, x...) at ints: behind 'at_builtin'. -/
theorem wp_append_ints (w : World) {ops : Array Oper} {rest : List Oper} {o : Oper} {a : Act} {Q : Exit → Act → World → Prop} (hgd : o.guard = none) (s x : Operand)
    (ho : o.op = .call { callee := .builtin .append, args := #[s, x], argTypes := #[33, 33] })
    (W : World) (base : Nat) (v : Value) (xs : List Int) (hs : a.eval s = v) (hown : Own w base v xs)
    (A : Option Addr) (m c : Nat) (ys : List Int) (hx : a.eval x = .slice A m c) (hr : Rds w 1 A m (ic ys))
    (hlen : xs.length + ys.length ≤ 17592186044416) (hbase : base ≤ w.heap.size) (hB : Below base W w)
    (h : ∀ A' c' w', Own w' base (.slice A' (xs.length + m) c') (xs ++ ys) → xs.length + m ≤ c' → c' ≤ maxLen → Below base W w' → w.grownBy w' v.ownBlock → ((Value.slice A' (xs.length + m) c').ownBlock = v.ownBlock ∨ (Value.slice A' (xs.length + m) c').ownBlock = some w.heap.size) →
      wpList Tryd.prog ops Q rest (a.put o.dst (.slice A' (xs.length + m) c')) w') : wpList Tryd.prog ops Q (o :: rest) a w := by
  obtain ⟨i0, hi, hz0, hz1, hz2⟩ := info_parts info_int
  have hm := hr.len_int
  refine wpList_append_rds w hgd s x 33 ho base 3 i0 (.int .i64 0) 1 8 Tryd.underlying33 hi hz0 hz1 hz2 rfl (by omega) v xs.length (ic xs) hs hown A m c (ic ys) hx hr (ic_one _) (by unfold maxLen; omega) (by omega) hbase ?_
  intro v' w' h1 h2 h3
  obtain ⟨A', c', rfl, hc1, hc2⟩ := own_slice h1
  refine h A' c' w' ?_ hc1 hc2 (below_own hB h2 hbase hown) h2 h3
  unfold Own
  rw [List.length_append, ic_append, ← hm]
  exact h1

theorem rds_one (w : World) (z : Int) (t : TypeId) : Rds (w.alloc (.cells #[.int .i64 z] t)) 1 (some ⟨w.heap.size, 0, none⟩) 1 (ic [z]) := by
  refine ⟨rfl, fun _ => ⟨_, _, rfl, fun j hj => ?_⟩⟩
  match j, hj with
  | 0, _ => rw [World.cell?_alloc_at _ _ _ _ (by simp)]; rfl

/-- append(s, z): one int; behind 'at_builtin' (the one int lies in a new block). -/
theorem wp_append_int (w0 : World) {ops : Array Oper} {rest : List Oper} {o : Oper} {a : Act} {Q : Exit → Act → World → Prop} {t : TypeId} {c : Nat} (hgd : o.guard = none) (s x : Operand)
    (ho : o.op = .call { callee := .builtin .append, args := #[s, x], argTypes := #[33, 33] })
    (W : World) (base : Nat) (v : Value) (xs : List Int) (hs : a.eval s = v) (hown : Own w0 base v xs)
    (z : Int) (hx : a.eval x = .slice (some ⟨w0.heap.size, 0, none⟩) 1 c)
    (hlen : xs.length + 1 ≤ 17592186044416) (hbase : base ≤ w0.heap.size) (hB : Below base W w0)
    (h : ∀ A' c' w', Own w' base (.slice A' (xs.length + 1) c') (xs ++ [z]) → xs.length + 1 ≤ c' → c' ≤ maxLen → Below base W w' → (w0.alloc (.cells #[.int .i64 z] t)).grownBy w' v.ownBlock → ((Value.slice A' (xs.length + 1) c').ownBlock = v.ownBlock ∨ (Value.slice A' (xs.length + 1) c').ownBlock = some (w0.heap.size + 1)) →
      wpList Tryd.prog ops Q rest (a.put o.dst (.slice A' (xs.length + 1) c')) w') : wpList Tryd.prog ops Q (o :: rest) a (w0.alloc (.cells #[.int .i64 z] t)) := by
  refine wp_append_ints _ hgd s x ho W base v xs hs (own_below hown ((Below.refl _ _).alloc (Nat.le_refl _) _)) _ _ _ [z] hx (rds_one w0 z t) (by simpa using hlen) (by simp; omega) (hB.alloc hbase _) ?_
  intro A' c' w' h1 h2 h3 h4 h5 h6
  exact h A' c' w' h1 h2 h3 h4 h5 (by simpa using h6)
/-- The same inside a region that draws its order (go_region_law). -/
theorem step_append_ints (w : World) {ops : Array Oper} {o : Oper} {a : Act} {K : Act → World → Prop} {Q : Exit → Act → World → Prop} {E : Prop} (hgd : o.guard = none) (s x : Operand)
    (ho : o.op = .call { callee := .builtin .append, args := #[s, x], argTypes := #[33, 33] })
    (W : World) (base : Nat) (v : Value) (xs : List Int) (hs : a.eval s = v) (hown : Own w base v xs)
    (A : Option Addr) (m c : Nat) (ys : List Int) (hx : a.eval x = .slice A m c) (hr : Rds w 1 A m (ic ys))
    (hlen : xs.length + ys.length ≤ 17592186044416) (hbase : base ≤ w.heap.size) (hB : Below base W w)
    (h : ∀ A' c' w', Own w' base (.slice A' (xs.length + m) c') (xs ++ ys) → xs.length + m ≤ c' → c' ≤ maxLen → Below base W w' → w.grownBy w' v.ownBlock → ((Value.slice A' (xs.length + m) c').ownBlock = v.ownBlock ∨ (Value.slice A' (xs.length + m) c').ownBlock = some w.heap.size) →
      K (a.put o.dst (.slice A' (xs.length + m) c')) w') : if Region.wanted o (yielded ops a.tmps) = true then Oper.wp Tryd.prog o a w K Q else E := by
  have hw : Region.wanted o (yielded ops a.tmps) = true := by simp [Region.wanted, hgd]
  rw [if_pos hw]
  obtain ⟨i0, hi, hz0, hz1, hz2⟩ := info_parts info_int
  have hm := hr.len_int
  refine wp_append_rds w s x 33 ho base 3 i0 (.int .i64 0) 1 8 Tryd.underlying33 hi hz0 hz1 hz2 rfl (by omega) v xs.length (ic xs) hs hown A m c (ic ys) hx hr (ic_one _) (by unfold maxLen; omega) (by omega) hbase ?_
  intro v' w' h1 h2 h3
  obtain ⟨A', c', rfl, hc1, hc2⟩ := own_slice h1
  refine h A' c' w' ?_ hc1 hc2 (below_own hB h2 hbase hown) h2 h3
  unfold Own
  rw [List.length_append, ic_append, ← hm]
  exact h1

theorem rds_lit (w : World) (xs : List Int) (t : TypeId) : Rds (w.alloc (.cells (ic xs).toArray t)) 1 (some ⟨w.heap.size, 0, none⟩) xs.length (ic xs) := by
  refine ⟨by simp [ic_length], fun _ => ⟨_, _, rfl, fun j hj => ?_⟩⟩
  rw [Nat.zero_add, World.cell?_alloc_at _ _ _ _ (by simp)]
  simp
/-- What a function hands back: a row of the call's own, and one value beside it. -/
def RetOwn (W : World) (xs : List Int) (z : Value) (e : Ending) (w' : World) : Prop :=
  ∃ A c, e = .returned (.tuple #[.slice A xs.length c, z]) ∧ Own w' W.heap.size (.slice A xs.length c) xs ∧ xs.length ≤ c ∧ c ≤ maxLen ∧ Below W.heap.size W w'
end Go.Proofs.YtbmajajndckfoaaDoor
