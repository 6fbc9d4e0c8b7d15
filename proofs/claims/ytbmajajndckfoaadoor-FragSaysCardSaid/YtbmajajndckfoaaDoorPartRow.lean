/- Rows of parts (three cells an element): read, and of the call's own: appended to. -/
import Derived.Test.YtbmajajndckfoaaDoorOwn
import Derived.Maps.AppendAt
import Derived.OwnWalk
import Derived.Deep.RegionLaw
namespace Go.Proofs.YtbmajajndckfoaaDoor
open Go.RowKit
/-- A part: where it stands, whether more follow, its bytes. -/
abbrev Pt := Int × Bool × ByteArray
def qc (xs : List Pt) : List Value := xs.flatMap fun p => [.int .i64 p.1, .bool p.2.1, .string p.2.2]
theorem qc_nil : qc [] = [] := rfl
theorem qc_cons (x : Pt) (t : List Pt) : qc (x :: t) = .int .i64 x.1 :: .bool x.2.1 :: .string x.2.2 :: qc t := by simp [qc]
theorem qc_length (xs : List Pt) : (qc xs).length = xs.length * 3 := by
  induction xs with
  | nil => rfl
  | cons x t ih => rw [qc_cons]; simp only [List.length_cons, ih]; omega
theorem qc_append (xs ys : List Pt) : qc (xs ++ ys) = qc xs ++ qc ys := by simp [qc]
theorem qc_get : ∀ (xs : List Pt) (k : Nat) (h : k < xs.length), (qc xs)[k * 3]? = some (.int .i64 xs[k].1) ∧ (qc xs)[k * 3 + 1]? = some (.bool xs[k].2.1) ∧ (qc xs)[k * 3 + 2]? = some (.string xs[k].2.2)
  | x :: t, 0, _ => by simp [qc]
  | x :: t, k + 1, h => by
    have := qc_get t k (by simpa using h)
    rw [qc_cons, show (k + 1) * 3 = k * 3 + 1 + 1 + 1 from by omega]
    simpa using this
theorem qc_one (xs : List Pt) : ∀ u ∈ qc xs, u.oneCell' = true := by
  intro u hu
  simp only [qc, List.mem_flatMap, List.mem_cons, List.not_mem_nil, or_false] at hu
  obtain ⟨p, _, rfl | rfl | rfl⟩ := hu <;> rfl
theorem qc_take (xs : List Pt) (m : Nat) : qc (xs.take m) = (qc xs).take (m * 3) := by
  induction xs generalizing m with
  | nil => simp [qc]
  | cons x t ih =>
    cases m with
    | zero => simp [qc]
    | succ m => rw [List.take_succ_cons, qc_cons, qc_cons, show (m + 1) * 3 = m * 3 + 1 + 1 + 1 from by omega, List.take_succ_cons, List.take_succ_cons, List.take_succ_cons, ih]
theorem qc_drop (xs : List Pt) (m : Nat) : qc (xs.drop m) = (qc xs).drop (m * 3) := by
  induction xs generalizing m with
  | nil => simp [qc]
  | cons x t ih =>
    cases m with
    | zero => simp
    | succ m => rw [List.drop_succ_cons, qc_cons, show (m + 1) * 3 = m * 3 + 1 + 1 + 1 from by omega, List.drop_succ_cons, List.drop_succ_cons, List.drop_succ_cons, ih]
theorem Rds.qlen {w : World} {A : Option Addr} {n : Nat} {xs : List Pt} (h : Rds w 3 A n (qc xs)) : n = xs.length := by
  have := h.1; rw [qc_length] at this; omega
theorem Rds.qnil (w : World) : Rds w 3 none 0 (qc []) := ⟨rfl, fun h => absurd h (by simp [qc])⟩
theorem Rds.part {w : World} {A : Option Addr} {n k : Nat} {xs : List Pt} (h : Rds w 3 A n (qc xs)) (hk : k < n) :
    ∃ b off, ∃ hk' : k < xs.length, A = some ⟨b, off, none⟩ ∧ w.cell? ⟨b, off + k * 3, none⟩ = some (.int .i64 xs[k].1) ∧ w.cell? ⟨b, off + k * 3 + 1, none⟩ = some (.bool xs[k].2.1) ∧ w.cell? ⟨b, off + k * 3 + 2, none⟩ = some (.string xs[k].2.2) := by
  have hl := h.1
  rw [qc_length] at hl
  have hk' : k < xs.length := by omega
  obtain ⟨b, off, e, hc⟩ := h.2 (by rw [qc_length]; omega)
  obtain ⟨g1, g2, g3⟩ := qc_get xs k hk'
  refine ⟨b, off, hk', e, ?_, ?_, ?_⟩
  · rw [hc (k * 3) (by rw [qc_length]; omega), g1]
  · rw [Nat.add_assoc, hc (k * 3 + 1) (by rw [qc_length]; omega), g2]
  · rw [Nat.add_assoc, hc (k * 3 + 2) (by rw [qc_length]; omega), g3]
theorem Rds.ptake {w : World} {A : Option Addr} {n : Nat} {xs : List Pt} (h : Rds w 3 A n (qc xs)) {k : Nat} (hk : k ≤ n) : Rds w 3 A k (qc (xs.take k)) := by
  have hl := h.1
  rw [qc_length] at hl
  refine ⟨by rw [qc_length, List.length_take]; omega, fun hp => ?_⟩
  rw [qc_take] at hp ⊢
  have hp' : 0 < (qc xs).length := by rw [List.length_take] at hp; omega
  obtain ⟨b, off, e, hc⟩ := h.2 hp'
  refine ⟨b, off, e, fun j hj => ?_⟩
  rw [List.length_take] at hj
  rw [hc j (by omega), List.getElem?_take, if_pos (by omega)]
theorem Rds.pdrop {w : World} {A : Option Addr} {n : Nat} {xs : List Pt} (h : Rds w 3 A n (qc xs)) {k : Nat} (hk : k ≤ n) (A' : Option Addr) (hA : k < n → A' = A.map (·.add (k * 3))) : Rds w 3 A' (n - k) (qc (xs.drop k)) := by
  have hl := h.1
  rw [qc_length] at hl
  refine ⟨by rw [qc_length, List.length_drop]; omega, fun hp => ?_⟩
  rw [qc_length, List.length_drop] at hp
  obtain ⟨b, off, e, hc⟩ := h.2 (by rw [qc_length]; omega)
  subst e
  refine ⟨b, off + k * 3, by rw [hA (by omega), Option.map_some, Go.WideShapes.add_plain], fun j hj => ?_⟩
  rw [qc_length, List.length_drop] at hj
  rw [qc_drop, List.getElem?_drop, Nat.add_assoc, hc (k * 3 + j) (by rw [qc_length]; omega)]
theorem info_part : (Tryd.prog.info? 50).map (fun i => (i.zero, i.size, i.bytes)) = some (some (.agg #[.int .i64 0, .bool false, .string ⟨#[]⟩]), 3, 32) := by kernel_rfl
def OwnQ (w : World) (base : Nat) (v : Value) (xs : List Pt) : Prop := w.ownsRow base 50 3 v xs.length (qc xs)
theorem OwnQ.nil_ (w : World) (base : Nat) : OwnQ w base (.slice none 0 0) [] := ownsRow_nil w base _ 3
theorem OwnQ.shape {w : World} {base : Nat} {v : Value} {xs : List Pt} (h : OwnQ w base v xs) : ∃ A c, v = .slice A xs.length c ∧ xs.length ≤ c ∧ c ≤ maxLen := own_slice h
theorem OwnQ.rds {w : World} {base : Nat} {A : Option Addr} {n c : Nat} {xs : List Pt} (h : OwnQ w base (.slice A n c) xs) : Rds w 3 A n (qc xs) := by
  obtain ⟨A', c', e, _⟩ := h.shape
  cases e
  exact Rds.of_own h
theorem OwnQ.keep {w w' : World} {base : Nat} {v : Value} {xs : List Pt} (h : OwnQ w base v xs) (hb : Below w.heap.size w w') : OwnQ w' base v xs := own_below h hb
theorem rds_part (w : World) (z : Pt) (t : TypeId) : Rds (w.alloc (.cells #[.int .i64 z.1, .bool z.2.1, .string z.2.2] t)) 3 (some ⟨w.heap.size, 0, none⟩) 1 (qc [z]) := by
  refine ⟨rfl, fun _ => ⟨_, _, rfl, fun j hj => ?_⟩⟩
  match j, hj with
  | 0, _ => rw [World.cell?_alloc_at _ _ _ _ (by simp)]; rfl
  | 1, _ => rw [World.cell?_alloc_at _ _ _ _ (by simp)]; rfl
  | 2, _ => rw [World.cell?_alloc_at _ _ _ _ (by simp)]; rfl
/-- append(s, x...); behind 'at_builtin'. -/
theorem wp_append_parts (w0 : World) {ops : Array Oper} {rest : List Oper} {o : Oper} {a : Act} {Q : Exit → Act → World → Prop} (hgd : o.guard = none) (s x : Operand)
    (ho : o.op = .call { callee := .builtin .append, args := #[s, x], argTypes := #[23, 23] })
    (W : World) (base : Nat) (v : Value) (xs : List Pt) (hs : a.eval s = v) (hown : OwnQ w0 base v xs)
    (A : Option Addr) (m c : Nat) (ys : List Pt) (hx : a.eval x = .slice A m c) (hr : Rds w0 3 A m (qc ys))
    (hlen : xs.length + m ≤ 1000000) (hbase : base ≤ w0.heap.size) (hB : Below base W w0)
    (h : ∀ A' c' w', OwnQ w' base (.slice A' (xs.length + m) c') (xs ++ ys) → xs.length + m ≤ c' → c' ≤ maxLen → Below base W w' → w0.grownBy w' v.ownBlock → wpList Tryd.prog ops Q rest (a.put o.dst (.slice A' (xs.length + m) c')) w') :
    wpList Tryd.prog ops Q (o :: rest) a w0 := by
  obtain ⟨i0, hi, hz0, hz1, hz2⟩ := info_parts info_part
  refine wpList_append_rds _ hgd s x 23 ho base 50 i0 (.agg #[.int .i64 0, .bool false, .string ⟨#[]⟩]) 3 32 Tryd.underlying23 hi hz0 hz1 hz2 rfl (by omega) v xs.length (qc xs) hs hown A m c (qc ys) hx hr (qc_one _) (by unfold maxLen; omega) (by omega) hbase ?_
  intro v' w' h1 h2 h3
  obtain ⟨A', c', rfl, hc1, hc2⟩ := own_slice h1
  refine h A' c' w' ?_ hc1 hc2 (below_own hB h2 hbase hown) h2
  unfold OwnQ
  rw [List.length_append, qc_append, ← hr.qlen]
  exact h1
/-- append(s, z): one part (it lies in a new block). -/
theorem wp_append_part (w0 : World) {ops : Array Oper} {rest : List Oper} {o : Oper} {a : Act} {Q : Exit → Act → World → Prop} {t : TypeId} {c : Nat} (hgd : o.guard = none) (s x : Operand)
    (ho : o.op = .call { callee := .builtin .append, args := #[s, x], argTypes := #[23, 23] })
    (W : World) (base : Nat) (v : Value) (xs : List Pt) (hs : a.eval s = v) (hown : OwnQ w0 base v xs)
    (z : Pt) (hx : a.eval x = .slice (some ⟨w0.heap.size, 0, none⟩) 1 c)
    (hlen : xs.length + 1 ≤ 1000000) (hbase : base ≤ w0.heap.size) (hB : Below base W w0)
    (h : ∀ A' c' w', OwnQ w' base (.slice A' (xs.length + 1) c') (xs ++ [z]) → xs.length + 1 ≤ c' → c' ≤ maxLen → Below base W w' → (w0.alloc (.cells #[.int .i64 z.1, .bool z.2.1, .string z.2.2] t)).grownBy w' v.ownBlock → wpList Tryd.prog ops Q rest (a.put o.dst (.slice A' (xs.length + 1) c')) w') :
    wpList Tryd.prog ops Q (o :: rest) a (w0.alloc (.cells #[.int .i64 z.1, .bool z.2.1, .string z.2.2] t)) :=
  wp_append_parts _ hgd s x ho W base v xs hs (own_below hown ((Below.refl _ _).alloc (Nat.le_refl _) _)) _ 1 c [z] hx (rds_part w0 z t) hlen (by simp; omega) (hB.alloc hbase _) h
end Go.Proofs.YtbmajajndckfoaaDoor
