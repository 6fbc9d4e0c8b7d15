/- The switch's table: a row of entries (two cells each) of the call's own, that a box holds. -/
import Derived.Test.YtljdlhahfeipcaaOwnA
import Derived.Test.YtljdlhahfeipcaaGrown
import Derived.Maps.AppendAt
import Derived.OwnWalk
import Derived.Deep.RegionLaw
import Derived.RangeFuncBox
namespace Go.Proofs.Ytljdlhahfeipcaa
open Go.RowKit
/-- The cells of a list of entries. -/
def ec (xs : List (Int × Int)) : List Value := xs.flatMap fun p => [.int .i64 p.1, .int .i64 p.2]
theorem ec_cons (x : Int × Int) (t : List (Int × Int)) : ec (x :: t) = .int .i64 x.1 :: .int .i64 x.2 :: ec t := by simp [ec]
theorem ec_length (xs : List (Int × Int)) : (ec xs).length = xs.length * 2 := by
  induction xs with
  | nil => rfl
  | cons x t ih => rw [ec_cons]; simp only [List.length_cons, ih]; omega
theorem ec_append (xs ys : List (Int × Int)) : ec (xs ++ ys) = ec xs ++ ec ys := by simp [ec]
theorem ec_get : ∀ (xs : List (Int × Int)) (k : Nat) (h : k < xs.length), (ec xs)[k * 2]? = some (.int .i64 xs[k].1) ∧ (ec xs)[k * 2 + 1]? = some (.int .i64 xs[k].2)
  | x :: t, 0, _ => by simp [ec]
  | x :: t, k + 1, h => by
    have := ec_get t k (by simpa using h)
    rw [ec_cons, show (k + 1) * 2 = k * 2 + 1 + 1 from by omega]
    simpa using this
theorem ec_one (xs : List (Int × Int)) : ∀ u ∈ ec xs, u.oneCell' = true := by
  intro u hu
  simp only [ec, List.mem_flatMap, List.mem_cons, List.not_mem_nil, or_false] at hu
  obtain ⟨p, _, rfl | rfl⟩ := hu <;> rfl
theorem Rds.ent {w : World} {A : Option Addr} {n k : Nat} {xs : List (Int × Int)} (h : Rds w 2 A n (ec xs)) (hk : k < n) :
    ∃ b off, ∃ hk' : k < xs.length, A = some ⟨b, off, none⟩ ∧ w.cell? ⟨b, off + k * 2, none⟩ = some (.int .i64 xs[k].1) ∧ w.cell? ⟨b, off + k * 2 + 1, none⟩ = some (.int .i64 xs[k].2) := by
  have hl := h.1
  rw [ec_length] at hl
  have hk' : k < xs.length := by omega
  obtain ⟨b, off, e, hc⟩ := h.2 (by rw [ec_length]; omega)
  obtain ⟨g1, g2⟩ := ec_get xs k hk'
  refine ⟨b, off, hk', e, ?_, ?_⟩
  · rw [hc (k * 2) (by rw [ec_length]; omega), g1]
  · rw [Nat.add_assoc, hc (k * 2 + 1) (by rw [ec_length]; omega), g2]
theorem info_ent : (Try.prog.info? 47).map (fun i => (i.zero, i.size, i.bytes)) = some (some (.agg #[.int .i64 0, .int .i64 0]), 2, 16) := by kernel_rfl
def OwnE (w : World) (base : Nat) (v : Value) (xs : List (Int × Int)) : Prop := w.ownsRow base 47 2 v xs.length (ec xs)
theorem OwnE.nil_ (w : World) (base : Nat) : OwnE w base (.slice none 0 0) [] := ownsRow_nil w base _ 2
theorem OwnE.shape {w : World} {base : Nat} {v : Value} {xs : List (Int × Int)} (h : OwnE w base v xs) : ∃ A c, v = .slice A xs.length c ∧ xs.length ≤ c ∧ c ≤ maxLen := own_slice h
theorem OwnE.rds {w : World} {base : Nat} {A : Option Addr} {n c : Nat} {xs : List (Int × Int)} (h : OwnE w base (.slice A n c) xs) : Rds w 2 A n (ec xs) := by
  obtain ⟨A', c', e, _⟩ := h.shape
  cases e
  exact Rds.of_own h
theorem ec_take (xs : List (Int × Int)) (m : Nat) : ec (xs.take m) = (ec xs).take (m * 2) := by
  induction xs generalizing m with
  | nil => simp [ec]
  | cons x t ih =>
    cases m with
    | zero => simp [ec]
    | succ m => rw [List.take_succ_cons, ec_cons, ec_cons, show (m + 1) * 2 = m * 2 + 1 + 1 from by omega, List.take_succ_cons, List.take_succ_cons, ih]
theorem OwnE.zero {w : World} {base n c : Nat} {A : Option Addr} {xs : List (Int × Int)} (h : OwnE w base (.slice A n c) xs) : OwnE w base (.slice A 0 c) [] := by
  rcases h.2 with ⟨h0, _⟩ | ⟨g', cap, cur, e, h1, h2, h3, h4, h5, h6⟩
  · cases h0; exact OwnE.nil_ _ _
  · cases e
    exact ⟨rfl, .inr ⟨g', c, cur, rfl, h1, h2, by simp, h4, h5, by simp [ec]⟩⟩
theorem rds_ent (w : World) (z : Int × Int) (t : TypeId) : Rds (w.alloc (.cells #[.int .i64 z.1, .int .i64 z.2] t)) 2 (some ⟨w.heap.size, 0, none⟩) 1 (ec [z]) := by
  refine ⟨rfl, fun _ => ⟨_, _, rfl, fun j hj => ?_⟩⟩
  match j, hj with
  | 0, _ => rw [World.cell?_alloc_at _ _ _ _ (by simp)]; rfl
  | 1, _ => rw [World.cell?_alloc_at _ _ _ _ (by simp)]; rfl
/-- append(s, z): one entry; behind 'at_builtin' (the entry lies in a new block). -/
theorem wp_append_ent (w0 : World) {ops : Array Oper} {rest : List Oper} {o : Oper} {a : Act} {Q : Exit → Act → World → Prop} {t : TypeId} {c : Nat} (hgd : o.guard = none) (s x : Operand)
    (ho : o.op = .call { callee := .builtin .append, args := #[s, x], argTypes := #[43, 43] })
    (base : Nat) (v : Value) (xs : List (Int × Int)) (hs : a.eval s = v) (hown : OwnE w0 base v xs)
    (z : Int × Int) (hx : a.eval x = .slice (some ⟨w0.heap.size, 0, none⟩) 1 c)
    (hlen : xs.length + 1 ≤ 1000000) (hbase : base ≤ w0.heap.size)
    (h : ∀ A' c' w', OwnE w' base (.slice A' (xs.length + 1) c') (xs ++ [z]) → (w0.alloc (.cells #[.int .i64 z.1, .int .i64 z.2] t)).grownBy w' v.ownBlock → ((Value.slice A' (xs.length + 1) c').ownBlock = v.ownBlock ∨ (Value.slice A' (xs.length + 1) c').ownBlock = some (w0.heap.size + 1)) → wpList Try.prog ops Q rest (a.put o.dst (.slice A' (xs.length + 1) c')) w') :
    wpList Try.prog ops Q (o :: rest) a (w0.alloc (.cells #[.int .i64 z.1, .int .i64 z.2] t)) := by
  obtain ⟨i0, hi, hz0, hz1, hz2⟩ := info_parts info_ent
  refine wpList_append_rds _ hgd s x 43 ho base 47 i0 (.agg #[.int .i64 0, .int .i64 0]) 2 16 Try.underlying43 hi hz0 hz1 hz2 rfl (by omega) v xs.length (ec xs) hs (own_below hown ((Below.refl _ _).alloc (Nat.le_refl _) _)) _ 1 c (ec [z]) hx (rds_ent w0 z t) (ec_one _) (by unfold maxLen; omega) (by omega) (by simp; omega) ?_
  intro v' w' h1 h2 h3
  obtain ⟨A', c', rfl, hc1, hc2⟩ := own_slice h1
  refine h A' c' w' ?_ h2 (by simpa using h3)
  unfold OwnE
  rw [List.length_append, ec_append]
  exact h1
/-- append(s, x...) inside a region that draws its order (go_region_law). -/
theorem step_append_ents (w : World) {ops : Array Oper} {o : Oper} {a : Act} {K : Act → World → Prop} {Q : Exit → Act → World → Prop} {E : Prop} (hgd : o.guard = none) (s x : Operand)
    (ho : o.op = .call { callee := .builtin .append, args := #[s, x], argTypes := #[43, 43] })
    (base : Nat) (v : Value) (xs : List (Int × Int)) (hs : a.eval s = v) (hown : OwnE w base v xs)
    (A : Option Addr) (m c : Nat) (ys : List (Int × Int)) (hx : a.eval x = .slice A m c) (hr : Rds w 2 A m (ec ys)) (hm : m = ys.length)
    (hlen : xs.length + m ≤ 1000000) (hbase : base ≤ w.heap.size)
    (h : ∀ A' c' w', OwnE w' base (.slice A' (xs.length + m) c') (xs ++ ys) → w.grownBy w' v.ownBlock → ((Value.slice A' (xs.length + m) c').ownBlock = v.ownBlock ∨ (Value.slice A' (xs.length + m) c').ownBlock = some w.heap.size) → K (a.put o.dst (.slice A' (xs.length + m) c')) w') : if Region.wanted o (yielded ops a.tmps) = true then Oper.wp Try.prog o a w K Q else E := by
  have hw : Region.wanted o (yielded ops a.tmps) = true := by simp [Region.wanted, hgd]
  rw [if_pos hw]
  obtain ⟨i0, hi, hz0, hz1, hz2⟩ := info_parts info_ent
  refine wp_append_rds w s x 43 ho base 47 i0 (.agg #[.int .i64 0, .int .i64 0]) 2 16 Try.underlying43 hi hz0 hz1 hz2 rfl (by omega) v xs.length (ec xs) hs hown A m c (ec ys) hx hr (ec_one _) (by unfold maxLen; omega) (by omega) hbase ?_
  intro v' w' h1 h2 h3
  obtain ⟨A', c', rfl, hc1, hc2⟩ := own_slice h1
  refine h A' c' w' ?_ h2 h3
  unfold OwnE
  rw [List.length_append, ec_append, ← hm]
  exact h1
/-- The switch at ps: the box holds the table. -/
structure Sw (n₀ ps : Nat) (w : World) (v : Value) (tab : List (Int × Int)) : Prop where
  box : Boxed w ps 45 v
  own : OwnE w n₀ v tab
  low : n₀ ≤ w.heap.size
  ps : n₀ ≤ ps
/-- What has changed: the box, the row's block, and what is new. -/
structure SwTo (ps : Nat) (w : World) (s : Value) (w' : World) (s' : Value) : Prop where
  os : w'.os = w.os
  tape : w'.tape = w.tape
  output : w'.output = w.output
  size : w.heap.size ≤ w'.heap.size
  block : ∀ i, i < w.heap.size → i ≠ ps → some i ≠ s.ownBlock → w'.heap[i]? = w.heap[i]?
  row : s'.ownBlock = s.ownBlock ∨ ∀ b, s'.ownBlock = some b → w.heap.size ≤ b
theorem SwTo.trans {ps : Nat} {w w' w2 : World} {s s' s2 : Value} (h : SwTo ps w s w' s') (k : SwTo ps w' s' w2 s2) : SwTo ps w s w2 s2 := by
  refine ⟨k.os.trans h.os, k.tape.trans h.tape, k.output.trans h.output, Nat.le_trans h.size k.size, fun i hi hne hs => ?_, ?_⟩
  · have h1 : some i ≠ s'.ownBlock := by
      rcases h.row with e | e
      · rw [e]; exact hs
      · intro he; have := e i he.symm; omega
    exact (k.block i (Nat.lt_of_lt_of_le hi h.size) hne h1).trans (h.block i hi hne hs)
  · rcases k.row with e | e
    · rw [e]; exact h.row
    · exact .inr fun b hb => Nat.le_trans h.size (e b hb)
theorem SwTo.grew {ps : Nat} {w w' : World} (s : Value) (h : Grew w w') : SwTo ps w s w' s :=
  ⟨h.below.os, h.below.tape, h.below.output, h.size, fun i hi _ _ => h.below.block i hi, .inl rfl⟩
theorem SwTo.cell {ps : Nat} {w w' : World} {s s' : Value} (h : SwTo ps w s w' s') {p : Addr} {v : Value} (hv : w.cell? p = some v) (h1 : p.block ≠ ps) (h2 : some p.block ≠ s.ownBlock) : w'.cell? p = some v :=
  (World.cell?_of_block (w := w) (h.block p.block (cell_lt hv) h1 h2)).trans hv
theorem Sw.row_ge {n₀ ps : Nat} {w : World} {v : Value} {tab : List (Int × Int)} (h : Sw n₀ ps w v tab) {b : Nat} (hb : v.ownBlock = some b) : n₀ ≤ b ∧ b < w.heap.size := own_lt h.own hb
theorem SwTo.below {n₀ ps : Nat} {w w' : World} {s s' : Value} {tab : List (Int × Int)} (h : SwTo ps w s w' s') (hs : Sw n₀ ps w s tab) : Below n₀ w w' :=
  ⟨h.os, h.tape, h.output, h.size, fun i hi => h.block i (Nat.lt_of_lt_of_le hi hs.low) (by have := hs.ps; omega) (fun e => by have := (hs.row_ge e.symm).1; omega)⟩
theorem Sw.grew {n₀ ps : Nat} {w w' : World} {v : Value} {tab : List (Int × Int)} (h : Sw n₀ ps w v tab) (hg : Grew w w') : Sw n₀ ps w' v tab :=
  ⟨h.box.kept (hg.grown none) (by simp), hg.row h.own, Nat.le_trans h.low hg.size, h.ps⟩
theorem ent_ne : 45 ≠ 47 := by decide
theorem Sw.put {n₀ ps : Nat} {w w' : World} {v v0 v' : Value} {tab tab' : List (Int × Int)} (h : Sw n₀ ps w v tab) (hown : OwnE w' n₀ v' tab') (e0 : v0.ownBlock = v.ownBlock) (hg : w.grownBy w' v0.ownBlock)
    (h3 : v'.ownBlock = v0.ownBlock ∨ v'.ownBlock = some w.heap.size) : Sw n₀ ps (w'.setCell ⟨ps, 0, none⟩ v') v' tab' ∧ SwTo ps w v (w'.setCell ⟨ps, 0, none⟩ v') v' := by
  rw [e0] at hg h3
  have hb1 : Boxed w' ps 45 v := h.box.kept hg (h.box.not_row ent_ne h.own)
  refine ⟨⟨hb1.set v', hown.kept (grownBy_setCell' w' ps v') (.inr (hb1.not_row ent_ne hown).symm), by simp; exact Nat.le_trans h.low hg.size, h.ps⟩, ⟨hg.os, hg.tape, hg.output, by simpa using hg.size, fun i hi hne hs => ?_, ?_⟩⟩
  · rw [Below.heap_setCell w' ⟨ps, 0, none⟩ v' i hne]
    exact hg.block i hi hs
  · rcases h3 with e | e
    · exact .inl e
    · exact .inr fun b hb => by rw [e] at hb; injection hb with hb; omega
end Go.Proofs.Ytljdlhahfeipcaa
