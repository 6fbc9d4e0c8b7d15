/- Rows of bytes of the call's own; strings made of them, and bytes of strings; a world that has changed at one block. -/
import Derived.Test.YtbmajajndckfoaaDoorOwn
import Derived.Laws.IdiomStrings
import Derived.Laws.BytesArg
namespace Go.Proofs.YtbmajajndckfoaaDoor
open Go.RowKit
/-- The cells of some bytes. -/
def bc (xs : List Int) : List Value := xs.map (Value.int .u8)
theorem bc_length (xs : List Int) : (bc xs).length = xs.length := by simp [bc]
theorem bc_append (xs ys : List Int) : bc (xs ++ ys) = bc xs ++ bc ys := by simp [bc]
theorem bc_one (xs : List Int) : ∀ u ∈ bc xs, u.oneCell' = true := by
  intro u hu; simp only [bc, List.mem_map] at hu; obtain ⟨n, _, rfl⟩ := hu; rfl
theorem bc_get (xs : List Int) (k : Nat) (h : k < xs.length) : (bc xs)[k]? = some (.int .u8 xs[k]) := by simp [bc, h]
theorem info_u8 : (Tryd.prog.info? 5).map (fun i => (i.zero, i.size, i.bytes)) = some (some (.int .u8 0), 1, 1) := by kernel_rfl
def OwnB (w : World) (base : Nat) (v : Value) (xs : List Int) : Prop := w.ownsRow base 5 1 v xs.length (bc xs)
theorem OwnB.nil_ (w : World) (base : Nat) : OwnB w base (.slice none 0 0) [] := ownsRow_nil w base _ 1
theorem OwnB.below {w w' : World} {base : Nat} {v : Value} {xs : List Int} (h : OwnB w base v xs) (hb : Below w.heap.size w w') : OwnB w' base v xs := own_below h hb
theorem OwnB.shape {w : World} {base : Nat} {v : Value} {xs : List Int} (h : OwnB w base v xs) : ∃ A c, v = .slice A xs.length c ∧ xs.length ≤ c ∧ c ≤ maxLen := own_slice h
theorem OwnB.rds {w : World} {base : Nat} {A : Option Addr} {n c : Nat} {xs : List Int} (h : OwnB w base (.slice A n c) xs) : Rds w 1 A xs.length (bc xs) := by
  obtain ⟨A', c', e, _⟩ := h.shape
  cases e
  exact Rds.of_own h
theorem rds_byte (w : World) (z : Int) (t : TypeId) : Rds (w.alloc (.cells #[.int .u8 z] t)) 1 (some ⟨w.heap.size, 0, none⟩) 1 (bc [z]) := by
  refine ⟨rfl, fun _ => ⟨_, _, rfl, fun j hj => ?_⟩⟩
  match j, hj with
  | 0, _ => rw [World.cell?_alloc_at _ _ _ _ (by simp)]; rfl
/-- append(s, z): one byte (it lies in a new block); behind 'at_builtin'. -/
theorem wp_append_byte (w0 : World) {ops : Array Oper} {rest : List Oper} {o : Oper} {a : Act} {Q : Exit → Act → World → Prop} {t : TypeId} {c : Nat} (hgd : o.guard = none) (s x : Operand)
    (ho : o.op = .call { callee := .builtin .append, args := #[s, x], argTypes := #[63, 63] })
    (W : World) (base : Nat) (v : Value) (xs : List Int) (hs : a.eval s = v) (hown : OwnB w0 base v xs)
    (z : Int) (hx : a.eval x = .slice (some ⟨w0.heap.size, 0, none⟩) 1 c)
    (hlen : xs.length + 1 ≤ 1000000) (hbase : base ≤ w0.heap.size) (hB : Below base W w0)
    (h : ∀ A' c' w', OwnB w' base (.slice A' (xs.length + 1) c') (xs ++ [z]) → Below base W w' → (w0.alloc (.cells #[.int .u8 z] t)).grownBy w' v.ownBlock → wpList Tryd.prog ops Q rest (a.put o.dst (.slice A' (xs.length + 1) c')) w') :
    wpList Tryd.prog ops Q (o :: rest) a (w0.alloc (.cells #[.int .u8 z] t)) := by
  obtain ⟨i0, hi, hz0, hz1, hz2⟩ := info_parts info_u8
  have hown2 : OwnB (w0.alloc (.cells #[.int .u8 z] t)) base v xs := hown.below ((Below.refl _ _).alloc (Nat.le_refl _) _)
  refine wpList_append_rds _ hgd s x 63 ho base 5 i0 (.int .u8 0) 1 1 Tryd.underlying63 hi hz0 hz1 hz2 rfl (by omega) v xs.length (bc xs) hs hown2 _ 1 c (bc [z]) hx (rds_byte w0 z t) (bc_one _) (by unfold maxLen; omega) (by omega) (by simp; omega) ?_
  intro v' w' h1 h2 h3
  obtain ⟨A', c', rfl, hc1, hc2⟩ := own_slice h1
  refine h A' c' w' ?_ (below_own (hB.alloc hbase _) h2 (by simp; omega) hown2) h2
  unfold OwnB
  rw [List.length_append, bc_append]
  exact h1
/-- A string of bytes. -/
def strB (xs : List Int) : ByteArray := ⟨(xs.map fun z => UInt8.ofNat z.toNat).toArray⟩
theorem conv_str (w : World) (A : Option Addr) (n c : Nat) (xs : List Int) (hr : Rds w 1 A n (bc xs)) (hb : ∀ x ∈ xs, 0 ≤ x ∧ x ≤ 255) :
    (convert 63 9 (.slice A n c)).run Tryd.prog w = .ok (.string (strB xs)) w := by
  have hl : n = xs.length := by have := hr.1; rw [bc_length] at this; omega
  rcases A with _ | a
  · have h0 : xs = [] := by
      apply List.eq_nil_of_length_eq_zero
      apply Decidable.byContradiction
      intro h
      obtain ⟨b, off, e, _⟩ := hr.2 (by rw [bc_length]; omega)
      cases e
    subst h0
    rw [run_convert_bytes_nil w 63 5 Tryd.underlying63 Tryd.underlying5 n c 9 Tryd.underlying9]
    rfl
  · have hlen : (xs.map fun z => UInt8.ofNat z.toNat).length = n := by simp [hl]
    have := run_convert_bytes_back (P := Tryd.prog) w 63 9 5 a c (xs.map fun z => UInt8.ofNat z.toNat) Tryd.underlying63 Tryd.underlying5 Tryd.underlying9 (fun j hj => by
      have hj' : j < xs.length := by simpa using hj
      obtain ⟨b, off, e, hc⟩ := hr.2 (by rw [bc_length]; omega)
      cases e
      rw [Go.WideShapes.add_plain, hc j (by rw [bc_length]; exact hj'), bc_get xs j hj']
      obtain ⟨g1, g2⟩ := hb _ (List.getElem_mem hj')
      simp only [List.getElem_map]
      rw [UInt8.toNat_ofNat_of_lt' (by show xs[j].toNat < 256; omega)]
      congr 2
      omega)
    rw [hlen] at this
    exact this
/-- Bytes of a string: a new block. -/
def byteJ (s : ByteArray) (i : Nat) : Int := ((s.get! i).toNat : Int)
theorem conv_bytes (w : World) (s : ByteArray) :
    (convert 9 63 (.string s)).run Tryd.prog w = .ok (.slice (some ⟨w.heap.size, 0, none⟩) s.size (grownCap w s.size 0 5))
      (w.drew.alloc (.cells (bytesRow s (grownCap w s.size 0 5)) 5 ((bytesRow s (grownCap w s.size 0 5)).size, (bytesRow s (grownCap w s.size 0 5)).size + 1))) :=
  run_bytes_of_string w 9 63 5 s Tryd.underlying9 Tryd.underlying63 Tryd.underlying5
theorem bytes_cell (w : World) (s : ByteArray) (cap m : Nat) (t : TypeId) {j : Nat} (hj : j < s.size) : (w.alloc (.cells (bytesRow s cap) t (m, m + 1))).cell? ⟨w.heap.size, j, none⟩ = some (.int .u8 (byteJ s j)) := by
  rw [World.cell?_alloc_mark, bytesRow_at s cap j hj]
  unfold byteJ
  have : s.get! j = s[j] := by
    show s.data[j]! = s.data[j]
    rw [getElem!_pos s.data j hj]
  rw [this]
  rfl
/-- The world has changed at one block, and may have new ones. -/
structure OnlyAt (b : Nat) (w w' : World) : Prop where
  os : w'.os = w.os
  tape : w'.tape = w.tape
  output : w'.output = w.output
  size : w.heap.size ≤ w'.heap.size
  block : ∀ i, i < w.heap.size → i ≠ b → w'.heap[i]? = w.heap[i]?
theorem OnlyAt.refl (b : Nat) (w : World) : OnlyAt b w w := ⟨rfl, rfl, rfl, Nat.le_refl _, fun _ _ _ => rfl⟩
theorem OnlyAt.trans {b : Nat} {w w' w2 : World} (h : OnlyAt b w w') (k : OnlyAt b w' w2) : OnlyAt b w w2 :=
  ⟨k.os.trans h.os, k.tape.trans h.tape, k.output.trans h.output, Nat.le_trans h.size k.size, fun i hi hn => (k.block i (Nat.lt_of_lt_of_le hi h.size) hn).trans (h.block i hi hn)⟩
theorem OnlyAt.set {b : Nat} {w w' : World} (h : OnlyAt b w w') (i : Nat) (v : Value) : OnlyAt b w (w'.setCell ⟨b, i, none⟩ v) :=
  ⟨h.os, h.tape, h.output, by have := h.size; simpa using this, fun j hj hn => by
    rw [heap_setCell_other w' ⟨b, i, none⟩ j v hn]
    exact h.block j hj hn⟩
theorem OnlyAt.of_below {b : Nat} {w w' : World} (h : Below w.heap.size w w') : OnlyAt b w w' := ⟨h.os, h.tape, h.output, h.size, fun i hi _ => h.block i hi⟩
theorem OnlyAt.cell {b : Nat} {w w' : World} (h : OnlyAt b w w') {p : Addr} {v : Value} (hn : p.block ≠ b) (hv : w.cell? p = some v) : w'.cell? p = some v :=
  (World.cell?_of_block (w := w) (h.block p.block (cell_lt hv) hn)).trans hv
theorem OnlyAt.below {b lo : Nat} {w w' : World} (h : OnlyAt b w w') (h1 : lo ≤ b) (h2 : lo ≤ w.heap.size) : Below lo w w' :=
  ⟨h.os, h.tape, h.output, h.size, fun i hi => h.block i (by omega) (by omega)⟩
end Go.Proofs.YtbmajajndckfoaaDoor
