/- The closure of Routes: it walks the tree and appends the routes to the row that a box holds. -/
import Derived.Test.YtfgpppgehbpblaaDoorRRow
import Derived.Test.YtfgpppgehbpblaaDoorLpmFind
import Derived.RangeFuncBox
import Derived.Outline
import Derived.Deep.RegionWith
import Derived.Deep.RegionHeld3
import Derived.Deep.CutRange
import Derived.Deep.RegionLaw
import Derived.Laws.BitsAllLaws
import Derived.Laws.BitsLemmas
namespace Go.Proofs.YtfgpppgehbpblaaDoor
open Go.RowKit Lp
attribute [local go_sem ↓] Go.wp_at_zero Go.wp_at_succ
structure Wk (n₀ po pw : Nat) (w : World) (v : Value) (out : List Rt) : Prop where
  box : Boxed w po 47 v
  fn : Boxed w pw 77 (.func (.func 40) #[] #[.pointer (some ⟨po, 0, none⟩), .pointer (some ⟨pw, 0, none⟩)])
  own : OwnT w n₀ v out
  low : n₀ ≤ w.heap.size
  gpo : n₀ ≤ po
  gpw : n₀ ≤ pw
  ne : pw ≠ po
/-- What has changed: the box of the row, the row's block, and what is new. -/
structure WkTo (po : Nat) (w : World) (s : Value) (w' : World) (s' : Value) : Prop where
  os : w'.os = w.os
  tape : w'.tape = w.tape
  output : w'.output = w.output
  size : w.heap.size ≤ w'.heap.size
  block : ∀ i, i < w.heap.size → i ≠ po → some i ≠ s.ownBlock → w'.heap[i]? = w.heap[i]?
  row : s'.ownBlock = s.ownBlock ∨ ∀ b, s'.ownBlock = some b → w.heap.size ≤ b
theorem WkTo.trans {po : Nat} {w w' w2 : World} {s s' s2 : Value} (h : WkTo po w s w' s') (k : WkTo po w' s' w2 s2) : WkTo po w s w2 s2 := by
  refine ⟨k.os.trans h.os, k.tape.trans h.tape, k.output.trans h.output, Nat.le_trans h.size k.size, fun i hi hne hs => ?_, ?_⟩
  · have h1 : some i ≠ s'.ownBlock := by
      rcases h.row with e | e
      · rw [e]; exact hs
      · intro he; have := e i he.symm; omega
    exact (k.block i (Nat.lt_of_lt_of_le hi h.size) hne h1).trans (h.block i hi hne hs)
  · rcases k.row with e | e
    · rw [e]; exact h.row
    · exact .inr fun b hb => Nat.le_trans h.size (e b hb)
theorem WkTo.grew {po : Nat} {w w' : World} (s : Value) (h : Grew w w') : WkTo po w s w' s :=
  ⟨h.below.os, h.below.tape, h.below.output, h.size, fun i hi _ _ => h.below.block i hi, .inl rfl⟩
theorem WkTo.cell {po : Nat} {w w' : World} {s s' : Value} (h : WkTo po w s w' s') {p : Addr} {v : Value} (hv : w.cell? p = some v) (h1 : p.block ≠ po) (h2 : some p.block ≠ s.ownBlock) : w'.cell? p = some v :=
  (World.cell?_of_block (w := w) (h.block p.block (cell_lt hv) h1 h2)).trans hv
section
variable {n₀ po pw : Nat} {w w' : World} {v v' : Value} {out out' : List Rt}
theorem Wk.row_ge (h : Wk n₀ po pw w v out) {b : Nat} (hb : v.ownBlock = some b) : n₀ ≤ b ∧ b < w.heap.size := own_lt h.own hb
theorem WkTo.below (h : WkTo po w v w' v') (hs : Wk n₀ po pw w v out) : Below n₀ w w' :=
  ⟨h.os, h.tape, h.output, h.size, fun i hi => h.block i (Nat.lt_of_lt_of_le hi hs.low) (by have := hs.gpo; omega) (fun e => by have := (hs.row_ge e.symm).1; omega)⟩
theorem Wk.grew (h : Wk n₀ po pw w v out) (hg : Grew w w') : Wk n₀ po pw w' v out :=
  ⟨h.box.kept (hg.grown none) (by simp), h.fn.kept (hg.grown none) (by simp), hg.row h.own, Nat.le_trans h.low hg.size, h.gpo, h.gpw, h.ne⟩
theorem rte_ne : 47 ≠ 52 := by decide
theorem rte_ne2 : 77 ≠ 52 := by decide
theorem Wk.put {wc : World} (h : Wk n₀ po pw w v out) (hown : OwnT wc n₀ v' out') (hg : w.grownBy wc v.ownBlock) (h3 : v'.ownBlock = v.ownBlock ∨ v'.ownBlock = some w.heap.size) :
    Wk n₀ po pw (wc.setCell ⟨po, 0, none⟩ v') v' out' ∧ WkTo po w v (wc.setCell ⟨po, 0, none⟩ v') v' := by
  have hb1 : Boxed wc po 47 v := h.box.kept hg (h.box.not_row rte_ne h.own)
  have hb2 : Boxed wc pw 77 (.func (.func 40) #[] #[.pointer (some ⟨po, 0, none⟩), .pointer (some ⟨pw, 0, none⟩)]) := h.fn.kept hg (h.fn.not_row rte_ne2 h.own)
  have hb3 : Boxed (wc.setCell ⟨po, 0, none⟩ v') pw 77 (.func (.func 40) #[] #[.pointer (some ⟨po, 0, none⟩), .pointer (some ⟨pw, 0, none⟩)]) := by
    unfold Boxed at hb2 ⊢
    rw [heap_setCell_other wc ⟨po, 0, none⟩ pw v' h.ne]
    exact hb2
  refine ⟨⟨hb1.set v', hb3, hown.kept (grownBy_setCell' wc po v') (.inr (hb1.not_row rte_ne hown).symm), by simp; exact Nat.le_trans h.low hg.size, h.gpo, h.gpw, h.ne⟩, ⟨hg.os, hg.tape, hg.output, by simpa using hg.size, fun i hi hne hs => ?_, ?_⟩⟩
  · rw [Below.heap_setCell wc ⟨po, 0, none⟩ v' i hne]
    exact hg.block i hi hs
  · rcases h3 with e | e
    · exact .inl e
    · exact .inr fun b hb => by rw [e] at hb; injection hb with hb; omega
end
/-- The row with one more, that append gave; it is stored in the box. -/
theorem Wk.put3 {n₀ po pw : Nat} {w wc : World} {v v' : Value} {out out' : List Rt} {z : Rt} (h : Wk n₀ po pw w v out) (hown : OwnT wc n₀ v' out') (hg : (w.drew.alloc (.cells #[.int .i64 z.1, .int .i64 z.2.1, .int .i64 z.2.2] 52)).grownBy wc v.ownBlock) (h3 : v'.ownBlock = v.ownBlock ∨ v'.ownBlock = some (w.drew.alloc (.cells #[.int .i64 z.1, .int .i64 z.2.1, .int .i64 z.2.2] 52)).heap.size) :
    Wk n₀ po pw (wc.setCell ⟨po, 0, none⟩ v') v' out' ∧ WkTo po w v (wc.setCell ⟨po, 0, none⟩ v') v' ∧ Boxed wc po 47 v := by
  have g0 : Grew w (w.drew.alloc (.cells #[.int .i64 z.1, .int .i64 z.2.1, .int .i64 z.2.2] 52)) := ((Grew.refl w).drewN 1).alloc _
  obtain ⟨h1, h2⟩ := (h.grew g0).put hown hg h3
  exact ⟨h1, (WkTo.grew v g0).trans h2, (h.grew g0).box.kept hg ((h.grew g0).box.not_row rte_ne (h.grew g0).own)⟩
theorem or_add (x s : Nat) (j : Nat) (hj : j < 2) (hx : x % 2 ^ (s + 1) = 0) (hs : x + 2 ^ s < 65536) : bits .or .i64 (x : Int) ((j * 2 ^ s : Nat) : Int) = ((x + j * 2 ^ s : Nat) : Int) := by
  have hp := Px.pow_pos s
  have e : x ||| (j * 2 ^ s) = x + j * 2 ^ s := by
    refine nat_join (s + 1) x (j * 2 ^ s) hx ?_
    rw [Nat.pow_succ]
    have : j * 2 ^ s ≤ 1 * 2 ^ s := Nat.mul_le_mul_right _ (by omega)
    omega
  have h1 : j * 2 ^ s ≤ 1 * 2 ^ s := Nat.mul_le_mul_right _ (by omega)
  have b1 : (BitVec.ofInt 64 (x : Int)).toNat = x := by
    rw [BitVec.ofInt_natCast, BitVec.toNat_ofNat]; exact Nat.mod_eq_of_lt (by omega)
  have b2 : (BitVec.ofInt 64 ((j * 2 ^ s : Nat) : Int)).toNat = j * 2 ^ s := by
    rw [BitVec.ofInt_natCast, BitVec.toNat_ofNat]; exact Nat.mod_eq_of_lt (by omega)
  show IntKind.i64.wrap ((BitVec.ofInt 64 (x : Int) ||| BitVec.ofInt 64 ((j * 2 ^ s : Nat) : Int)).toNat : Int) = _
  rw [BitVec.toNat_or, b1, b2, e, IntKind.wrap_i64]
  omega
theorem adr (k v j a : Nat) (hk : k < 16) (hv : v < 2 ^ k) (ha : v * 2 ^ (16 - k) = a) (hj : j < 2) : bits .or .i64 (a : Int) ((j * 2 ^ (15 - k) : Nat) : Int) = (((2 * v + j) * 2 ^ (16 - (k + 1)) : Nat) : Int) := by
  have e1 : 16 - k = (15 - k) + 1 := by omega
  have e2 : 16 - (k + 1) = 15 - k := by omega
  have e3 : 2 ^ k * 2 ^ (16 - k) = 65536 := by rw [← Nat.pow_add, show k + (16 - k) = 16 from by omega]
  have hp := Px.pow_pos (15 - k)
  have e4 : 2 ^ (16 - k) = 2 * 2 ^ (15 - k) := by rw [e1, Nat.pow_succ, Nat.mul_comm]
  have hm : (v + 1) * 2 ^ (16 - k) ≤ 2 ^ k * 2 ^ (16 - k) := Nat.mul_le_mul_right _ hv
  rw [Nat.add_mul, Nat.one_mul, ha, e3, e4] at hm
  rw [or_add a (15 - k) j hj (by rw [← ha, ← e1]; exact Nat.mul_mod_left _ _) (by omega), e2, Nat.add_mul, ← ha, e4, ← Nat.mul_assoc, Nat.mul_comm v 2]
/-- The routes below one kid. -/
def kidR (h : Hops) : Nat → Nat → Nat → Nat → List Rt
  | 0, _, _, _ => []
  | n + 1, k, v, j => preR h n (k + 1) (2 * v + j)
theorem preR_kids (h : Hops) (n k v : Nat) : preR h n k v = oneR h k v ++ kidR h n k v 0 ++ kidR h n k v 1 := by
  cases n with
  | zero => simp [preR, kidR]
  | succ n => rfl
theorem preR_len (h : Hops) : ∀ (n k v : Nat), (preR h n k v).length + 1 ≤ 2 ^ (n + 1)
  | 0, k, v => by unfold preR oneR; split <;> simp
  | n + 1, k, v => by
    have h1 := preR_len h n (k + 1) (2 * v)
    have h2 := preR_len h n (k + 1) (2 * v + 1)
    have h3 : (oneR h k v).length ≤ 1 := by unfold oneR; split <;> simp
    rw [preR, List.length_append, List.length_append, Nat.pow_succ]
    omega
/-- The routes of the first i kids. -/
def kidsR (h : Hops) (n k v : Nat) : Nat → List Rt
  | 0 => []
  | i + 1 => kidsR h n k v i ++ kidR h n k v i
theorem preR_kidsR (h : Hops) (n k v : Nat) : preR h n k v = oneR h k v ++ kidsR h n k v 2 := by
  rw [preR_kids]
  simp [kidsR]
theorem TabF.under {w : World} {S : Nat → Prop} {tb r : Nat} {F : Nat → Nat → Option Nat} {h : Hops} {many : Int} (t : TabF w S tb r F h many) {k v : Nat} (hn : F k v = none) : ∀ j u, u / 2 ^ j = v → F (k + j) u = none
  | 0, u, hu => by
    have : u = v := by simpa using hu
    rw [this]; exact hn
  | j + 1, u, hu => by
    by_cases he : F (k + j + 1) u = none
    · exact he
    · have h1 := t.up (k + j) u he
      have h2 := t.under hn j (u / 2) (by rw [Nat.div_div_eq_div_mul, ← Nat.pow_succ']; exact hu)
      exact absurd h2 h1
theorem TabF.no_routes {w : World} {S : Nat → Prop} {tb r : Nat} {F : Nat → Nat → Option Nat} {h : Hops} {many : Int} (t : TabF w S tb r F h many) {k v : Nat} (hn : F k v = none) (n : Nat) : preR h n k v = [] :=
  routes_none h n k v fun j _ u hu => by rw [t.no _ _ (t.under hn j u hu)]; decide
theorem TabF.kid_none {w : World} {S : Nat → Prop} {tb r : Nat} {F : Nat → Nat → Option Nat} {h : Hops} {many : Int} (t : TabF w S tb r F h many) {k v j : Nat} (hn : F (k + 1) (2 * v + j) = none) (n : Nat) : kidR h n k v j = [] := by
  cases n with
  | zero => rfl
  | succ n => exact t.no_routes hn n
def WkPost (n₀ po pw : Nat) (w : World) (s : Value) (out : List Rt) (e : Ending) (w' : World) : Prop :=
  e = .returned (.tuple #[]) ∧ ∃ s', Wk n₀ po pw w' s' out ∧ WkTo po w s w' s'
theorem shl0 (k : Nat) (hk : k < 16) (w : World) : Sem.run Tryd.prog (Op.shift BinOp.shl IntKind.i64 0 IntKind.i64 (IntKind.i64.wrap (15 - (k : Int)))) w = .ok (.int .i64 ((0 * 2 ^ (15 - k) : Nat) : Int)) w := by
  have hl : k = 0 ∨ k = 1 ∨ k = 2 ∨ k = 3 ∨ k = 4 ∨ k = 5 ∨ k = 6 ∨ k = 7 ∨ k = 8 ∨ k = 9 ∨ k = 10 ∨ k = 11 ∨ k = 12 ∨ k = 13 ∨ k = 14 ∨ k = 15 := by omega
  clear hk
  rcases hl with rfl | rfl | rfl | rfl | rfl | rfl | rfl | rfl | rfl | rfl | rfl | rfl | rfl | rfl | rfl | rfl
  all_goals
    show _ = _
    kernel_rfl
theorem shl1 (k : Nat) (hk : k < 16) (w : World) : Sem.run Tryd.prog (Op.shift BinOp.shl IntKind.i64 1 IntKind.i64 (IntKind.i64.wrap (15 - (k : Int)))) w = .ok (.int .i64 ((1 * 2 ^ (15 - k) : Nat) : Int)) w := by
  have hl : k = 0 ∨ k = 1 ∨ k = 2 ∨ k = 3 ∨ k = 4 ∨ k = 5 ∨ k = 6 ∨ k = 7 ∨ k = 8 ∨ k = 9 ∨ k = 10 ∨ k = 11 ∨ k = 12 ∨ k = 13 ∨ k = 14 ∨ k = 15 := by omega
  clear hk
  rcases hl with rfl | rfl | rfl | rfl | rfl | rfl | rfl | rfl | rfl | rfl | rfl | rfl | rfl | rfl | rfl | rfl
  all_goals
    show _ = _
    kernel_rfl
theorem kid_at0 (x y : Value) (w : World) : (Instr.index 79 (.agg #[x, y]) (.int .i64 0)).run Tryd.prog w = .ok x w := by kernel_rfl
theorem kid_at1 (x y : Value) (w : World) : (Instr.index 79 (.agg #[x, y]) (.int .i64 1)).run Tryd.prog w = .ok y w := by kernel_rfl
section
variable {S : Nat → Prop} {tb r : Nat} {F : Nat → Nat → Option Nat} {h : Hops} {many : Int} {n₀ po pw : Nat}
theorem TabF.wk {w w' : World} {s s' : Value} {out : List Rt} (t : TabF w S tb r F h many) (hS : ∀ i, S i → i < n₀) (hw : Wk n₀ po pw w s out) (T : WkTo po w s w' s') : TabF w' S tb r F h many :=
  t.keep fun i hi _ => (T.below hw).block i (hS i hi)
set_option maxRecDepth 100000 in
set_option maxHeartbeats 8000000 in
theorem walk_step (n k v b M : Nat) (hnk : n + k = 16) (hb : F k v = some b) (hS : ∀ i, S i → i < n₀)
    (ih : ∀ j, j < 2 → ∀ b', F (k + 1) (2 * v + j) = some b' → ∀ (w : World) (s : Value) (out : List Rt), TabF w S tb r F h many → Wk n₀ po pw w s out → out.length + 2 * M ≤ 900000 →
      Calls Tryd.prog 40 #[.pointer (some ⟨b', 0, none⟩), .agg #[.int .i64 (((2 * v + j) * 2 ^ (16 - (k + 1)) : Nat) : Int), .int .i64 ((k + 1 : Nat) : Int)], .pointer (some ⟨po, 0, none⟩), .pointer (some ⟨pw, 0, none⟩)] w (WkPost n₀ po pw w s (out ++ kidR h n k v j)))
    (hM : ∀ j, j < 2 → (kidR h n k v j).length + 1 ≤ 2 * M) (hM1 : 1 ≤ M)
    (w : World) (s : Value) (out : List Rt) (t : TabF w S tb r F h many) (hw : Wk n₀ po pw w s out) (hl : out.length + 4 * M ≤ 900000) :
    Calls Tryd.prog 40 #[.pointer (some ⟨b, 0, none⟩), .agg #[.int .i64 ((v * 2 ^ (16 - k) : Nat) : Int), .int .i64 (k : Int)], .pointer (some ⟨po, 0, none⟩), .pointer (some ⟨pw, 0, none⟩)] w (WkPost n₀ po pw w s (out ++ preR h n k v)) := by
  have hg0 : Grew w (w.alloc (.cells #[.int .i64 (((v * 2 ^ (16 - k) : Nat) : Int)), .int .i64 ((k : Int))] 23)) := (Grew.refl _).alloc _
  have hp1 : (w.alloc (.cells #[.int .i64 (((v * 2 ^ (16 - k) : Nat) : Int)), .int .i64 ((k : Int))] 23)).cell? ⟨w.heap.size, 0, none⟩ = some (.int .i64 ((v * 2 ^ (16 - k) : Nat) : Int)) := by simp
  have hp2 : (w.alloc (.cells #[.int .i64 (((v * 2 ^ (16 - k) : Nat) : Int)), .int .i64 ((k : Int))] 23)).cell? ⟨w.heap.size, 1, none⟩ = some (.int .i64 (k : Int)) := by simp
  have hrg : -1 ≤ h k v ∧ h k v ≤ 9 := t.rng k v
  have HRT : Hid (rt h k v = (((v * 2 ^ (16 - k) : Nat) : Int), (k : Int), h k v)) := Lib.hid rfl
  obtain ⟨a, ha⟩ : ∃ a : Nat, v * 2 ^ (16 - k) = a := ⟨_, rfl⟩
  rw [ha] at hp1 hp2 hg0 HRT
  have tx := t.grew hg0
  have hwx := hw.grew hg0
  have hhop := tx.hop_cell hb
  have hk0 := tx.kid0 hb
  have hk1 := tx.kid1 hb
  have hbx := hwx.box.cell
  have hfx := hwx.box.frozen
  obtain ⟨hopv, hh⟩ : ∃ hopv, h k v = hopv := ⟨_, rfl⟩
  rw [hh] at hhop hrg HRT
  have HH := Lib.hid hh
  have HA := Lib.hid ha
  clear hh
  obtain ⟨kd0, hkd0⟩ : ∃ x, F (k + 1) (2 * v) = x := ⟨_, rfl⟩
  obtain ⟨kd1, hkd1⟩ : ∃ x, F (k + 1) (2 * v + 1) = x := ⟨_, rfl⟩
  rw [hkd0] at hk0
  rw [hkd1] at hk1
  have HK0 := Lib.hid hkd0
  have HK1 := Lib.hid hkd1
  clear hkd0 hkd1
  rw [ha]
  go_enter Tryd.func40, Tryd.ntmps40
  have HWX := Lib.hid hwx
  have HTX := Lib.hid tx
  have HP1 := Lib.hid hp1
  have HP2 := Lib.hid hp2
  obtain ⟨A0, c0, rfl⟩ := hw.own.shape
  have hlo := hw.low
  have hpo := hw.box.lt
  have HPN : Hid (w.heap.size ≠ po ∧ some w.heap.size ≠ (Value.slice A0 out.length c0).ownBlock) := Lib.hid ⟨by omega, fun e => by have := (hw.row_ge e.symm).2; omega⟩
  obtain ⟨pb, hpb⟩ : ∃ pb, w.heap.size = pb := ⟨_, rfl⟩
  rw [hpb] at HPN HP1 HP2 hp1 hp2
  obtain ⟨wx, hwxe⟩ : ∃ wx, w.alloc (.cells #[.int .i64 (a : Int), .int .i64 ((k : Int))] 23) = wx := ⟨_, rfl⟩
  have HG0 := Lib.hid hg0
  rw [hwxe] at hp1 hp2 hbx hfx hhop hk0 hk1 HWX HTX HP1 HP2 HG0
  go_upto_if 12 with (fail)
  clear hwxe hwx tx hg0 hk0 hk1 hpb
  obtain ⟨db, HDB⟩ : ∃ db, Hid (decide (0 ≤ hopv) = db) := ⟨_, Lib.hid rfl⟩
  rw [HDB.out]
  go_cut [21] from 13 to 21 (fun _ w2 => ∃ s2, Wk n₀ po pw w2 s2 (out ++ oneR h k v) ∧ WkTo po wx (.slice A0 out.length c0) w2 s2)
  case first =>
    rcases db with _ | _
    rotate_left
    · have hpos : 0 ≤ hopv := of_decide_eq_true HDB.out
      have hbx2 : (wx.alloc (.cells #[.int .i64 (a : Int), .int .i64 ((k : Int)), .int .i64 hopv] 52)).cell? ⟨po, 0, none⟩ = some (.slice A0 out.length c0) := (HWX.out.box.alloc _).cell
      go_wp2_with fail
      go_region_law ((refine step_append_rte _ rfl (.tmp 13) (.tmp 20) rfl n₀ _ out (by rfl) (OwnT.mono HWX.out.own (((Grew.refl _).drewN 1).alloc _)) ((a : Int), (k : Int), hopv) _ _ rfl (rds_rte wx.drew ((a : Int), (k : Int), hopv) _) (by omega) (by have := HWX.out.low; simp; omega) ?_); intro A3 c3 w3 ho3 hb3 hg3 hk3; obtain ⟨hs3, hT3, hb4⟩ := Wk.put3 HWX.out (z := ((a : Int), (k : Int), hopv)) ho3 hg3 hk3; have hcell3 := hb4.cell; have hfz3 := hb4.frozen)
      all_goals
        go_wp2
        go_meet
        case rel =>
          have e1 : oneR h k v = [((a : Int), (k : Int), hopv)] := by rw [oneR, if_pos (by rw [HH.out]; exact hpos), HRT.out]
          rw [e1]
          exact ⟨_, hs3, hT3⟩
    · have hpos : ¬ 0 ≤ hopv := of_decide_eq_false HDB.out
      go_wp2
      go_meet
      case rel =>
        have e1 : oneR h k v = [] := by rw [oneR, if_neg (by rw [HH.out]; first | exact hpos | exact Int.not_le.2 hpos)]
        rw [e1, List.append_nil]
        exact ⟨_, HWX.out, WkTo.grew _ (Grew.refl _)⟩
  case rest =>
  obtain ⟨s2, hs2, hT2⟩ := hcut
  obtain ⟨A2, c2, rfl⟩ := hs2.own.shape
  have t2 := HTX.out.wk hS HWX.out hT2
  have hk0 : wc.cell? ⟨b, 0, none⟩ = some (ptrV kd0) := by rw [← HK0.out]; exact t2.kid0 hb
  have hk1 : wc.cell? ⟨b, 1, none⟩ = some (ptrV kd1) := by rw [← HK1.out]; exact t2.kid1 hb
  have HS2 := Lib.hid hs2
  have HT2 := Lib.hid hT2
  obtain ⟨wz, rfl⟩ : ∃ wz : World, wz = wc := ⟨_, rfl⟩
  clear hhop hfx hbx hp1 hp2 hs2 hT2 t2 hpo hlo ha
  have HB := Lib.hid hb
  clear hb
  go_wp2_with fail
  go_loopw [26] (fun j wr => ∃ (i : Nat) (s3 : Value), i ≤ 2 ∧ j = .int .i64 i ∧ Wk n₀ po pw wr s3 (out ++ oneR h k v ++ kidsR h n k v i) ∧ WkTo po wx (.slice A0 out.length c0) wr s3) (fun j _ => 3 - (intOf j).toNat)
  case atStart => exact ⟨0, _, Nat.zero_le _, rfl, by rw [kidsR, List.append_nil]; exact HS2.out, HT2.out⟩
  case round =>
    obtain ⟨i, s3, hi, rfl, hs3, hT3⟩ := hrel
    have hnb := hs3.fn.cell
    have t3 := HTX.out.wk hS HWX.out hT3
    have hp1 := hT3.cell HP1.out HPN.out.1 HPN.out.2
    have hp2 := hT3.cell HP2.out HPN.out.1 HPN.out.2
    have HS3 := Lib.hid hs3
    have HT3 := Lib.hid hT3
    have i0 := kid_at0
    have i1 := kid_at1
    have hi3 : i = 0 ∨ i = 1 ∨ i = 2 := by omega
    rcases hi3 with rfl | rfl | rfl
    · rcases kd0 with _ | b1
      · rw [ptrV_none]
        clear hs3 hT3 t3 hp1 hp2 hnb
        go_wp2
        go_roundw
        case rel => exact ⟨1, s3, by omega, rfl, by rw [kidsR, (HTX.out).kid_none (j := 0) HK0.out, List.append_nil]; exact HS3.out, HT3.out⟩
        case measure => simp [intOf]
      · rw [ptrV_some]
        have hgd : Grew wr wr.drew := (Grew.refl wr).drewN 1
        have hlen : (oneR h k v).length ≤ 1 := by unfold oneR; split <;> simp
        have HC := Lib.hid (ih 0 (by omega) b1 HK0.out wr.drew s3 _ (t3.grew hgd) (hs3.grew hgd) (by rw [kidsR, List.append_nil, List.length_append]; omega))
        have HGD := Lib.hid hgd
        clear hgd
        have hk16 : k + 1 ≤ 16 := (HTX.out).deep _ _ _ HK0.out
        have hsh := shl0 k (by omega)
        have EA : Hid (bits .or .i64 (a : Int) 0 = (((2 * v + 0) * 2 ^ (16 - (k + 1)) : Nat) : Int)) := Lib.hid (by have e := adr k v 0 a (by omega) ((HTX.out).small _ _ _ HB.out) HA.out (by omega); rw [Nat.zero_mul] at e; exact e)
        have EB : Hid (IntKind.i64.wrap ((k : Int) + 1) = ((k + 1 : Nat) : Int)) := Lib.hid (by rw [IntKind.wrap_i64]; omega)
        clear hs3 hT3 t3 ih hlen
        go_wp2_with fail
        go_region_held3 (fun w' => w'.cell? ⟨pb, 0, none⟩ = some (.int .i64 (a : Int)) ∧ w'.cell? ⟨pb, 1, none⟩ = some (.int .i64 (k : Int)) ∧ w'.cell? ⟨pw, 0, none⟩ = some (.func (.func 40) #[] #[.pointer (some ⟨po, 0, none⟩), .pointer (some ⟨pw, 0, none⟩)])) (go_keep) ((go_at_call 40; rw [EA.out, EB.out]; (with_reducible refine HC.out.mono ?_); rintro e w4 ⟨rfl, s4, hs4, hT4⟩; have HS4 := Lib.hid hs4; have HT4 := Lib.hid ((HT3.out).trans ((WkTo.grew s3 HGD.out).trans hT4)); have hp41 := (HT4.out).cell HP1.out HPN.out.1 HPN.out.2; have hp42 := (HT4.out).cell HP2.out HPN.out.1 HPN.out.2; have hp43 := (HS4.out).fn.cell))
        all_goals
          clear hs4 hT4 hp1 hp2 hnb
          go_wp2
          go_roundw
          case rel => exact ⟨1, s4, by omega, rfl, by rw [kidsR, ← List.append_assoc]; exact HS4.out, HT4.out⟩
          case measure => simp [intOf]
    · rcases kd1 with _ | b1
      · rw [ptrV_none]
        clear hs3 hT3 t3 hp1 hp2 hnb
        go_wp2
        go_roundw
        case rel => exact ⟨2, s3, by omega, rfl, by rw [kidsR, (HTX.out).kid_none (j := 1) HK1.out, List.append_nil]; exact HS3.out, HT3.out⟩
        case measure => simp [intOf]
      · rw [ptrV_some]
        have hgd : Grew wr wr.drew := (Grew.refl wr).drewN 1
        have hlen : (oneR h k v).length ≤ 1 := by unfold oneR; split <;> simp
        have hM0 := hM 0 (by omega)
        have HC := Lib.hid (ih 1 (by omega) b1 HK1.out wr.drew s3 _ (t3.grew hgd) (hs3.grew hgd) (by rw [show kidsR h n k v 1 = kidR h n k v 0 from by simp [kidsR], List.length_append, List.length_append]; omega))
        have HGD := Lib.hid hgd
        clear hgd hM0
        have hk16 : k + 1 ≤ 16 := (HTX.out).deep _ _ _ HK1.out
        obtain ⟨sh, hshe⟩ : ∃ sh : Nat, 1 * 2 ^ (15 - k) = sh := ⟨_, rfl⟩
        have hsh := shl1 k (by omega)
        rw [hshe] at hsh
        have EA : Hid (bits .or .i64 (a : Int) (sh : Int) = (((2 * v + 1) * 2 ^ (16 - (k + 1)) : Nat) : Int)) := Lib.hid (by rw [← hshe]; exact adr k v 1 a (by omega) ((HTX.out).small _ _ _ HB.out) HA.out (by omega))
        clear hshe
        have EB : Hid (IntKind.i64.wrap ((k : Int) + 1) = ((k + 1 : Nat) : Int)) := Lib.hid (by rw [IntKind.wrap_i64]; omega)
        clear hs3 hT3 t3 ih hlen
        go_wp2_with fail
        go_region_held3 (fun w' => w'.cell? ⟨pb, 0, none⟩ = some (.int .i64 (a : Int)) ∧ w'.cell? ⟨pb, 1, none⟩ = some (.int .i64 (k : Int)) ∧ w'.cell? ⟨pw, 0, none⟩ = some (.func (.func 40) #[] #[.pointer (some ⟨po, 0, none⟩), .pointer (some ⟨pw, 0, none⟩)])) (go_keep) ((go_at_call 40; rw [EA.out, EB.out]; (with_reducible refine HC.out.mono ?_); rintro e w4 ⟨rfl, s4, hs4, hT4⟩; have HS4 := Lib.hid hs4; have HT4 := Lib.hid ((HT3.out).trans ((WkTo.grew s3 HGD.out).trans hT4)); have hp41 := (HT4.out).cell HP1.out HPN.out.1 HPN.out.2; have hp42 := (HT4.out).cell HP2.out HPN.out.1 HPN.out.2; have hp43 := (HS4.out).fn.cell))
        all_goals
          clear hs4 hT4 hp1 hp2 hnb
          go_wp2
          go_roundw
          case rel => exact ⟨2, s4, by omega, rfl, by rw [kidsR, ← List.append_assoc]; exact HS4.out, HT4.out⟩
          case measure => simp [intOf]
    · clear hs3 hT3 t3 hp1 hp2 hnb
      go_wp2
      first | go_ret | go_end0
      rw [preR_kidsR, ← List.append_assoc]
      exact ⟨rfl, s3, HS3.out, (WkTo.grew _ HG0.out).trans HT3.out⟩
end
end Go.Proofs.YtfgpppgehbpblaaDoor
