/- core.Chunks at ints: its counted contract. -/
import Derived.Lib.MinMax
import Derived.Test.YtalehbhimnhnjaaDoorRange
namespace Go.Proofs.YtalehbhimnhnjaaDoor
open Go.RowKit Go.Shelf
attribute [local go_sem] Oper.semAt_some
attribute [-go_sem] run_min_int2

/-- What is left of a slice when k chunks have been cut off: address, length, capacity. -/
def left (m : Nat) (A : Option Addr) (n c : Nat) : Nat → Option Addr × Nat × Nat
  | 0 => (A, n, c)
  | k + 1 => let s := left m A n c k; (cutA s.1 (min m s.2.1) s.2.2, s.2.1 - min m s.2.1, s.2.2 - min m s.2.1)

def chunks (m n : Nat) : Nat := (n + m - 1) / m
theorem chunks_lt {m n k : Nat} (hm : 0 < m) : k < chunks m n ↔ k * m < n := by
  unfold chunks
  rw [← Nat.add_one_le_iff, Nat.le_div_iff_mul_le hm, Nat.add_mul, Nat.one_mul]
  omega
theorem left_len (m : Nat) (A : Option Addr) (n c : Nat) : ∀ k, (left m A n c k).2.1 = n - k * m
  | 0 => by simp [left]
  | k + 1 => by simp only [left]; rw [left_len m A n c k, Nat.add_mul, Nat.one_mul]; omega
theorem left_cap {m : Nat} {A : Option Addr} {n c : Nat} (h : n ≤ c) : ∀ k, (left m A n c k).2.1 ≤ (left m A n c k).2.2 ∧ (left m A n c k).2.2 ≤ c
  | 0 => by simp [left]; exact h
  | k + 1 => by have := left_cap (m := m) (A := A) h k; simp only [left]; omega
theorem left_rds {w : World} {m : Nat} {A : Option Addr} {n c : Nat} {xs : List Int} (h : Rds w 1 A n (ic xs)) (hc : n ≤ c) : ∀ k, Rds w 1 (left m A n c k).1 (left m A n c k).2.1 (ic (xs.drop (k * m)))
  | 0 => by simpa [left] using h
  | k + 1 => by
    have h1 := left_rds (m := m) h hc k
    have h2 := h1.drop (k := min m (left m A n c k).2.1) (Nat.min_le_right _ _) (left_cap hc k).1
    rw [List.drop_drop] at h2
    have hl := h.len_int
    rw [left_len] at h2
    have e : xs.drop (k * m + min m (n - k * m)) = xs.drop ((k + 1) * m) := by
      rw [Nat.add_mul, Nat.one_mul]
      rcases Nat.le_total m (n - k * m) with hh | hh
      · rw [Nat.min_eq_left hh]
      · rw [List.drop_eq_nil_of_le (by omega), List.drop_eq_nil_of_le (by omega)]
    rw [e] at h2
    simpa [left, left_len] using h2

/-- The k-th chunk. -/
def chunkV (m : Nat) (A : Option Addr) (n c k : Nat) : Value := .slice (left m A n c k).1 (min m (left m A n c k).2.1) (left m A n c k).2.2
theorem chunk_rds {w : World} {m : Nat} {A : Option Addr} {n c : Nat} {xs : List Int} (h : Rds w 1 A n (ic xs)) (hc : n ≤ c) (k : Nat) :
    Rds w 1 (left m A n c k).1 (min m (left m A n c k).2.1) (ic ((xs.drop (k * m)).take m)) := by
  have h1 := (left_rds (m := m) h hc k).take (Nat.min_le_right m _)
  have e : (xs.drop (k * m)).take (min m (left m A n c k).2.1) = (xs.drop (k * m)).take m := by
    have hl := h.len_int
    rw [left_len]
    rcases Nat.le_total m (n - k * m) with hh | hh
    · rw [Nat.min_eq_left hh]
    · rw [List.take_of_length_le (by simp; omega), List.take_of_length_le (by simp; omega)]
  rwa [e] at h1

set_option maxRecDepth 100000 in
set_option maxHeartbeats 2000000 in
theorem chunks_in (F : Fence) (q : Nat) (hF : F.fn 36) (hro : F.round = none) (A : Option Addr) (n c : Nat) (m : Int) (w : World) :
    CallsIn F q Tryd.prog 36 #[.slice A n c, .int .i64 m] w fun e w' =>
      e = .returned (.func (.func 46) #[] #[.pointer (some ⟨w.heap.size, 0, none⟩), .pointer (some ⟨w.heap.size + 1, 0, none⟩)]) ∧
      w' = (w.alloc (.cells #[.slice A n c] 22)).alloc (.cells #[.int .i64 m] 3) := by
  refine callsIn_of_wp Tryd.func36 rfl hF ?_ hro
  simp only [Tryd.ntmps36, List.size_toArray, List.length_cons, List.length_nil, Nat.reduceAdd, Nat.reduceSub, Array.replicate_succ, Array.replicate_zero, List.push_toArray, List.append_toArray, List.nil_append, List.cons_append]
  gi_wp2
  go_ret
  exact ⟨rfl, rfl⟩

def lenOfO : Option Value → Nat
  | some (.slice _ n _) => n
  | _ => 0

set_option maxRecDepth 100000 in
set_option maxHeartbeats 4000000 in
theorem chunks_counted (F : Fence) (q : Nat) (hF : F.fn 46) (hro : F.round = none) (hq : 1 ≤ q) (A : Option Addr) (n c b m : Nat) (hm : 0 < m) (hm' : m < 1000) (hn : n ≤ c) (hc : c ≤ maxLen) (n₀ : Nat) (w : World)
    (hb1 : Boxed w b 22 (.slice A n c)) (hb2 : Boxed w (b + 1) 3 (.int .i64 m)) :
    Counted F q Tryd.prog 46 #[.pointer (some ⟨b, 0, none⟩), .pointer (some ⟨b + 1, 0, none⟩)] (chunkV m A n c) n₀ b (chunks m n) w := by
  intro l J Jx W hW hJ hY h0
  have b1 : Boxed W b 22 (.slice A n c) := (hW.block _ hb1.lt).trans hb1
  have b2 : Boxed W (b + 1) 3 (.int .i64 m) := (hW.block _ hb2.lt).trans hb2
  refine callsIn_of_wp Tryd.func46 rfl hF ?_ hro
  simp only [Tryd.ntmps46, List.size_toArray, List.length_cons, List.length_nil, Nat.reduceAdd, Nat.reduceSub, Array.replicate_succ, Array.replicate_zero, List.push_toArray, List.append_toArray, List.nil_append, List.cons_append]
  gi_wp2
  gi_loopw [] (fun wr => ∃ k : Nat, k ≤ chunks m n ∧ J k wr ∧ Boxed wr b 22 (.slice (left m A n c k).1 (left m A n c k).2.1 (left m A n c k).2.2) ∧ Boxed wr (b + 1) 3 (.int .i64 m))
    (fun wr => lenOfO (wr.cell? ⟨b, 0, none⟩))
  case atStart => exact ⟨0, Nat.zero_le _, h0, b1, b2⟩
  case round =>
    obtain ⟨k, hk, hJs, c1, c2⟩ := hrel
    have hlen := left_len m A n c k
    have hcap := left_cap (m := m) (A := A) hn k
    have hnext : left m A n c (k + 1) = (cutA (left m A n c k).1 (min m (left m A n c k).2.1) (left m A n c k).2.2, (left m A n c k).2.1 - min m (left m A n c k).2.1, (left m A n c k).2.2 - min m (left m A n c k).2.1) := rfl
    have hv : chunkV m A n c k = .slice (left m A n c k).1 (min m (left m A n c k).2.1) (left m A n c k).2.2 := rfl
    generalize left m A n c k = s at hlen hcap hnext hv c1
    obtain ⟨A1, n1, c1'⟩ := s
    dsimp only at hlen hcap hnext hv c1
    have hcell := c1.cell
    have hcell2 := c2.cell
    have hfr := c1.frozen
    have hcm : c1' ≤ maxLen := Nat.le_trans hcap.2 hc
    unfold maxLen at hcm
    by_cases hlt : k < chunks m n
    · obtain ⟨fn, tmps, assign, body, hy, hR⟩ := hY k wr hJs hlt
      have hpos := (chunks_lt hm).1 hlt
      rw [hv] at hy
      have hp1 : 0 < n1 := by omega
      have hp2 : (0 : Int) < (n1 : Int) := by omega
      have hmn : min (m : Int) (n1 : Int) = ((min m n1 : Nat) : Int) := by omega
      have hk1 : min m n1 ≤ n1 := Nat.min_le_right _ _
      have ht0 : 0 < min m n1 := by omega
      have hk2 : min m n1 ≤ c1' := by omega
      generalize min m n1 = t at hy hmn hk1 hk2 ht0 hnext
      clear hv hlen hY hpos
      gi_wp2
      refine hR.mono ?_
      rintro e W3 (⟨rfl, hJ3, hk3⟩ | ⟨rfl, hJx3⟩)
      · have d1 : Boxed W3 b 22 (.slice A1 n1 c1') := hk3.box.trans c1
        have d2 : Boxed W3 (b + 1) 3 (.int .i64 m) := hk3.box'.trans c2
        have hd1 := d1.cell
        have hd2 := d2.cell
        have hdf := d1.frozen
        gi_wp2
        go_roundw
        case rel => exact ⟨k + 1, hlt, hJ _ _ _ hJ3, by rw [hnext]; exact d1.set _, d2.other (by omega) _⟩
        case measure =>
          rw [World.cell?_setCell_same' _ _ _ (by rw [hd1]; rfl), hcell]
          simp only [lenOfO]; omega
      · gi_wp2
        refine bodyPost_ret (results_none rfl _ _ _) rfl ?_
        exact ⟨⟨_, rfl⟩, .inr ⟨k, hlt, hJx3⟩⟩
    · have hpos : ¬ k * m < n := fun h => hlt ((chunks_lt hm).2 h)
      obtain rfl : n1 = 0 := by omega
      obtain rfl : k = chunks m n := by omega
      clear hlen hpos hv hnext hcap
      gi_wp2
      go_end0
      exact ⟨⟨_, rfl⟩, .inl hJs⟩
end Go.Proofs.YtalehbhimnhnjaaDoor
