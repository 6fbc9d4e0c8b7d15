/- ones: what its functions compute, in plain words; their contracts. -/
import Derived.Test.YtalehbhimnhnjaaDoorChunks
namespace Go.Proofs.YtalehbhimnhnjaaDoor
open Go.RowKit Go.Shelf
attribute [local go_sem] Oper.semAt_some

def addW (a b : Int) : Int := if 65535 < a + b then a + b - 65535 else a + b
def wordOf : List Int → Int
  | [] => 0
  | [x] => x * 256
  | x :: y :: _ => x * 256 + y
def totK (xs : List Int) : Nat → Int
  | 0 => 0
  | k + 1 => addW (totK xs k) (wordOf ((xs.drop (k * 2)).take 2))
def totalP (xs : List Int) : Int := totK xs (chunks 2 xs.length)

theorem addW_le {a b : Int} (ha : 0 ≤ a) (ha' : a ≤ 65535) (hb : 0 ≤ b) (hb' : b ≤ 65535) : 0 ≤ addW a b ∧ addW a b ≤ 65535 := by
  unfold addW; split <;> omega
theorem wordOf_le {xs : List Int} (h : ∀ x ∈ xs, 0 ≤ x ∧ x ≤ 255) : 0 ≤ wordOf xs ∧ wordOf xs ≤ 65535 := by
  unfold wordOf
  split
  · omega
  · rename_i x; have := h x (by simp); omega
  · rename_i x y _; have := h x (by simp); have := h y (by simp); omega
theorem totK_le {xs : List Int} (h : ∀ x ∈ xs, 0 ≤ x ∧ x ≤ 255) : ∀ k, 0 ≤ totK xs k ∧ totK xs k ≤ 65535
  | 0 => by simp [totK]
  | k + 1 => by
    have h1 := totK_le h k
    have h2 := wordOf_le (xs := (xs.drop (k * 2)).take 2) (fun x hx => h x (List.mem_of_mem_drop (List.mem_of_mem_take hx)))
    exact addW_le h1.1 h1.2 h2.1 h2.2

set_option maxHeartbeats 1000000 in
theorem add_any (a b : Int) (w : World) (ha : 0 ≤ a) (ha' : a ≤ 65535) (hb : 0 ≤ b) (hb' : b ≤ 65535) :
    Calls Tryd.prog 43 #[.int .i64 a, .int .i64 b] w fun e w' => e = .returned (.int .i64 (addW a b)) ∧ w = w' := by
  have hw : IntKind.i64.wrap (a + b) = a + b := IntWalk.i64_in _ (by omega)
  by_cases h : 65535 < a + b
  · have hw2 : IntKind.i64.wrap (a + b - 65535) = a + b - 65535 := IntWalk.i64_in _ (by omega)
    have e : addW a b = a + b - 65535 := by simp [addW, h]
    rw [e]
    go_enter Tryd.func43, Tryd.ntmps43
    go_wp2
    go_ret
    exact ⟨rfl, rfl⟩
  · have e : addW a b = a + b := by simp [addW, h]
    rw [e]
    go_enter Tryd.func43, Tryd.ntmps43
    go_wp2
    go_ret
    exact ⟨rfl, rfl⟩

set_option maxRecDepth 100000 in
set_option maxHeartbeats 4000000 in
theorem total_any (A : Option Addr) (n c : Nat) (xs : List Int) (w : World) (hr : Rds w 1 A n (ic xs)) (hn : n ≤ c) (hc : c ≤ maxLen) (hb : ∀ x ∈ xs, 0 ≤ x ∧ x ≤ 255) :
    Calls Tryd.prog 39 #[.slice A n c] w fun e w' => e = .returned (.int .i64 (totalP xs)) ∧ Below w.heap.size w w' := by
  refine (callsIn_wide (n := 5)).1 ?_
  refine callsIn_of_wp_marks Tryd.func39 rfl trivial ?_ rfl
  simp only [Tryd.ntmps39, List.size_toArray, List.length_cons, List.length_nil, Nat.reduceAdd, Nat.reduceSub, Array.replicate_succ, Array.replicate_zero, List.push_toArray, List.append_toArray, List.nil_append, List.cons_append]
  gi_wp2_with (refine ⟨trivial, ?_⟩; gi_at_call 36; refine (chunks_in Fence.wide (5 - 1) trivial rfl _ _ _ _ _).mono ?_; rintro e w' ⟨rfl, rfl⟩)
  have bS := Boxed.new w 3 (.int .i64 0)
  have bL := Boxed.new (w.alloc (.cells #[.int .i64 0] 3)) 22 (.slice A n c)
  have bN := Boxed.new ((w.alloc (.cells #[.int .i64 0] 3)).alloc (.cells #[.slice A n c] 22)) 3 (.int .i64 2)
  rw [World.size_alloc] at bL
  rw [World.size_alloc, World.size_alloc] at bN
  have hB0 : Below w.heap.size w (((w.alloc (.cells #[.int .i64 0] 3)).alloc (.cells #[.slice A n c] 22)).alloc (.cells #[.int .i64 2] 3)) :=
    (((Below.refl _ w).alloc (Nat.le_refl _) _).alloc (by simp) _).alloc (by simp; omega) _
  have hlen := Lib.hid hr.len_int
  refine range_counted rfl (by omega) (gf := 46) (lb := #[.pointer (some ⟨w.heap.size + 1, 0, none⟩), .pointer (some ⟨w.heap.size + 1 + 1, 0, none⟩)]) rfl trivial (enters_of Tryd.func46 (by kernel_rfl) rfl)
    (enc := chunkV 2 A n c) (n₀ := w.heap.size) (c := w.heap.size + 1) (N := chunks 2 n) (by simp; omega) (by simp)
    (chunks_counted Fence.wide (5 - 1) trivial rfl (by omega) A n c (w.heap.size + 1) 2 (by omega) (by omega) hn hc w.heap.size _ (bL.alloc _) bN) rfl
    (fun k W => Boxed W w.heap.size 3 (.int .i64 (totK xs k)) ∧ Below w.heap.size w W) (fun _ _ => False)
    (OwnFrom.and (Own.from (boxed_own _ _ _) _) (ownFrom_below (Nat.le_refl _) (by simp; omega)))
    (fun _ _ _ _ hs _ _ => hs)
    (fun k W v h => ⟨h.1.other (by omega) v, h.2.setCell (p := ⟨w.heap.size + 1, 0, none⟩) (by simp) v⟩)
    ⟨(bS.alloc _).alloc _, hB0⟩
    (fun k => { tmps := #[.slice A n c, undef, .int .i64 0, .pointer (some ⟨w.heap.size, 0, none⟩), chunkV 2 A n c k, undef, .slice A n c, .func (.func 46) #[] #[.pointer (some ⟨w.heap.size + 1, 0, none⟩), .pointer (some ⟨w.heap.size + 1 + 1, 0, none⟩)], chunkV 2 A n c k, undef, undef, undef, undef, undef, undef, undef, undef, undef, undef, undef, undef, undef, undef, undef, undef], defers := [] }) ?assign ?body ?done ?stop
  case assign =>
    intro l k W K hK
    gi_wp2
    exact hK
  case body =>
    rintro l k W ⟨bW, hB⟩ hk
    have hkn := (chunks_lt (by omega)).1 hk
    have hrd := chunk_rds (m := 2) (hr.below hB) hn k
    have htk := totK_le hb k
    have hwd := wordOf_le (xs := (xs.drop (k * 2)).take 2) (fun x hx => hb x (List.mem_of_mem_drop (List.mem_of_mem_take hx)))
    have hmem : ∀ x ∈ (xs.drop (k * 2)).take 2, 0 ≤ x ∧ x ≤ 255 := fun x hx => hb x (List.mem_of_mem_drop (List.mem_of_mem_take hx))
    have hnx : totK xs (k + 1) = addW (totK xs k) (wordOf ((xs.drop (k * 2)).take 2)) := rfl
    have hys : 0 < ((xs.drop (k * 2)).take 2).length ∧ ((xs.drop (k * 2)).take 2).length ≤ 2 := by simp; have := hlen.out; omega
    have hcap := left_cap (m := 2) (A := A) hn k
    show Code.wpIn _ _ _ _ _ _ _
    unfold chunkV
    generalize left 2 A n c k = s at hrd hcap ⊢
    obtain ⟨A1, n1, c1⟩ := s
    dsimp only at hrd hcap ⊢
    have hl2 := hrd.len_int
    generalize min 2 n1 = t at hrd hl2 ⊢
    have hbc := bW.cell
    have hbf := bW.frozen
    generalize totK xs k = tk at htk hnx hbc bW ⊢
    match hy : (xs.drop (k * 2)).take 2, hys with
    | [x], _ =>
      rw [hy] at hrd hl2 hwd hmem hnx
      obtain rfl : t = 1 := hl2
      obtain ⟨b, off, rfl, hcell⟩ := hrd.2 (by rw [ic_length]; exact Nat.one_pos)
      have hc0 := hcell 0 (by rw [ic_length]; exact Nat.one_pos)
      replace hc0 : W.cell? ⟨b, off, none⟩ = some (.int .i64 x) := by simpa [ic] using hc0
      have hx := hmem x (by simp)
      have hw0 : IntKind.i64.wrap (x * 256) = x * 256 := IntWalk.i64_in _ (by omega)
      have hwd' : wordOf [x] = x * 256 := rfl
      rw [hwd'] at hnx hwd
      clear hcell hrd hmem hkn hy hwd' hr hb
      gi_wp2_with (refine ⟨trivial, ?_⟩; gi_at_call 43; refine (CallsIn.inRound l (callsIn_wide.2 (add_any _ _ _ (by omega) (by omega) (by omega) (by omega)))).mono ?_; rintro e w' ⟨rfl, rfl⟩)
      refine ⟨KeepsOthers.setCell _ _ _, ⟨(Below.refl w.heap.size W).setCell (p := ⟨w.heap.size, 0, none⟩) (Nat.le_refl _) _, Below.heap_setCell W _ _ _ (by simp), Below.heap_setCell W _ _ _ (by show w.heap.size + 1 + 1 ≠ w.heap.size; omega)⟩, ?_, hB.setCell (p := ⟨w.heap.size, 0, none⟩) (Nat.le_refl _) _⟩
      rw [hnx]
      exact bW.set _
    | [x, y], _ =>
      rw [hy] at hrd hl2 hwd hmem hnx
      obtain rfl : t = 2 := hl2
      obtain ⟨b, off, rfl, hcell⟩ := hrd.2 (by rw [ic_length]; exact Nat.two_pos)
      have hc0 := hcell 0 (by rw [ic_length]; exact Nat.two_pos)
      have hc1 := hcell 1 (by rw [ic_length]; exact Nat.one_lt_two)
      replace hc0 : W.cell? ⟨b, off, none⟩ = some (.int .i64 x) := by simpa [ic] using hc0
      replace hc1 : W.cell? ⟨b, off + 1, none⟩ = some (.int .i64 y) := by simpa [ic] using hc1
      have hx := hmem x (by simp)
      have hx' := hmem y (by simp)
      have hw0 : IntKind.i64.wrap (x * 256) = x * 256 := IntWalk.i64_in _ (by omega)
      have hw1 : IntKind.i64.wrap (x * 256 + y) = x * 256 + y := IntWalk.i64_in _ (by omega)
      have hwd' : wordOf [x, y] = x * 256 + y := rfl
      rw [hwd'] at hnx hwd
      clear hcell hrd hmem hkn hy hwd' hr hb
      gi_wp2_with (refine ⟨trivial, ?_⟩; gi_at_call 43; refine (CallsIn.inRound l (callsIn_wide.2 (add_any _ _ _ (by omega) (by omega) (by omega) (by omega)))).mono ?_; rintro e w' ⟨rfl, rfl⟩)
      refine ⟨KeepsOthers.setCell _ _ _, ⟨(Below.refl w.heap.size W).setCell (p := ⟨w.heap.size, 0, none⟩) (Nat.le_refl _) _, Below.heap_setCell W _ _ _ (by simp), Below.heap_setCell W _ _ _ (by show w.heap.size + 1 + 1 ≠ w.heap.size; omega)⟩, ?_, hB.setCell (p := ⟨w.heap.size, 0, none⟩) (Nat.le_refl _) _⟩
      rw [hnx]
      exact bW.set _
    | x :: y :: z :: _, h => simp at h
  case done =>
    rintro D W hD ⟨bW, hB⟩ hK
    have hbc := bW.cell
    gi_wp2
    refine ⟨by simp, .inl ⟨_, _, rfl, run_takeDeferred hK, ?_⟩⟩
    refine ⟨_, results_tmp rfl _ _ _, ?_, hB.trans (belowK_b (w := w) (Nat.le_refl _) W D _ _ (by simp at hD; omega) hK rfl rfl)⟩
    rw [totalP, ← hlen.out]
    rfl
  case stop =>
    rintro D k W _ _ h _
    exact h.elim
end Go.Proofs.YtalehbhimnhnjaaDoor
