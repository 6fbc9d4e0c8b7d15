/- The order of prefixes that the program sorts by: cmp.Compare, cmp.Or at ints, and the closure. -/
import Derived.Test.YtfgpppgehbpblaaDoorCidrCon
import Derived.Test.YtfgpppgehbpblaaDoorGrown
namespace Go.Proofs.YtfgpppgehbpblaaDoor
open Go.RowKit
attribute [local go_sem ↓] Go.wp_at_zero Go.wp_at_succ
/-- cmp.Compare at ints. -/
def cmpI (x y : Int) : Int := if x < y then -1 else if y < x then 1 else 0
theorem isNaN_any (x : Int) (w : World) : Calls Tryd.prog 50 #[.int .i64 x] w fun e w' => e = .returned (.bool false) ∧ w' = w := by
  go_enter Tryd.func50, Tryd.ntmps50
  go_wp2
  go_ret
  exact ⟨ret_eq (bool_eq (by simp)), rfl⟩
theorem compare_any (x y : Int) (w : World) : Calls Tryd.prog 39 #[.int .i64 x, .int .i64 y] w fun e w' => e = .returned (.int .i64 (cmpI x y)) ∧ w' = w := by
  go_enter Tryd.func39, Tryd.ntmps39
  go_wp2_with (go_at_call 50; refine (isNaN_any _ _).mono ?_; rintro e w' ⟨rfl, rfl⟩)
  · have e : cmpI x y = -1 := by unfold cmpI; rw [if_pos (by assumption)]
    rw [e]
    go_ret
    exact ⟨rfl, rfl⟩
  · have e : cmpI x y = 1 := by unfold cmpI; rw [if_neg (by omega), if_pos (by assumption)]
    rw [e]
    go_ret
    exact ⟨rfl, rfl⟩
  · have e : cmpI x y = 0 := by unfold cmpI; rw [if_neg (by omega), if_neg (by omega)]
    rw [e]
    go_ret
    exact ⟨rfl, rfl⟩
/-- cmp.Or of two ints. -/
def orI (x y : Int) : Int := if x = 0 then y else x
theorem or_any (x y : Int) (b : Nat) (w : World) (h0 : w.cell? ⟨b, 0, none⟩ = some (.int .i64 x)) (h1 : w.cell? ⟨b, 1, none⟩ = some (.int .i64 y)) : Calls Tryd.prog 38 #[.slice (some ⟨b, 0, none⟩) 2 2] w fun e w' => e = .returned (.int .i64 (orI x y)) ∧ w' = w := by
  go_enter Tryd.func38, Tryd.ntmps38
  go_wp2
  go_loopw [8] (fun i wr => ∃ k : Nat, k ≤ 2 ∧ (1 ≤ k → x = 0) ∧ (2 ≤ k → y = 0) ∧ i = .int .i64 k ∧ wr = w) (fun i _ => 2 - (intOf i).toNat)
  case atStart => exact ⟨0, by omega, by omega, by omega, rfl, rfl⟩
  case round =>
    obtain ⟨k, hk, hx, hy, rfl, rfl⟩ := hrel
    match k, hk with
    | 0, _ =>
      go_wp2
      · have e : orI x y = x := by unfold orI; rw [if_neg (by simpa using (by assumption : (x != 0) = true))]
        rw [e]
        go_ret
        exact ⟨rfl, rfl⟩
      · exact ⟨⟨1, by omega, fun _ => by simpa using (by assumption : (x != 0) = false), by omega, rfl, trivial⟩, by simp [intOf]⟩
    | 1, _ =>
      go_wp2
      · have e : orI x y = y := by unfold orI; rw [if_pos (hx (by omega))]
        rw [e]
        go_ret
        exact ⟨rfl, rfl⟩
      · exact ⟨⟨2, by omega, fun _ => hx (by omega), fun _ => by simpa using (by assumption : (y != 0) = false), rfl, trivial⟩, by simp [intOf]⟩
    | 2, _ =>
      go_wp2
      have e : orI x y = 0 := by unfold orI; rw [if_pos (hx (by omega)), hy (by omega)]
      rw [e]
      go_ret
      exact ⟨rfl, rfl⟩
/-- How the program orders two prefixes. -/
def cmpP (p q : Int × Int) : Int := orI (cmpI p.1 q.1) (cmpI p.2 q.2)
theorem cell_of0 {W : World} {b : Nat} {c d : Value} {t : TypeId} (h : W.heap[b]? = some (.cells #[c, d] t)) : W.cell? ⟨b, 0, none⟩ = some c := by simp [World.cell?, h]
theorem cell_of1 {W : World} {b : Nat} {c d : Value} {t : TypeId} (h : W.heap[b]? = some (.cells #[c, d] t)) : W.cell? ⟨b, 1, none⟩ = some d := by simp [World.cell?, h]
theorem cell_third0 (w : World) (o1 o2 : Obj) (c d : Value) (t : TypeId) : (((w.alloc o1).alloc o2).alloc (.cells #[c, d] t)).drew.cell? ⟨w.heap.size + 1 + 1, 0, none⟩ = some c := by
  have h : (((w.alloc o1).alloc o2).alloc (.cells #[c, d] t)).heap[w.heap.size + 1 + 1]? = some (.cells #[c, d] t) := by
    have g := World.alloc_heap_new ((w.alloc o1).alloc o2) (.cells #[c, d] t)
    rwa [World.size_alloc, World.size_alloc] at g
  exact cell_of0 (W := (((w.alloc o1).alloc o2).alloc (.cells #[c, d] t)).drew) h
theorem cell_third1 (w : World) (o1 o2 : Obj) (c d : Value) (t : TypeId) : (((w.alloc o1).alloc o2).alloc (.cells #[c, d] t)).drew.cell? ⟨w.heap.size + 1 + 1, 1, none⟩ = some d := by
  have h : (((w.alloc o1).alloc o2).alloc (.cells #[c, d] t)).heap[w.heap.size + 1 + 1]? = some (.cells #[c, d] t) := by
    have g := World.alloc_heap_new ((w.alloc o1).alloc o2) (.cells #[c, d] t)
    rwa [World.size_alloc, World.size_alloc] at g
  exact cell_of1 (W := (((w.alloc o1).alloc o2).alloc (.cells #[c, d] t)).drew) h
set_option maxHeartbeats 1000000 in
theorem cmpP_any (p q : Int × Int) (w : World) :
    Calls Tryd.prog 37 #[.agg #[.int .i64 p.1, .int .i64 p.2], .agg #[.int .i64 q.1, .int .i64 q.2]] w fun e w' => e = .returned (.int .i64 (cmpP p q)) ∧ Grew w w' := by
  obtain ⟨a, l⟩ := p
  obtain ⟨b, m⟩ := q
  have HC := Lib.hid (fun w => compare_any a b w)
  have HD := Lib.hid (fun w => compare_any l m w)
  have HP : Hid (cmpP (a, l) (b, m) = orI (cmpI a b) (cmpI l m)) := Lib.hid rfl
  generalize cmpP (a, l) (b, m) = r at *
  generalize cmpI a b = c at *
  generalize cmpI l m = d at *
  have HO := Lib.hid (fun n w h0 h1 => or_any c d n w h0 h1)
  generalize orI c d = v at *
  obtain rfl : r = v := HP.out
  go_enter Tryd.func37, Tryd.ntmps37
  go_wp2_with fail
  go_region_held3 (fun w' => w'.cell? ⟨w.heap.size, 0, none⟩ = some (.int .i64 a) ∧ w'.cell? ⟨w.heap.size, 1, none⟩ = some (.int .i64 l) ∧ w'.cell? ⟨w.heap.size + 1, 0, none⟩ = some (.int .i64 b) ∧ w'.cell? ⟨w.heap.size + 1, 1, none⟩ = some (.int .i64 m)) (go_keep) ((first | (go_at_call 39; with_reducible refine (HC.out _).mono ?_; rintro e w' ⟨rfl, rfl⟩) | (go_at_call 39; with_reducible refine (HD.out _).mono ?_; rintro e w' ⟨rfl, rfl⟩) | (go_at_call 38; refine (HO.out _ _ (cell_third0 w _ _ _ _ _) (cell_third1 w _ _ _ _ _)).mono ?_; rintro e w' ⟨rfl, rfl⟩)))
  all_goals
    go_wp2
    go_ret
    exact ⟨rfl, (((((Grew.refl w).alloc _).alloc _).alloc _).drewN 1)⟩
end Go.Proofs.YtfgpppgehbpblaaDoor
