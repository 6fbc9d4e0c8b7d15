/- Contracts of package cidr's helpers: within, Has. -/
import Derived.Test.YtfgpppgehbpblaaDoorCidrCon
import Derived.Deep.RegionHeld3
import Derived.Deep.QuietTactic
import Derived.BigQuiet
import Derived.Outline
namespace Go.Proofs.YtfgpppgehbpblaaDoor
open Go.RowKit
attribute [local go_sem ↓] Go.wp_at_zero Go.wp_at_succ
/-- Is the one prefix within the other one, as the program asks? -/
def withinB (a l b m : Int) : Bool := decide (m ≤ l) && (a - a % szI m == b)
set_option maxHeartbeats 400000 in
theorem pwithin_anyW (a l b m : Int) (w : World) (ha : 0 ≤ a) (ha' : a ≤ 65535) (hm : 0 ≤ m) (hm' : m ≤ 16) :
    Calls Tryd.prog 33 #[.agg #[.int .i64 a, .int .i64 l], .agg #[.int .i64 b, .int .i64 m]] w fun e w' => e = .returned (.bool (withinB a l b m)) ∧ Grew w w' := by
  have HW : Hid (withinB a l b m = (decide (m ≤ l) && (a - a % szI m == b))) := Lib.hid rfl
  have HS := Lib.hid (fun w => size_any b m w hm hm')
  have hs1 := szI_pos m
  have hs2 := szI_le m
  generalize szI m = s at *
  have hs0 : (s == 0) = false := by rw [beq_eq_false_iff_ne]; omega
  have htm : a.tmod s = a % s := Int.tmod_eq_emod_of_nonneg ha
  have hr0 := Int.emod_nonneg a (show s ≠ 0 by omega)
  have hr1 := Int.emod_lt_of_pos a (show 0 < s by omega)
  have hs3 : ¬ s = 0 := by omega
  have hwr : IntKind.i64.wrap (a - a % s) = a - a % s := IntWalk.i64_in _ (by have := hr1; constructor <;> omega)
  by_cases hl : m ≤ l
  · go_enter Tryd.func33, Tryd.ntmps33
    go_wp2_with fail
    go_region_held3 (fun w' => w'.cell? ⟨w.heap.size, 0, none⟩ = some (.int .i64 a) ∧ w'.cell? ⟨w.heap.size, 1, none⟩ = some (.int .i64 l) ∧ w'.cell? ⟨w.heap.size + 1, 0, none⟩ = some (.int .i64 b) ∧ w'.cell? ⟨w.heap.size + 1, 1, none⟩ = some (.int .i64 m)) (go_keep) ((go_at_call 32; refine (HS.out _).mono ?_; rintro e w' ⟨rfl, rfl⟩))
    all_goals
      go_wp2
      go_ret
      exact ⟨ret_eq (bool_eq (by rw [HW.out, decide_eq_true hl, Bool.true_and])), (((((Grew.refl w).alloc _).alloc _).alloc _).drewN _)⟩
  · have hl' : decide (m ≤ l) = false := decide_eq_false hl
    go_enter Tryd.func33, Tryd.ntmps33
    go_wp2_with fail
    go_quiet (fail)
    go_wp2
    go_ret
    exact ⟨ret_eq (bool_eq (by rw [HW.out, hl', Bool.false_and])), ((((Grew.refl w).alloc _).alloc _).drewN _)⟩

theorem pwithin_any (a l b m : Int) (w : World) (ha : 0 ≤ a) (ha' : a ≤ 65535) (hm : 0 ≤ m) (hm' : m ≤ 16) :
    Calls Tryd.prog 33 #[.agg #[.int .i64 a, .int .i64 l], .agg #[.int .i64 b, .int .i64 m]] w fun e w' => e = .returned (.bool (withinB a l b m)) ∧ Below w.heap.size w w' :=
  (pwithin_anyW a l b m w ha ha' hm hm').mono fun _ _ ⟨h1, h3⟩ => ⟨h1, h3.below⟩

/-- Is an address in a prefix? -/
def hasI (a l x : Int) : Bool := withinB x 16 a l
def HasPost (a l x : Int) (w : World) (e : Ending) (w' : World) : Prop :=
  (checkE a l = 0 → inB x 0 65535 = true → e = .returned (.tuple #[.bool (hasI a l x), .nilIface])) ∧ (checkE a l = 0 → inB x 0 65535 = false → e = .returned (.tuple #[.bool false, .iface 66 (.int .i64 1)])) ∧ (checkE a l ≠ 0 → e = .returned (.tuple #[.bool false, .iface 66 (.int .i64 (checkE a l))])) ∧ Below w.heap.size w w'
theorem has_any (a l x : Int) (w : World) :
    Calls Tryd.prog 11 #[.agg #[.int .i64 a, .int .i64 l], .int .i64 x] w (HasPost a l x w) := by
  have hB : Below w.heap.size w (w.alloc (.cells #[.int .i64 a, .int .i64 l] 23)) := (Below.refl _ _).alloc (Nat.le_refl _) _
  have hc0 : (w.alloc (.cells #[.int .i64 a, .int .i64 l] 23)).cell? ⟨w.heap.size, 0, none⟩ = some (.int .i64 a) := by simp
  have hc1 : (w.alloc (.cells #[.int .i64 a, .int .i64 l] 23)).cell? ⟨w.heap.size, 1, none⟩ = some (.int .i64 l) := by simp
  by_cases h : checkE a l = 0
  · have HE := Lib.hid h
    obtain ⟨_, _, g3, g4, _⟩ := checkE_ok h
    rcases hx : inB x 0 65535 with _ | _
    · clear h
      go_enter Tryd.func11, Tryd.ntmps11
      go_wp2_with (first | (go_at_call 9; refine (check_ok _ _ _ HE.out).mono ?_; rintro e w1 ⟨rfl, hb⟩) | (go_at_call 31; refine (within_any _ _ _ _).mono ?_; rintro e w' ⟨rfl, rfl⟩))
      go_ret2
      exact ⟨(fun _ h => by rw [hx] at h; exact absurd h (by decide)), (fun _ _ => rfl), (fun h => absurd HE.out h), below_call hB hb⟩
    · obtain ⟨h0, h1⟩ := inB_true.1 hx
      clear h
      go_enter Tryd.func11, Tryd.ntmps11
      go_wp2_with (go_at_call 9; refine (check_ok _ _ _ HE.out).mono ?_; rintro e w1 ⟨rfl, hb⟩)
      have hd0 := (hb.cell (p := ⟨w.heap.size, 0, none⟩) (by simp)).trans hc0
      have hd1 := (hb.cell (p := ⟨w.heap.size, 1, none⟩) (by simp)).trans hc1
      go_wp2_with (first | (go_at_call 31; refine (within_any _ _ _ _).mono ?_; rintro e w' ⟨rfl, rfl⟩) | (go_at_call 33; refine (pwithin_any _ _ _ _ _ h0 h1 g3 g4).mono ?_; rintro e w2 ⟨rfl, hb2⟩))
      go_ret2
      exact ⟨(fun _ _ => rfl), (fun _ h => by rw [hx] at h; exact absurd h (by decide)), (fun h => absurd HE.out h), below_call (below_call hB hb) hb2⟩
  · have HE := Lib.hid h
    clear h
    go_enter Tryd.func11, Tryd.ntmps11
    go_wp2_with (first | (go_at_call 9; refine (check_err _ _ _ _ rfl HE.out).mono ?_; rintro e w1 ⟨rfl, hb⟩) | (go_at_call 31; refine (within_any _ _ _ _).mono ?_; rintro e w' ⟨rfl, rfl⟩))
    go_ret2
    exact ⟨(fun h => absurd h HE.out), (fun h => absurd h HE.out), (fun _ => rfl), below_call hB hb⟩
end Go.Proofs.YtfgpppgehbpblaaDoor
