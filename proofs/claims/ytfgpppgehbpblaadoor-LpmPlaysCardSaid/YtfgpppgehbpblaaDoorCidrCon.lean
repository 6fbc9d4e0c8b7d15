/- Contracts of package cidr's helpers: size, Check, within. -/
import Derived.Test.YtfgpppgehbpblaaDoorWithin
import Derived.Test.YtfgpppgehbpblaaDoorGrown
import Derived.Deep.RegionWith
import Derived.Deep.DrawnRows
import Derived.Deep.RegionHeld3
import Derived.Deep.QuietTactic
import Derived.BigQuiet
namespace Go.Proofs.YtfgpppgehbpblaaDoor
open Go.RowKit
attribute [local go_sem ↓] Go.wp_at_zero Go.wp_at_succ

def szI (l : Int) : Int := ((2 ^ (16 - l.toNat) : Nat) : Int)
theorem szI_pos (l : Int) : 1 ≤ szI l := by
  unfold szI
  have : 0 < 2 ^ (16 - l.toNat) := Nat.pow_pos (by omega)
  omega
theorem szI_le (l : Int) : szI l ≤ 65536 := by
  unfold szI
  have : 2 ^ (16 - l.toNat) ≤ 2 ^ 16 := Nat.pow_le_pow_right (by omega) (by omega)
  omega

set_option maxHeartbeats 2000000 in
theorem size_any (a l : Int) (w : World) (h0 : 0 ≤ l) (h1 : l ≤ 16) :
    Calls Tryd.prog 32 #[.agg #[.int .i64 a, .int .i64 l]] w fun e w' => e = .returned (.int .i64 (szI l)) ∧ w.alloc (.cells #[.int .i64 a, .int .i64 l] 23) = w' := by
  have hl : l = 0 ∨ l = 1 ∨ l = 2 ∨ l = 3 ∨ l = 4 ∨ l = 5 ∨ l = 6 ∨ l = 7 ∨ l = 8 ∨ l = 9 ∨ l = 10 ∨ l = 11 ∨ l = 12 ∨ l = 13 ∨ l = 14 ∨ l = 15 ∨ l = 16 := by omega
  clear h0 h1
  rcases hl with rfl | rfl | rfl | rfl | rfl | rfl | rfl | rfl | rfl | rfl | rfl | rfl | rfl | rfl | rfl | rfl | rfl
  all_goals
    go_enter Tryd.func32, Tryd.ntmps32
    go_wp2
    go_ret
    exact ⟨rfl, rfl⟩

def checkE (a l : Int) : Int := if inB a 0 65535 && inB l 0 16 then (if a % szI l = 0 then 0 else 3) else 1
def CheckPost (a l : Int) (w : World) (e : Ending) (w' : World) : Prop :=
  (checkE a l = 0 → e = .returned .nilIface) ∧ (checkE a l ≠ 0 → e = .returned (.iface 66 (.int .i64 (checkE a l)))) ∧ Grew w w'
set_option maxHeartbeats 1000000 in
theorem check_any (a l : Int) (w : World) :
    Calls Tryd.prog 9 #[.agg #[.int .i64 a, .int .i64 l]] w (CheckPost a l w) := by
  rcases i1 : inB a 0 65535 with _ | _
  · have HE := Lib.hid (show checkE a l = 1 from by unfold checkE; rw [i1]; rfl)
    go_enter Tryd.func9, Tryd.ntmps9
    go_wp2_with (go_at_call 31; refine (within_any _ _ _ _).mono ?_; rintro e w' ⟨rfl, rfl⟩)
    go_ret
    exact ⟨(fun h => by rw [HE.out] at h; cases h), (fun _ => by rw [HE.out]; rfl), (Grew.refl w).alloc _⟩
  rcases i2 : inB l 0 16 with _ | _
  · have HE := Lib.hid (show checkE a l = 1 from by unfold checkE; rw [i2, Bool.and_false]; rfl)
    go_enter Tryd.func9, Tryd.ntmps9
    go_wp2_with (go_at_call 31; refine (within_any _ _ _ _).mono ?_; rintro e w' ⟨rfl, rfl⟩)
    go_ret
    exact ⟨(fun h => by rw [HE.out] at h; cases h), (fun _ => by rw [HE.out]; rfl), (Grew.refl w).alloc _⟩
  have HC := Lib.hid (show checkE a l = if a % szI l = 0 then 0 else 3 from by unfold checkE; rw [i1, i2]; rfl)
  obtain ⟨h1, h2⟩ := inB_true.1 i1
  obtain ⟨h3, h4⟩ := inB_true.1 i2
  have HS := Lib.hid (fun w => size_any a l w h3 h4)
  have hs1 := szI_pos l
  have hs2 := szI_le l
  generalize szI l = s at *
  have hs0 : (s == 0) = false := by rw [beq_eq_false_iff_ne]; omega
  have htm : a.tmod s = a % s := Int.tmod_eq_emod_of_nonneg h1
  by_cases hm : a % s = 0
  · have hm' : (a % s != 0) = false := by rw [bne_eq_false_iff_eq]; exact hm
    have HM := Lib.hid hm
    clear hm
    go_enter Tryd.func9, Tryd.ntmps9
    go_wp2_with (go_at_call 31; refine (within_any _ _ _ _).mono ?_; rintro e w' ⟨rfl, rfl⟩)
    go_region_with ((go_at_call 32; refine (HS.out _).mono ?_; rintro e w' ⟨rfl, rfl⟩))
    all_goals
      go_wp2
      go_ret
      exact ⟨(fun _ => rfl), (fun h => absurd (by rw [HC.out, if_pos HM.out]) h), (((Grew.refl w).alloc _).alloc _).drewN 1⟩
  · have hm' : (a % s != 0) = true := by rw [bne_iff_ne]; exact hm
    have HM := Lib.hid (show checkE a l = 3 from by rw [HC.out, if_neg hm])
    clear hm
    go_enter Tryd.func9, Tryd.ntmps9
    go_wp2_with (go_at_call 31; refine (within_any _ _ _ _).mono ?_; rintro e w' ⟨rfl, rfl⟩)
    go_region_with ((go_at_call 32; refine (HS.out _).mono ?_; rintro e w' ⟨rfl, rfl⟩))
    all_goals
      go_wp2
      go_ret
      exact ⟨(fun h => by rw [HM.out] at h; cases h), (fun _ => by rw [HM.out]; rfl), (((Grew.refl w).alloc _).alloc _).drewN 1⟩
theorem check_okW (a l : Int) (w : World) (h : checkE a l = 0) :
    Calls Tryd.prog 9 #[.agg #[.int .i64 a, .int .i64 l]] w fun e w' => e = .returned .nilIface ∧ Grew w w' :=
  (check_any a l w).mono fun _ _ ⟨h1, _, h3⟩ => ⟨h1 h, h3⟩
theorem check_errW (a l k : Int) (w : World) (h : checkE a l = k) (hk : k ≠ 0) :
    Calls Tryd.prog 9 #[.agg #[.int .i64 a, .int .i64 l]] w fun e w' => e = .returned (.iface 66 (.int .i64 k)) ∧ Grew w w' := by
  subst h
  exact (check_any a l w).mono fun _ _ ⟨_, h2, h3⟩ => ⟨h2 hk, h3⟩
theorem check_ok (a l : Int) (w : World) (h : checkE a l = 0) :
    Calls Tryd.prog 9 #[.agg #[.int .i64 a, .int .i64 l]] w fun e w' => e = .returned .nilIface ∧ Below w.heap.size w w' :=
  (check_okW a l w h).mono fun _ _ ⟨h1, h3⟩ => ⟨h1, h3.below⟩
theorem check_err (a l k : Int) (w : World) (h : checkE a l = k) (hk : k ≠ 0) :
    Calls Tryd.prog 9 #[.agg #[.int .i64 a, .int .i64 l]] w fun e w' => e = .returned (.iface 66 (.int .i64 k)) ∧ Below w.heap.size w w' :=
  (check_errW a l k w h hk).mono fun _ _ ⟨h1, h3⟩ => ⟨h1, h3.below⟩
theorem checkE_ok {a l : Int} (h : checkE a l = 0) : 0 ≤ a ∧ a ≤ 65535 ∧ 0 ≤ l ∧ l ≤ 16 ∧ a % szI l = 0 := by
  unfold checkE at h
  split at h
  · rename_i hi
    rw [Bool.and_eq_true] at hi
    have h1 := inB_true.1 hi.1
    have h2 := inB_true.1 hi.2
    split at h
    · exact ⟨h1.1, h1.2, h2.1, h2.2, by assumption⟩
    · cases h
  · cases h

end Go.Proofs.YtfgpppgehbpblaaDoor
