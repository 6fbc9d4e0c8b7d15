/- The document's In. -/
import Derived.Test.YtfgpppgehbpblaaDoorLawRef
namespace Go.Proofs.YtfgpppgehbpblaaDoor
open Go.RowKit
/-- Is an address in a prefix, as the document asks. -/
def inPB (a l x : Int) : Bool := decide (a ≤ x ∧ x < a + szI l)
set_option maxHeartbeats 1000000 in
theorem refInP_any (a l x : Int) (w : World) (h : checkE a l = 0) (hx : 0 ≤ x ∧ x ≤ 65535) :
    Calls Tryd.prog 12 #[.agg #[.int .i64 a, .int .i64 l], .int .i64 x] w fun e w' => e = .returned (.bool (inPB a l x)) ∧ Grew w w' := by
  obtain ⟨a0, a1, l0, l1, _⟩ := checkE_ok h
  obtain ⟨x0, x1⟩ := hx
  have HS := Lib.hid (fun w => (powerL_any l w l0 l1).mono fun e w' (h : e = .returned (.int .i64 (szI l)) ∧ w = w') => (⟨h.1, h.2.symm⟩ : e = .returned (.int .i64 (szI l)) ∧ w' = w))
  have HD : Hid (inPB a l x = decide (a ≤ x ∧ x < a + szI l)) := Lib.hid rfl
  have z1 := szI_pos l
  have z2 := szI_le l
  generalize szI l = s at *
  have hw1 : IntKind.i64.wrap (16 - l) = 16 - l := IntWalk.i64_in _ (by constructor <;> omega)
  have hw2 : IntKind.i64.wrap (a + s) = a + s := IntWalk.i64_in _ (by constructor <;> omega)
  clear h
  by_cases h1 : a ≤ x
  · by_cases h2 : x < a + s
    · have HX : Hid (inPB a l x = true) := Lib.hid (by rw [HD.out]; exact decide_eq_true ⟨h1, h2⟩)
      have hd1 : decide (x ≥ a) = true := decide_eq_true h1
      have hd2 : decide (x < a + s) = true := decide_eq_true h2
      go_enter Tryd.func12, Tryd.ntmps12
      go_wp2_with fail
      go_quiet ((go_at_call 16; exact Calls.quiet_of_same (HS.out _)))
      go_wp2
      go_ret
      exact ⟨by rw [HX.out]; rfl, ((Grew.refl w).alloc _).drewN _⟩
    · have HX : Hid (inPB a l x = false) := Lib.hid (by rw [HD.out]; exact decide_eq_false (fun h => h2 h.2))
      have hd1 : decide (x ≥ a) = true := decide_eq_true h1
      have hd2 : decide (x < a + s) = false := decide_eq_false h2
      go_enter Tryd.func12, Tryd.ntmps12
      go_wp2_with fail
      go_quiet ((go_at_call 16; exact Calls.quiet_of_same (HS.out _)))
      go_wp2
      go_ret
      exact ⟨by rw [HX.out]; rfl, ((Grew.refl w).alloc _).drewN _⟩
  · have HX : Hid (inPB a l x = false) := Lib.hid (by rw [HD.out]; exact decide_eq_false (fun h => h1 h.1))
    have hd1 : decide (x ≥ a) = false := decide_eq_false h1
    go_enter Tryd.func12, Tryd.ntmps12
    go_wp2_with fail
    go_quiet (fail)
    go_wp2
    go_ret
    exact ⟨by rw [HX.out]; rfl, ((Grew.refl w).alloc _).drewN _⟩
end Go.Proofs.YtfgpppgehbpblaaDoor
