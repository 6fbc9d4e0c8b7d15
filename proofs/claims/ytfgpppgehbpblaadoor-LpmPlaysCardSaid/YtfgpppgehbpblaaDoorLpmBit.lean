/- The contract of lpm.bit. -/
import Derived.Test.YtfgpppgehbpblaaDoorLpmWorld
import Derived.Laws.BitsAllLaws
import Derived.Laws.BitsLemmas
namespace Go.Proofs.YtfgpppgehbpblaaDoor
open Go.RowKit Lp
theorem and_one (a : Nat) (ha : a < 9223372036854775808) : bits .and .i64 (a : Int) 1 = ((a % 2 : Nat) : Int) := by
  have h1 : (BitVec.ofInt 64 (a : Int)).toNat = a := by
    rw [BitVec.ofInt_natCast, BitVec.toNat_ofNat]; exact Nat.mod_eq_of_lt (by omega)
  show IntKind.i64.wrap ((BitVec.ofInt 64 (a : Int) &&& BitVec.ofInt 64 1).toNat : Int) = _
  rw [BitVec.toNat_and, h1, show (BitVec.ofInt 64 1).toNat = 1 from by decide, Nat.and_one_is_mod, IntKind.wrap_i64]
  omega
theorem and_div (a m : Nat) (ha : a < 65536) : bits .and .i64 ((a : Int) / (m : Int)) 1 = ((a / m % 2 : Nat) : Int) := by
  have h : a / m ≤ a := Nat.div_le_self _ _
  rw [← Int.natCast_ediv, and_one _ (by omega)]
theorem ret_bit {a m : Nat} {z : Int} (ha : a < 65536) (hz : z = (a : Int) / (m : Int)) : Ending.returned (.int .i64 (bits .and .i64 z 1)) = .returned (.int .i64 ((a / m % 2 : Nat) : Int)) := by rw [hz, and_div a m ha]
set_option maxHeartbeats 2000000 in
theorem bit_any (a i : Nat) (w : World) (ha : a < 65536) (hi : i < 16) :
    Calls Tryd.prog 43 #[.int .i64 a, .int .i64 i] w fun e w' => e = .returned (.int .i64 ((a / 2 ^ (15 - i) % 2 : Nat) : Int)) ∧ w = w' := by
  have hl : i = 0 ∨ i = 1 ∨ i = 2 ∨ i = 3 ∨ i = 4 ∨ i = 5 ∨ i = 6 ∨ i = 7 ∨ i = 8 ∨ i = 9 ∨ i = 10 ∨ i = 11 ∨ i = 12 ∨ i = 13 ∨ i = 14 ∨ i = 15 := by omega
  clear hi
  rcases hl with rfl | rfl | rfl | rfl | rfl | rfl | rfl | rfl | rfl | rfl | rfl | rfl | rfl | rfl | rfl | rfl
  all_goals
    go_enter Tryd.func43, Tryd.ntmps43
    go_wp2
    go_ret
    exact ⟨ret_bit ha (by first | rfl | (simp; done)), rfl⟩
end Go.Proofs.YtfgpppgehbpblaaDoor
