/- Contracts of ones' exported functions and of the laws' helpers: Behind, Set, Sum, in. -/
import Derived.Test.YtalehbhimnhnjaaDoorOnesPlain
import Derived.Test.YtalehbhimnhnjaaDoorBytes
namespace Go.Proofs.YtalehbhimnhnjaaDoor
open Go.RowKit

theorem sum_ok (A : Option Addr) (n c : Nat) (xs : List Int) (w : World) (hr : Rds w 1 A n (ic xs)) (hnc : n ≤ c) (hc : c ≤ maxLen) (h : bytesE xs 600 = 0) :
    Calls Tryd.prog 16 #[.slice A n c] w fun e w' => e = .returned (.tuple #[.int .i64 (65535 - totalP xs), .nilIface]) ∧ Below w.heap.size w w' := by
  have hn : n ≤ maxLen := Nat.le_trans hnc hc
  have HE := Lib.hid h
  have HBy := Lib.hid (bytes_of_ok h).1
  have hle : 0 ≤ totalP xs ∧ totalP xs ≤ 65535 := totK_le (byte_range HBy.out) _
  generalize hT : totalP xs = T at hle ⊢
  have hw : IntKind.i64.wrap (65535 - T) = 65535 - T := IntWalk.i64_in _ (by omega)
  clear h
  go_enter Tryd.func16, Tryd.ntmps16
  go_wp2_with (first | (go_at_call 38; refine (bytes_ok _ _ _ _ _ _ hr hn HE.out).mono ?_; rintro e w' ⟨rfl, rfl⟩) | (go_at_call 39; refine (total_any _ _ _ _ _ hr hnc hc (byte_range HBy.out)).mono ?_; rintro e w1 ⟨rfl, hB⟩); rw [hT])
  go_ret2
  exact ⟨rfl, hB⟩
theorem sum_err (A : Option Addr) (n c : Nat) (xs : List Int) (k : Int) (w : World) (hr : Rds w 1 A n (ic xs)) (hn : n ≤ maxLen) (h : bytesE xs 600 = k) (hk : k ≠ 0) :
    Calls Tryd.prog 16 #[.slice A n c] w fun e w' => e = .returned (.tuple #[.int .i64 0, .iface 47 (.int .i64 k)]) ∧ w = w' := by
  have HE := Lib.hid h
  clear h
  go_enter Tryd.func16, Tryd.ntmps16
  go_wp2_with (go_at_call 38; refine (bytes_err _ _ _ _ _ _ _ hr hn HE.out hk).mono ?_; rintro e w' ⟨rfl, rfl⟩)
  go_ret2
  exact ⟨rfl, rfl⟩
theorem good_ok (A : Option Addr) (n c : Nat) (xs : List Int) (w : World) (hr : Rds w 1 A n (ic xs)) (hnc : n ≤ c) (hc : c ≤ maxLen) (h : bytesE xs 600 = 0) :
    Calls Tryd.prog 22 #[.slice A n c] w fun e w' => e = .returned (.tuple #[.bool (totalP xs == 65535), .nilIface]) ∧ Below w.heap.size w w' := by
  have hn : n ≤ maxLen := Nat.le_trans hnc hc
  have HE := Lib.hid h
  have HBy := Lib.hid (bytes_of_ok h).1
  clear h
  go_enter Tryd.func22, Tryd.ntmps22
  go_wp2_with (first | (go_at_call 38; refine (bytes_ok _ _ _ _ _ _ hr hn HE.out).mono ?_; rintro e w' ⟨rfl, rfl⟩) | (go_at_call 39; refine (total_any _ _ _ _ _ hr hnc hc (byte_range HBy.out)).mono ?_; rintro e w1 ⟨rfl, hB⟩))
  go_ret2
  exact ⟨rfl, hB⟩
theorem good_err (A : Option Addr) (n c : Nat) (xs : List Int) (k : Int) (w : World) (hr : Rds w 1 A n (ic xs)) (hn : n ≤ maxLen) (h : bytesE xs 600 = k) (hk : k ≠ 0) :
    Calls Tryd.prog 22 #[.slice A n c] w fun e w' => e = .returned (.tuple #[.bool false, .iface 47 (.int .i64 k)]) ∧ w = w' := by
  have HE := Lib.hid h
  clear h
  go_enter Tryd.func22, Tryd.ntmps22
  go_wp2_with (go_at_call 38; refine (bytes_err _ _ _ _ _ _ _ hr hn HE.out hk).mono ?_; rintro e w' ⟨rfl, rfl⟩)
  go_ret2
  exact ⟨rfl, rfl⟩

theorem rds_three (w : World) (a b c : Int) (t : TypeId) : Rds (w.alloc (.cells #[.int .i64 a, .int .i64 b, .int .i64 c] t)) 1 (some ⟨w.heap.size, 0, none⟩) 3 (ic [a, b, c]) := rds_lit w [a, b, c] t

def mendP (a b c : Int) : Int := 65535 - addW (addW (65535 - a) (65535 - b)) c
theorem mend_ok (a b c : Int) (w : World) (ha : 0 ≤ a ∧ a ≤ 65535) (hb : 0 ≤ b ∧ b ≤ 65535) (hc : 0 ≤ c ∧ c ≤ 65535) :
    Calls Tryd.prog 28 #[.int .i64 a, .int .i64 b, .int .i64 c] w fun e w' => e = .returned (.tuple #[.int .i64 (mendP a b c), .nilIface]) ∧ Below w.heap.size w w' := by
  have hall : allB [a, b, c] 0 65535 = true := by simp [allB, inB]; omega
  have w1 : IntKind.i64.wrap (65535 - a) = 65535 - a := IntWalk.i64_in _ (by omega)
  have w2 : IntKind.i64.wrap (65535 - b) = 65535 - b := IntWalk.i64_in _ (by omega)
  have l1 := addW_le (a := 65535 - a) (b := 65535 - b) (by omega) (by omega) (by omega) (by omega)
  have l2 := addW_le (b := c) l1.1 l1.2 hc.1 hc.2
  obtain ⟨T1, hT1⟩ : ∃ T, addW (65535 - a) (65535 - b) = T := ⟨_, rfl⟩
  obtain ⟨T2, hT2⟩ : ∃ T, addW T1 c = T := ⟨_, rfl⟩
  rw [hT1] at l1 l2
  rw [hT2] at l2
  have w3 : IntKind.i64.wrap (65535 - T2) = 65535 - T2 := IntWalk.i64_in _ (by omega)
  have hm : mendP a b c = 65535 - T2 := by rw [mendP, hT1, hT2]
  rw [hm]
  have HT1 := Lib.hid hT1
  have HT2 := Lib.hid hT2
  have HA := Lib.hid hall
  clear hT1 hT2 hall hm
  have hB := (Below.refl w.heap.size w).alloc (Nat.le_refl _) (.cells #[.int .i64 a, .int .i64 b, .int .i64 c] 3)
  go_enter Tryd.func28, Tryd.ntmps28
  go_wp2_with (first
    | (go_at_call 34; refine (all_any _ _ _ _ _ _ _ (rds_three w a b c _) (by decide)).mono ?_; rintro e w' ⟨rfl, rfl⟩; rw [HA.out])
    | (go_at_call 43; refine (add_any _ _ _ (by omega) (by omega) (by omega) (by omega)).mono ?_; rintro e w' ⟨rfl, rfl⟩; first | rw [HT1.out] | rw [HT2.out]))
  go_ret2
  exact ⟨rfl, hB⟩

end Go.Proofs.YtalehbhimnhnjaaDoor
