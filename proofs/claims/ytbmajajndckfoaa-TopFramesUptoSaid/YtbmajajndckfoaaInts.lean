/- The contract of ferryhythesame.Ints: it tells whether two slices of ints read alike; it changes nothing. -/
import Derived.Test.YtbmajajndckfoaaCore
import Derived.Deep.QuietTactic
import Derived.BigQuiet
namespace Go.Proofs.Ytbmajajndckfoaa
open Go.RowKit

theorem ints_any (A B : Option Addr) (n c m d : Nat) (xs ys : List Int) (w : World) (hx : Rds w 1 A n (ic xs)) (hy : Rds w 1 B m (ic ys)) (hn : n ≤ maxLen) (hm : m ≤ maxLen) :
    Calls Try.prog 14 #[.slice A n c, .slice B m d] w fun e w' => e = .returned (.bool (decide (xs = ys))) ∧ ∃ k, w' = w.drewN k := by
  have HX := Lib.hid hx.len_int
  have HY := Lib.hid hy.len_int
  unfold maxLen at hn hm
  by_cases hnm : n = m
  · subst hnm
    go_enter Try.func14, Try.ntmps14
    go_wp2_with fail
    go_loopw [5] (fun i wr => ∃ k q : Nat, k ≤ n ∧ i = .int .i64 k ∧ wr = w.drewN q ∧ xs.take k = ys.take k) (fun i _ => n - (intOf i).toNat)
    case atStart => exact ⟨0, 0, Nat.zero_le _, rfl, rfl, rfl⟩
    case round =>
      obtain ⟨k, q, hk, rfl, rfl, hall⟩ := hrel
      have HA := Lib.hid hall
      clear hall
      by_cases hlt : k < n
      · obtain ⟨b, off, hk', rfl, hcell⟩ := hx.int hlt
        obtain ⟨b2, off2, hk2, rfl, hcell2⟩ := hy.int hlt
        by_cases he : xs[k] = ys[k]
        · have he1 : (xs[k] != ys[k]) = false := by simpa using he
          have HE := Lib.hid he
          clear he
          go_wp2
          go_quiet (fail)
          go_wp2
          go_roundw
          case rel =>
            refine ⟨k + 1, _, by omega, by go_num, rfl, ?_⟩
            rw [List.take_succ_eq_append_getElem hk', List.take_succ_eq_append_getElem hk2, HA.out, HE.out]
          case measure => simp [intOf]; omega
        · have he1 : (xs[k] != ys[k]) = true := by simpa using he
          have HE := Lib.hid he
          clear he
          go_wp2
          go_quiet (fail)
          go_wp2
          go_ret
          exact ⟨ret_eq (bool_eq (by symm; rw [decide_eq_false_iff_not]; intro e; exact HE.out (by simp only [e]))), q + _, World.drewN_drewN _ _ _⟩
      · go_wp2
        go_ret
        refine ⟨ret_eq (bool_eq ?_), q, rfl⟩
        symm
        rw [decide_eq_true_iff]
        have h1 := HA.out
        have hx' := HX.out
        have hy' := HY.out
        rwa [List.take_of_length_le (by omega), List.take_of_length_le (by omega)] at h1
  · have hne : ((n : Int) != (m : Int)) = true := by rw [bne_iff_ne]; omega
    go_enter Try.func14, Try.ntmps14
    go_wp2
    go_ret
    refine ⟨ret_eq (bool_eq ?_), 0, rfl⟩
    symm
    rw [decide_eq_false_iff_not]
    rintro rfl
    exact hnm (HX.out.trans HY.out.symm)
end Go.Proofs.Ytbmajajndckfoaa
