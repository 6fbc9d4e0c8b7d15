/- The contracts of package frag: one and Cut. -/
import Derived.Test.YtbmajajndckfoaaDoorFragPlain
import Derived.Test.YtbmajajndckfoaaDoorGrown
import Derived.Test.YtbmajajndckfoaaDoorWithin
import Derived.Outline
import Derived.Laws.DeepStrings4
import Derived.Deep.DrawnRows
import Derived.Deep.RegionLaw
namespace Go.Proofs.YtbmajajndckfoaaDoor
open Go.RowKit
attribute [local go_sem ↓] Go.wp_at_zero Go.wp_at_succ
theorem one_ok (a : Int) (m : Bool) (s : ByteArray) (w : World) (h0 : 0 ≤ a) (h : a + (s.size : Int) ≤ 200) :
    Calls Tryd.prog 30 #[.agg #[.int .i64 a, .bool m, .string s]] w fun e w' => e = .returned .nilIface ∧ Grew w w' := by
  have hin : inB a 0 200 = true := inB_true.2 ⟨h0, by omega⟩
  have hw200 : IntKind.i64.wrap (200 - a) = 200 - a := IntWalk.i64_in _ (by constructor <;> omega)
  go_enter Tryd.func30, Tryd.ntmps30
  go_wp2_with ((go_at_call 29; (with_reducible refine (within_any _ _ _ _).mono ?_); rintro e w' ⟨rfl, rfl⟩); rw [hin])
  go_ret
  exact ⟨rfl, (Grew.refl w).alloc _⟩
/-- Why Cut refuses. -/
def CutBad (t : ByteArray) (size k : Int) : Prop := (k = 4 ∧ 200 < t.size) ∨ (k = 1 ∧ t.size ≤ 200 ∧ inB size 1 200 = false) ∨ (k = 4 ∧ ∃ m sz : Nat, size = (sz : Int) ∧ 1 ≤ sz ∧ sz ≤ 200 ∧ t.size ≤ 200 ∧ 40 < m ∧ Cuts t sz m)
/-- What Cut hands back. -/
def CutPost (t : ByteArray) (size : Int) (w : World) (e : Ending) (w' : World) : Prop :=
  (∃ k : Int, CutBad t size k ∧ e = .returned (.tuple #[.slice none 0 0, .iface 60 (.int .i64 k)]) ∧ Below w.heap.size w w') ∨
  ∃ (m sz : Nat) (A : Option Addr) (c : Nat), e = .returned (.tuple #[.slice A m c, .nilIface]) ∧ m ≤ 40 ∧ t.size ≤ 200 ∧ size = (sz : Int) ∧ 1 ≤ sz ∧ sz ≤ 200 ∧ Cuts t sz m ∧ OwnQ w' w.heap.size (.slice A m c) (partsL t sz m) ∧ Below w.heap.size w w'
set_option maxRecDepth 100000 in
set_option maxHeartbeats 4000000 in
theorem cut_any (t : ByteArray) (size : Int) (w : World) (hm : t.size ≤ maxLen) :
    Calls Tryd.prog 7 #[.string t, .int .i64 size] w (CutPost t size w) := by
  unfold maxLen at hm
  by_cases ht : 200 < t.size
  · go_enter Tryd.func7, Tryd.ntmps7
    go_wp2
    go_ret2
    exact .inl ⟨4, .inl ⟨rfl, ht⟩, rfl, Below.refl _ _⟩
  rcases hin : inB size 1 200 with _ | _
  · go_enter Tryd.func7, Tryd.ntmps7
    go_wp2_with ((go_at_call 29; (with_reducible refine (within_any _ _ _ _).mono ?_); rintro e w' ⟨rfl, rfl⟩); rw [hin])
    go_ret2
    exact .inl ⟨1, .inr (.inl ⟨rfl, by omega, hin⟩), rfl, Below.refl _ _⟩
  obtain ⟨g1, g2⟩ := inB_true.1 hin
  obtain ⟨sz, rfl⟩ : ∃ sz : Nat, size = (sz : Int) := ⟨size.toNat, by omega⟩
  have s1 : 1 ≤ sz := by omega
  have s2 : sz ≤ 200 := by omega
  have ht' : t.size ≤ 200 := by omega
  clear g1 g2 hm
  go_enter Tryd.func7, Tryd.ntmps7
  go_wp2_with ((go_at_call 29; (with_reducible refine (within_any _ _ _ _).mono ?_); rintro e w' ⟨rfl, rfl⟩); rw [hin])
  go_loopw [6, 7] (fun so sa wr => ∃ (k at' : Nat) (A : Option Addr) (c : Nat), at' = k * sz ∧ k ≤ 201 ∧ so = .slice A k c ∧ sa = .int .i64 (at' : Int) ∧ (k ≤ 1 ∨ (k - 1) * sz < t.size) ∧ at' ≤ t.size + sz ∧ OwnQ wr w.heap.size (.slice A k c) (partsL t sz k) ∧ Below w.heap.size w wr) (fun _ sa _ => 401 - (intOf sa).toNat)
  case atStart => exact ⟨0, 0, none, 0, by simp, by omega, rfl, rfl, .inl (by omega), by omega, OwnQ.nil_ _ _, Below.refl _ _⟩
  case round =>
    obtain ⟨k, at', A, c, hat, hk, rfl, rfl, hbef, hle, hO, hB⟩ := hrel
    have HA := Lib.hid hat
    have HBF := Lib.hid hbef
    have HLT : at' < t.size ∨ at' = 0 → Hid (k ≤ t.size) := fun h => Lib.hid (by
      rcases Nat.eq_zero_or_pos k with rfl | hk0
      · exact Nat.zero_le _
      · rcases h with h | h
        · have : k * 1 ≤ k * sz := Nat.mul_le_mul_left _ s1
          omega
        · have : k * 1 ≤ k * sz := Nat.mul_le_mul_left _ s1
          omega)
    clear hat hbef
    by_cases hgo : at' = 0 ∨ at' < t.size
    · have hk2 := (HLT hgo.symm).out
      have HS : Hid (partsL t sz (k + 1) = partsL t sz k ++ [partAt t sz k]) := Lib.hid (partsL_succ t sz k)
      have HN : Hid ((k + 1) * sz = at' + sz) := Lib.hid (by rw [Nat.succ_mul, ← HA.out])
      have HBN : at' < t.size ∨ at' = 0 → Hid (k + 1 ≤ 1 ∨ (k + 1 - 1) * sz < t.size) := fun h => Lib.hid (by
        rw [Nat.add_sub_cancel, ← HA.out]
        rcases Nat.eq_zero_or_pos k with rfl | hk0
        · exact .inl (Nat.le_refl _)
        · rcases h with h | h
          · exact .inr h
          · have h1 := HA.out
            have : 1 * 1 ≤ k * sz := Nat.mul_le_mul hk0 s1
            omega)
      have HB2 := HBN hgo.symm
      clear HLT HBN
      by_cases hmo : at' + sz < t.size
      · have HP : Hid (partAt t sz k = ((at' : Int), true, t.extract at' (at' + sz))) := Lib.hid (by
          unfold partAt
          rw [← HA.out, Nat.min_eq_left (by omega), decide_eq_true hmo])
        rcases Nat.eq_zero_or_pos at' with h0 | h0
        · subst h0
          clear hgo
          rw [Nat.zero_add] at hmo
          go_wp2_with (at_builtin; refine wp_append_part wr rfl (.tmp 34) (.tmp 45) rfl w w.heap.size (.slice A k c) (partsL t sz k) (by rfl) hO (0, true, t.extract 0 sz) rfl (by rw [partsL_len]; omega) hB.size hB ?_; intro A1 c1 w1 ho1 hc1 hc2 hB1 _; rw [partsL_len] at ho1 hc1; rw [partsL_len])
          go_roundw
          case rel =>
            refine ⟨k + 1, _, A1, c1, HN.out.symm, by omega, rfl, by go_num, HB2.out, by omega, ?_, hB1⟩
            rw [HS.out, HP.out]
            simpa using ho1
          case measure => simp [intOf]; omega
        · have hlt : at' < t.size := by omega
          have hdt : decide ((at' : Int) + (sz : Int) < (t.size : Int)) = true := by rw [decide_eq_true_iff]; omega
          clear hgo
          go_wp2_with (at_builtin; refine wp_append_part wr rfl (.tmp 34) (.tmp 45) rfl w w.heap.size (.slice A k c) (partsL t sz k) (by rfl) hO ((at' : Int), true, t.extract at' (at' + sz)) rfl (by rw [partsL_len]; omega) hB.size hB ?_; intro A1 c1 w1 ho1 hc1 hc2 hB1 _; rw [partsL_len] at ho1 hc1; rw [partsL_len])
          go_roundw
          case rel =>
            refine ⟨k + 1, _, A1, c1, HN.out.symm, by omega, rfl, by go_num, HB2.out, by omega, ?_, hB1⟩
            rw [HS.out, HP.out]
            exact ho1
          case measure => simp [intOf]; omega
      · have HP : Hid (partAt t sz k = ((at' : Int), false, t.extract at' t.size)) := Lib.hid (by
          unfold partAt
          rw [← HA.out, Nat.min_eq_right (by omega), decide_eq_false (Nat.lt_irrefl _)])
        rcases Nat.eq_zero_or_pos at' with h0 | h0
        · subst h0
          clear hgo
          rw [Nat.zero_add] at hmo
          have hmi : (if t.size < sz then (t.size : Int) else (sz : Int)) = t.size := by split <;> omega
          go_wp2_with (at_builtin; refine wp_append_part wr rfl (.tmp 34) (.tmp 45) rfl w w.heap.size (.slice A k c) (partsL t sz k) (by rfl) hO (0, false, t) rfl (by rw [partsL_len]; omega) hB.size hB ?_; intro A1 c1 w1 ho1 hc1 hc2 hB1 _; rw [partsL_len] at ho1 hc1; rw [partsL_len])
          go_roundw
          case rel =>
            refine ⟨k + 1, _, A1, c1, HN.out.symm, by omega, rfl, by go_num, HB2.out, by omega, ?_, hB1⟩
            rw [HS.out, HP.out]
            simpa using ho1
          case measure => simp [intOf]; omega
        · have hlt : at' < t.size := by omega
          have hmi : (if (t.size : Int) < (at' : Int) + (sz : Int) then (t.size : Int) else (at' : Int) + (sz : Int)) = t.size := by split <;> omega
          clear hgo
          go_wp2_with (at_builtin; refine wp_append_part wr rfl (.tmp 34) (.tmp 45) rfl w w.heap.size (.slice A k c) (partsL t sz k) (by rfl) hO ((at' : Int), false, t.extract at' t.size) rfl (by rw [partsL_len]; omega) hB.size hB ?_; intro A1 c1 w1 ho1 hc1 hc2 hB1 _; rw [partsL_len] at ho1 hc1; rw [partsL_len])
          go_roundw
          case rel =>
            refine ⟨k + 1, _, A1, c1, HN.out.symm, by omega, rfl, by go_num, HB2.out, by omega, ?_, hB1⟩
            rw [HS.out, HP.out]
            exact ho1
          case measure => simp [intOf]; omega
    · have hCU : Hid (Cuts t sz k) := Lib.hid (by
        have h1 := HA.out
        refine ⟨?_, ?_, by omega⟩
        · rcases Nat.eq_zero_or_pos k with rfl | h
          · omega
          · exact h
        · rcases HBF.out with h | h
          · rcases Nat.eq_zero_or_pos k with rfl | h2
            · omega
            · exact .inl (by omega)
          · exact .inr h)
      have hna : ¬ at' = 0 := fun h => hgo (.inl h)
      have hnl : ¬ at' < t.size := fun h => hgo (.inr h)
      have ha1 : 1 ≤ at' := by omega
      clear hgo HLT
      by_cases h40 : 40 < k
      · go_wp2
        go_ret2
        exact .inl ⟨4, .inr (.inr ⟨rfl, k, sz, rfl, s1, s2, ht', h40, hCU.out⟩), rfl, hB⟩
      · go_wp2
        go_ret2
        exact .inr ⟨k, sz, A, c, rfl, by omega, ht', rfl, s1, s2, hCU.out, hO, hB⟩
end Go.Proofs.YtbmajajndckfoaaDoor
