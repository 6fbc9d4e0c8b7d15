/- The contracts of lpm.New, at, Find. -/
import Derived.Test.YtfgpppgehbpblaaDoorLpmBit
import Derived.Test.YtfgpppgehbpblaaDoorCidrCon
import Derived.Outline
namespace Go.Proofs.YtfgpppgehbpblaaDoor
open Go.RowKit Lp
theorem lpmNew_any (w : World) :
    Calls Tryd.prog 25 #[] w fun e w' => e = .returned (.pointer (some ⟨w.heap.size + 1, 0, none⟩)) ∧ Below w.heap.size w w' ∧ w'.heap.size = w.heap.size + 2 ∧
      TabF w' (fun i => i = w.heap.size ∨ i = w.heap.size + 1) (w.heap.size + 1) w.heap.size (fun k v => if k = 0 ∧ v = 0 then some w.heap.size else none) (fun _ _ => -1) 0 := by
  go_enter Tryd.func25, Tryd.ntmps25
  go_wp2
  go_ret
  refine ⟨rfl, ((Below.refl _ _).alloc (Nat.le_refl _) _).alloc (by simp) _, by simp, ?_⟩
  have e1 : ((w.alloc (.cells #[.pointer none, .pointer none, .int .i64 (-1)] 81)).alloc (.cells #[.pointer (some ⟨w.heap.size, 0, none⟩), .int .i64 0] 83)).heap[w.heap.size]? = some (.cells #[.pointer none, .pointer none, .int .i64 (-1)] 81) := by
    rw [Below.heap_alloc _ _ _ (by simp)]
    show (w.heap.push _)[w.heap.size]? = _
    simp
  refine { tab := ?_, root := ?_, node := ?_, deep := ?_, inj := ?_, up := ?_, no := ?_, rng := ?_, mine := ?_, tmine := .inr rfl, mrng := by decide, small := ?_ }
  · show (((w.alloc (.cells #[.pointer none, .pointer none, .int .i64 (-1)] 81)).heap.push _))[w.heap.size + 1]? = _
    have : (w.alloc (.cells #[.pointer none, .pointer none, .int .i64 (-1)] 81)).heap.size = w.heap.size + 1 := by simp
    rw [← this]
    exact Array.getElem?_push_size
  · rfl
  · intro k v b hb
    split at hb
    · rename_i h
      obtain ⟨rfl, rfl⟩ := h
      injection hb with hb
      subst hb
      exact e1
    · cases hb
  · intro k v b hb
    split at hb
    · rename_i h; omega
    · cases hb
  · intro k v k' v' b h1 h2
    split at h1
    · rename_i e; split at h2
      · rename_i e2; omega
      · cases h2
    · cases h1
  · intro k v hn
    exact absurd (if_neg (by omega)) hn
  · intro k v _; rfl
  · intro k v; decide
  · intro k v b hb
    split at hb
    · injection hb with hb
      exact ⟨.inl hb.symm, by omega⟩
    · cases hb
  · intro k v b hb
    split at hb
    · rename_i h; rw [h.1, h.2]; decide
    · cases hb
theorem Grew.trans' {a b c : World} (h : Grew a b) (k : Grew b c) : Grew a c := by
  obtain ⟨n, os, rfl⟩ := h
  obtain ⟨m, os', rfl⟩ := k
  have e : (Go.Sort.grow (a.drewN n) os).drewN m = Go.Sort.grow ((a.drewN n).drewN m) os := by simp [World.drewN, Go.Sort.grow]
  exact ⟨n + m, os ++ os', by rw [e, Go.Sort.grow_grow, World.drewN_drewN]⟩
theorem bv_cases (a k : Nat) : a / 2 ^ (15 - k) % 2 = 0 ∨ a / 2 ^ (15 - k) % 2 = 1 := by omega
section
variable {S : Nat → Prop} {tb r : Nat} {F : Nat → Nat → Option Nat} {h : Hops} {many : Int}
set_option maxHeartbeats 1000000 in
theorem at_any (a l : Nat) (w : World) (t : TabF w S tb r F h many) (ha : a < 65536) (hl : l ≤ 16) :
    Calls Tryd.prog 44 #[.pointer (some ⟨tb, 0, none⟩), .agg #[.int .i64 a, .int .i64 l]] w fun e w' => e = .returned (ptrV (F l (pn a l))) ∧ Grew w w' := by
  have hG : Grew w (w.alloc (.cells #[.int .i64 a, .int .i64 l] 23)) := (Grew.refl w).alloc _
  have t1 := t.grew hG
  have hr := t1.root_cell
  have hp1 : (w.alloc (.cells #[.int .i64 a, .int .i64 l] 23)).cell? ⟨w.heap.size, 0, none⟩ = some (.int .i64 a) := by simp
  have hp2 : (w.alloc (.cells #[.int .i64 a, .int .i64 l] 23)).cell? ⟨w.heap.size, 1, none⟩ = some (.int .i64 l) := by simp
  have HP0 := Lib.hid (pn_zero ha)
  have HR := Lib.hid t.root
  go_enter Tryd.func44, Tryd.ntmps44
  go_wp2_with fail
  generalize hW1 : w.alloc (.cells #[.int .i64 a, .int .i64 l] 23) = W1 at *
  clear hW1
  go_loopw [5, 6] (fun n i wr => ∃ k : Nat, k ≤ l ∧ i = .int .i64 k ∧ n = ptrV (F k (pn a k)) ∧ Grew W1 wr) (fun _ i _ => l - (intOf i).toNat)
  case atStart => exact ⟨0, Nat.zero_le _, rfl, by rw [HP0.out, HR.out, ptrV_some], Grew.refl _⟩
  case round =>
    obtain ⟨k, hk, rfl, rfl, hG2⟩ := hrel
    have hq1 := hG2.cell (cell_lt hp1) hp1
    have hq2 := hG2.cell (cell_lt hp2) hp2
    have t2 := t1.grew hG2
    rcases hF : F k (pn a k) with _ | b
    · have HN := Lib.hid (t.none_below a hF l hk hl)
      rw [ptrV_none]
      clear hF
      go_wp2
      all_goals
        go_ret
        exact ⟨ret_eq (by rw [HN.out]; rfl), (hG.trans' hG2)⟩
    · rw [ptrV_some]
      by_cases hlt : k < l
      · have HB := Lib.hid (fun w => (bit_any a k w ha (by omega)).mono fun e w' (h : e = .returned (.int .i64 ((a / 2 ^ (15 - k) % 2 : Nat) : Int)) ∧ w = w') => (⟨h.1, h.2.symm⟩ : e = .returned (.int .i64 ((a / 2 ^ (15 - k) % 2 : Nat) : Int)) ∧ w' = w))
        have hpn := pn_succ a (k := k) (by omega)
        have hk0 := t2.kid0 hF
        have hk1 := t2.kid1 hF
        have hk16 : k < 16 := by omega
        rcases bv_cases a k with hb | hb
        all_goals
          rw [hb] at HB hpn
          first
            | (have e0 : pn a (k + 1) = 2 * pn a k := by omega
               rw [← e0] at hk0
               clear hk1 e0)
            | (have e0 : pn a (k + 1) = 2 * pn a k + 1 := by omega
               rw [← e0] at hk1
               clear hk0 e0)
          clear hb hpn hF
          go_wp2_with fail
          go_quiet ((go_at_call 43; exact Calls.quiet_of_same (HB.out _)))
          go_wp2
          go_roundw
          case rel => exact ⟨k + 1, by omega, by go_num, rfl, hG2.drewN _⟩
          case measure => simp [intOf]; omega
      · obtain rfl : k = l := by omega
        have HF := Lib.hid hF
        clear hF
        go_wp2
        go_ret
        exact ⟨ret_eq (by rw [HF.out]; rfl), (hG.trans' hG2)⟩
/-- What Find tells. -/
def FoundPost (b : Int × Nat) (w : World) (e : Ending) (w' : World) : Prop :=
  (b.1 < 0 → e = .returned (.tuple #[.int .i64 0, .int .i64 0, .iface 66 (.int .i64 5)])) ∧ (0 ≤ b.1 → e = .returned (.tuple #[.int .i64 b.1, .int .i64 (b.2 : Int), .nilIface])) ∧ Grew w w'
theorem find_bad (a : Int) (w : World) (hin : inB a 0 65535 = false) :
    Calls Tryd.prog 21 #[.pointer (some ⟨tb, 0, none⟩), .int .i64 a] w fun e w' => e = .returned (.tuple #[.int .i64 0, .int .i64 0, .iface 66 (.int .i64 1)]) ∧ w = w' := by
  go_enter Tryd.func21, Tryd.ntmps21
  go_wp2_with (go_at_call 31; refine (within_any _ _ _ _).mono ?_; rintro e w' ⟨rfl, rfl⟩; rw [hin])
  go_ret3
  exact ⟨rfl, rfl⟩
set_option maxRecDepth 100000 in
set_option maxHeartbeats 2000000 in
theorem find_in (a : Nat) (w : World) (t : TabF w S tb r F h many) (ha : a < 65536) :
    Calls Tryd.prog 21 #[.pointer (some ⟨tb, 0, none⟩), .int .i64 a] w (FoundPost (best h a 17) w) := by
  have hin : inB (a : Int) 0 65535 = true := inB_true.2 (by omega)
  have hr := t.root_cell
  have HP0 := Lib.hid (pn_zero ha)
  have HR := Lib.hid t.root
  obtain ⟨B, HBB⟩ : ∃ B, Hid (best h a 17 = B) := ⟨_, Lib.hid rfl⟩
  rw [HBB.out]
  go_enter Tryd.func21, Tryd.ntmps21
  go_wp2_with (go_at_call 31; refine (within_any _ _ _ _).mono ?_; rintro e w' ⟨rfl, rfl⟩; rw [hin])
  go_quiet (fail)
  go_wp2_with fail
  go_loopw [4, 5, 7, 8] (fun hop long i n wr => ∃ k : Nat, k ≤ 16 ∧ i = .int .i64 k ∧ n = ptrV (F k (pn a k)) ∧ hop = .int .i64 (best h a k).1 ∧ long = .int .i64 ((best h a k).2 : Nat) ∧ Grew w wr) (fun _ _ i _ _ => 17 - (intOf i).toNat)
  case atStart => exact ⟨0, Nat.zero_le _, rfl, by rw [HP0.out, HR.out, ptrV_some], rfl, rfl, (Grew.refl _).drewN _⟩
  case round =>
    obtain ⟨k, hk, rfl, rfl, rfl, rfl, hG2⟩ := hrel
    have t2 := t.grew hG2
    obtain ⟨q1, q2, _⟩ := best_range h a k
    have hq16 : (best h a k).2 ≤ 16 := by omega
    rcases hF : F k (pn a k) with _ | b
    · have hb : best h a k = B := by
        rw [← HBB.out]
        exact (best_stop (fun j h1 h2 => by rw [t.no _ _ (t.none_below a hF j h1 (by omega))]; decide) (by omega)).symm
      rw [ptrV_none]
      rw [hb] at q1 hq16 ⊢
      clear hF hb q2
      (by_cases hneg : B.1 < 0); (focus (go_wp2; go_ret3; exact ⟨fun _ => rfl, fun h0 => absurd h0 (Int.not_le.2 hneg), hG2⟩)); (focus (have hpos : 0 ≤ B.1 := Int.not_lt.1 hneg; go_wp2; go_ret3; exact ⟨fun h0 => absurd h0 (Int.not_lt.2 hpos), fun _ => rfl, hG2⟩))
    · rw [ptrV_some]
      have hh := t2.hop_cell hF
      obtain ⟨g1, g2⟩ := t.rng k (pn a k)
      have hsucc : best h a (k + 1) = if 0 ≤ h k (pn a k) then (h k (pn a k), k) else best h a k := rfl
      have hpn := fun hk16 => pn_succ a (k := k) hk16
      have HB := fun (hk16 : k < 16) => Lib.hid (fun w => (bit_any a k w ha hk16).mono fun e w' (h : e = .returned (.int .i64 ((a / 2 ^ (15 - k) % 2 : Nat) : Int)) ∧ w = w') => (⟨h.1, h.2.symm⟩ : e = .returned (.int .i64 ((a / 2 ^ (15 - k) % 2 : Nat) : Int)) ∧ w' = w))
      have hk0 := t2.kid0 hF
      have hk1 := t2.kid1 hF
      by_cases hhop : 0 ≤ h k (pn a k)
      · rw [if_pos hhop] at hsucc
        have HS := Lib.hid hsucc
        clear hsucc
        by_cases h16 : k = 16
        · have hB : (h k (pn a k), k) = B := by rw [← HBB.out, ← HS.out, h16]
          have hbf : ((k : Int) == 16) = true := by rw [beq_iff_eq]; omega
          subst hB
          have hpos : 0 ≤ h k (pn a k) := hhop
          clear hF hpn HB hk0 hk1 h16
          go_wp2
          go_ret3
          exact ⟨fun h => absurd h (by simp only; omega), fun _ => rfl, hG2⟩
        · have hbf : ((k : Int) == 16) = false := by rw [beq_eq_false_iff_ne]; omega
          replace HB := HB (by omega)
          replace hpn := hpn (by omega)
          have hk16 : k < 16 := by omega
          clear h16
          rcases bv_cases a k with hb | hb
          all_goals
            rw [hb] at HB hpn
            first
              | (have e0 : pn a (k + 1) = 2 * pn a k := by omega
                 rw [← e0] at hk0
                 clear hk1 e0)
              | (have e0 : pn a (k + 1) = 2 * pn a k + 1 := by omega
                 rw [← e0] at hk1
                 clear hk0 e0)
            clear hb hpn hF
            go_wp2_with fail
            go_quiet ((go_at_call 43; exact Calls.quiet_of_same (HB.out _)))
            go_wp2
            go_roundw
            case rel => exact ⟨k + 1, by omega, by go_num, rfl, by rw [HS.out], by rw [HS.out], hG2.drewN _⟩
            case measure => simp [intOf]; omega
      · rw [if_neg hhop] at hsucc
        have HS := Lib.hid hsucc
        clear hsucc
        by_cases h16 : k = 16
        · have hB : best h a k = B := by rw [← HBB.out, ← HS.out, h16]
          have hbf : ((k : Int) == 16) = true := by rw [beq_iff_eq]; omega
          rw [hB] at q1 hq16 ⊢
          clear hF hpn HB hk0 hk1 h16 hB
          (by_cases hneg : B.1 < 0); (focus (go_wp2; go_ret3; exact ⟨fun _ => rfl, fun h0 => absurd h0 (Int.not_le.2 hneg), hG2⟩)); (focus (have hpos : 0 ≤ B.1 := Int.not_lt.1 hneg; go_wp2; go_ret3; exact ⟨fun h0 => absurd h0 (Int.not_lt.2 hpos), fun _ => rfl, hG2⟩))
        · have hbf : ((k : Int) == 16) = false := by rw [beq_eq_false_iff_ne]; omega
          replace HB := HB (by omega)
          replace hpn := hpn (by omega)
          have hk16 : k < 16 := by omega
          clear h16
          rcases bv_cases a k with hb | hb
          all_goals
            rw [hb] at HB hpn
            first
              | (have e0 : pn a (k + 1) = 2 * pn a k := by omega
                 rw [← e0] at hk0
                 clear hk1 e0)
              | (have e0 : pn a (k + 1) = 2 * pn a k + 1 := by omega
                 rw [← e0] at hk1
                 clear hk0 e0)
            clear hb hpn hF
            go_wp2_with fail
            go_quiet ((go_at_call 43; exact Calls.quiet_of_same (HB.out _)))
            go_wp2
            go_roundw
            case rel => exact ⟨k + 1, by omega, by go_num, rfl, by rw [HS.out], by rw [HS.out], hG2.drewN _⟩
            case measure => simp [intOf]; omega
end
end Go.Proofs.YtfgpppgehbpblaaDoor
