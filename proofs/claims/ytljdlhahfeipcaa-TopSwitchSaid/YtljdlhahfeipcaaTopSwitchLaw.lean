/- In a tree the switch never sends round: ferryhythetop.TopSwitch returns true. -/
import Derived.Test.YtljdlhahfeipcaaSwitch
import Derived.Test.YtljdlhahfeipcaaIntsA
namespace Go.Proofs.Ytljdlhahfeipcaa
open Go.RowKit
theorem in_any (v lo hi : Int) (w : World) :
    Calls Try.prog 14 #[.int .i64 v, .int .i64 lo, .int .i64 hi] w fun e w' => e = .returned (.bool (inB v lo hi)) ∧ w = w' := by
  by_cases h1 : lo ≤ v
  · by_cases h2 : v ≤ hi
    · rw [show inB v lo hi = true from inB_true.2 ⟨h1, h2⟩]
      go_enter Try.func14, Try.ntmps14
      go_wp2
      go_ret
      exact ⟨rfl, rfl⟩
    · rw [show inB v lo hi = false from Bool.eq_false_iff.2 fun e => h2 (inB_true.1 e).2]
      go_enter Try.func14, Try.ntmps14
      go_wp2
      go_ret
      exact ⟨rfl, rfl⟩
  · rw [show inB v lo hi = false from Bool.eq_false_iff.2 fun e => h1 (inB_true.1 e).1]
    go_enter Try.func14, Try.ntmps14
    go_wp2
    go_ret
    exact ⟨rfl, rfl⟩
theorem has_not (A : Option Addr) (n c : Nat) (xs : List Int) (z : Int) (w : World) (hr : Rds w 1 A n (ic xs)) (hn : n ≤ maxLen) (hz : z ∉ xs) :
    Calls Try.prog 19 #[.slice A n c, .int .i64 z] w fun e w' => e = .returned (.bool false) ∧ w = w' := by
  have HZ := Lib.hid hz
  clear hz
  unfold maxLen at hn
  go_enter Try.func19, Try.ntmps19
  go_wp2_with fail
  go_loop [5] (fun i => ∃ k : Nat, k ≤ n ∧ i = .int .i64 k) (fun i => n - (intOf i).toNat)
  case atStart => exact ⟨0, Nat.zero_le _, rfl⟩
  case round =>
    obtain ⟨k, hk, rfl⟩ := hrel
    by_cases hlt : k < n
    · obtain ⟨b, off, hk', rfl, hcell⟩ := hr.int hlt
      have he : (xs[k] == z) = false := by rw [beq_eq_false_iff_ne]; intro e; exact HZ.out (e ▸ List.getElem_mem hk')
      generalize xs[k] = x at *
      go_wp2
      go_round
      case rel => exact ⟨k + 1, by omega, by go_num⟩
      case measure => simp [intOf]; omega
    · go_wp2
      go_ret
      exact ⟨rfl, rfl⟩
theorem rds_next (w : World) (p q : Int) (k : Nat) : Rds (((w.alloc (.cells #[.int .i64 p] 3)).drewN k).alloc (.cells #[.int .i64 q] 3)) 1 (some ⟨w.heap.size + 1, 0, none⟩) 1 (ic [q]) := by
  have h := rds_one ((w.alloc (.cells #[.int .i64 p] 3)).drewN k) q 3
  simpa using h
theorem SwTo.rds {ps : Nat} {w w' : World} {s s' : Value} {A : Option Addr} {n : Nat} {xs : List Value} (T : SwTo ps w s w' s') (h : Rds w 1 A n xs) (h1 : ∀ a, A = some a → a.block ≠ ps ∧ some a.block ≠ s.ownBlock) : Rds w' 1 A n xs := by
  refine ⟨h.1, fun hp => ?_⟩
  obtain ⟨b, off, e, hc⟩ := h.2 hp
  refine ⟨b, off, e, fun j hj => ?_⟩
  obtain ⟨g1, g2⟩ := h1 _ e
  have hv := hc j hj
  rw [List.getElem?_eq_getElem hj] at hv ⊢
  exact T.cell (p := ⟨b, off + j, none⟩) hv g1 g2
theorem others_len {p : Int} (h : inB p 0 3 = true) : (othersE p).length = 3 := by
  obtain ⟨h0, h1⟩ := inB_true.1 h
  obtain rfl | rfl | rfl | rfl : p = 0 ∨ p = 1 ∨ p = 2 ∨ p = 3 := by omega
  all_goals rfl
theorem others_not (p : Int) : p ∉ othersE p := by
  unfold othersE othersK
  intro h
  rw [List.mem_filter] at h
  simp at h
theorem res_same (a p : Int) : resE ([] ++ [(a, p)]) a p = [] := by simp [resE, lookE]
theorem res_first {a b p : Int} (h : a ≠ b) : resE ([] ++ [(a, p)]) b p = othersE p := by simp [resE, lookE, h]
theorem res_two {a b p q : Int} (h : p ≠ q) : resE ([(a, p)] ++ [(b, q)]) a q = [p] := by simp [resE, lookE, h]
set_option maxHeartbeats 4000000 in
theorem topSwitch_any (a b p q many : Int) (w : World) :
    Calls Try.prog 8 #[.int .i64 a, .int .i64 b, .int .i64 p, .int .i64 q, .int .i64 many] w fun e w' => e = .returned (.bool true) ∧ Below w.heap.size w w' := by
  have hs0 := sw_new w
  have hb0 : Below w.heap.size w (w.alloc (.cells #[.slice none 0 0] 45)) := (Below.refl _ _).alloc (Nat.le_refl _) _
  generalize hw1 : w.alloc (.cells #[.slice none 0 0] 45) = w1 at *
  have HN := Lib.hid ((swNew_any w).mono fun e w' (h : e = .returned (.pointer (some ⟨w.heap.size, 0, none⟩)) ∧ w.alloc (.cells #[.slice none 0 0] 45) = w') => (⟨h.1, hw1.symm.trans h.2⟩ : e = .returned (.pointer (some ⟨w.heap.size, 0, none⟩)) ∧ w1 = w'))
  obtain ⟨n₀, hn₀⟩ : ∃ n₀, w.heap.size = n₀ := ⟨_, rfl⟩
  rw [hn₀] at hs0 hb0 HN
  have HGO := Lib.hid hn₀
  clear hw1 hn₀
  have HS0 := Lib.hid hs0
  have HB0 := Lib.hid hb0
  clear hs0 hb0
  by_cases hv : inB a 0 65535 = false ∨ inB p 0 3 = false ∨ inB b 0 65535 = false
  · have HV := Lib.hid hv
    clear hv
    go_enter Try.func8, Try.ntmps8
    go_wp2_with (first | (go_at_call 16; (with_reducible refine HN.out.mono ?_); rintro e w' ⟨rfl, rfl⟩) | (go_at_call 17; (with_reducible refine (port_none 0 _ HS0.out).mono ?_); rintro e w2 ⟨rfl, hG⟩) | (go_at_call 18; (with_reducible refine (frame_err _ _ _ _ _ HV.out).mono ?_); rintro e w' ⟨rfl, rfl⟩))
    go_ret
    exact ⟨rfl, by rw [HGO.out]; exact HB0.out.trans (hG.below.mono HS0.out.low)⟩
  · have hva : inB a 0 65535 = true := Bool.of_not_eq_false fun h => hv (.inl h)
    have hvp : inB p 0 3 = true := Bool.of_not_eq_false fun h => hv (.inr (.inl h))
    have hvb : inB b 0 65535 = true := Bool.of_not_eq_false fun h => hv (.inr (.inr h))
    have HVA := Lib.hid hva
    have HVB := Lib.hid hvb
    have HVP := Lib.hid hvp
    clear hva hvp hvb hv
    by_cases hab : a = b
    · subst hab
      have hne : (a != a) = false := by simp
      rcases iq : inB q 0 3 with _ | _
      all_goals
        go_enter Try.func8, Try.ntmps8
        go_wp2_with (first | (go_at_call 16; (with_reducible refine HN.out.mono ?_); rintro e w' ⟨rfl, rfl⟩) | (go_at_call 17; (with_reducible refine (port_none 0 _ HS0.out).mono ?_); rintro e w2 ⟨rfl, hG⟩) | (go_at_call 18; (with_reducible refine (frame_ok n₀ n₀ _ _ _ _ _ [] [] (HS0.out.grew hG) (by simp) HVA.out HVP.out HVB.out (.inl ⟨by simp, rfl⟩)).mono ?_); rintro e w3 ⟨v3, A3, n3, c3, rfl, hs3, hT3, hn3, hr3, ho3⟩; rw [res_same] at hn3; obtain rfl : n3 = 0 := hn3) | (go_at_call 14; (with_reducible refine (in_any _ _ _ _).mono ?_); rintro e w' ⟨rfl, rfl⟩; rw [iq]))
        go_ret
        exact ⟨rfl, by rw [HGO.out]; exact (HB0.out.trans (hG.below.mono HS0.out.low)).trans (hT3.below (HS0.out.grew hG))⟩
    · have hne : (a != b) = true := by rw [bne_iff_ne]; exact hab
      have hne2 : (a == b) = false := by rw [beq_eq_false_iff_ne]; exact hab
      have HAB := Lib.hid hab
      clear hab
      rcases iq : inB q 0 3 with _ | _
      · go_enter Try.func8, Try.ntmps8
        go_wp2_with (first | (go_at_call 16; (with_reducible refine HN.out.mono ?_); rintro e w' ⟨rfl, rfl⟩) | (go_at_call 17; (with_reducible refine (port_none 0 _ HS0.out).mono ?_); rintro e w2 ⟨rfl, hG⟩) | (go_at_call 18; (with_reducible refine (frame_ok n₀ n₀ _ _ _ _ _ [] [] (HS0.out.grew hG) (by simp) HVA.out HVP.out HVB.out (.inl ⟨by simp, rfl⟩)).mono ?_); rintro e w3 ⟨v3, A3, n3, c3, rfl, hs3, hT3, hn3, hr3, ho3⟩; rw [res_first HAB.out] at hn3 hr3; have h33 := hn3.trans (others_len HVP.out); clear hn3; subst h33) | (go_at_call 19; (with_reducible refine (has_not _ _ _ _ _ _ hr3 (by unfold maxLen; omega) (others_not _)).mono ?_); rintro e w' ⟨rfl, rfl⟩) | (go_at_call 14; (with_reducible refine (in_any _ _ _ _).mono ?_); rintro e w' ⟨rfl, rfl⟩; rw [iq]))
        go_ret
        exact ⟨rfl, by rw [HGO.out]; exact (HB0.out.trans (hG.below.mono HS0.out.low)).trans (hT3.below (HS0.out.grew hG))⟩
      · by_cases hpq : p = q
        · have hpe : (p == q) = true := by simpa using hpq
          clear hpq
          go_enter Try.func8, Try.ntmps8
          go_wp2_with (first | (go_at_call 16; (with_reducible refine HN.out.mono ?_); rintro e w' ⟨rfl, rfl⟩) | (go_at_call 17; (with_reducible refine (port_none 0 _ HS0.out).mono ?_); rintro e w2 ⟨rfl, hG⟩) | (go_at_call 18; (with_reducible refine (frame_ok n₀ n₀ _ _ _ _ _ [] [] (HS0.out.grew hG) (by simp) HVA.out HVP.out HVB.out (.inl ⟨by simp, rfl⟩)).mono ?_); rintro e w3 ⟨v3, A3, n3, c3, rfl, hs3, hT3, hn3, hr3, ho3⟩; rw [res_first HAB.out] at hn3 hr3; have h33 := hn3.trans (others_len HVP.out); clear hn3; subst h33) | (go_at_call 19; (with_reducible refine (has_not _ _ _ _ _ _ hr3 (by unfold maxLen; omega) (others_not _)).mono ?_); rintro e w' ⟨rfl, rfl⟩) | (go_at_call 14; (with_reducible refine (in_any _ _ _ _).mono ?_); rintro e w' ⟨rfl, rfl⟩; rw [iq]))
          go_ret
          exact ⟨rfl, by rw [HGO.out]; exact (HB0.out.trans (hG.below.mono HS0.out.low)).trans (hT3.below (HS0.out.grew hG))⟩
        · have hpe : (p == q) = false := by rw [beq_eq_false_iff_ne]; exact hpq
          have HPQ := Lib.hid hpq
          clear hpq
          have HQ := Lib.hid iq
          go_enter Try.func8, Try.ntmps8
          go_wp2_with (first | (go_at_call 16; (with_reducible refine HN.out.mono ?_); rintro e w' ⟨rfl, rfl⟩) | (go_at_call 17; (with_reducible refine (port_none 0 _ HS0.out).mono ?_); rintro e w2 ⟨rfl, hG⟩) | (go_at_call 18; (with_reducible refine (frame_ok n₀ n₀ _ _ _ _ _ [] [] (HS0.out.grew hG) (by simp) HVA.out HVP.out HVB.out (.inl ⟨by simp, rfl⟩)).mono ?_); rintro e w3 ⟨v3, A3, n3, c3, rfl, hs3, hT3, hn3, hr3, ho3⟩; rw [res_first HAB.out] at hn3 hr3; have h33 := hn3.trans (others_len HVP.out); clear hn3; subst h33) | (go_at_call 19; (with_reducible refine (has_not _ _ _ _ _ _ hr3 (by unfold maxLen; omega) (others_not _)).mono ?_); rintro e w' ⟨rfl, rfl⟩) | (go_at_call 14; (with_reducible refine (in_any _ _ _ _).mono ?_); rintro e w' ⟨rfl, rfl⟩; rw [iq]))
          have HS3 := Lib.hid hs3
          have HB3 := Lib.hid ((HB0.out.trans (hG.below.mono HS0.out.low)).trans (hT3.below (HS0.out.grew hG)))
          clear hs3 hT3 hr3 ho3 hG
          go_loopw [14, 15, 16, 17, 18] (fun s14 _ _ _ _ wr => ∃ (k : Nat) (s : Value), k ≤ 20 ∧ s14 = .int .i64 k ∧ Below n₀ w wr ∧ ∃ tab, Sw n₀ n₀ wr s tab ∧ (tab = [(a, p)] ∨ tab = [(b, q), (a, p)])) (fun s14 _ _ _ _ _ => 20 - (intOf s14).toNat)
          case atStart => exact ⟨0, v3, by omega, rfl, HB3.out, _, HS3.out, .inl rfl⟩
          case round =>
            obtain ⟨k, s, hk, rfl, hB, tab, hs, ht⟩ := hrel
            by_cases hc : (k : Int) < many
            · by_cases hlt : k < 20
              · have HF1 := Lib.hid (frame_ok n₀ n₀ b a q wr s tab [(a, p)] hs (by rcases ht with rfl | rfl <;> simp) HVB.out HQ.out HVA.out (by
                  rcases ht with rfl | rfl
                  · exact .inl ⟨by simpa using HAB.out, rfl⟩
                  · exact .inr ⟨q, rfl⟩))
                have HF2 := Lib.hid (fun w4 v4 (h : Sw n₀ n₀ w4 v4 ([(a, p)] ++ [(b, q)])) => frame_ok n₀ n₀ a b p w4 v4 _ [(b, q)] h (by simp) HVA.out HVP.out HVB.out (.inr ⟨p, rfl⟩))
                have HS := Lib.hid hs
                have HB := Lib.hid hB
                clear hs hB ht
                go_wp2_with (first | (go_at_call 18; (with_reducible refine HF1.out.mono ?_); rintro e w4 ⟨v4, A4, n4, c4, rfl, hs4, hT4, hn4, hr4, ho4⟩; rw [res_two HPQ.out] at hn4 hr4; have h41 : n4 = 1 := hn4; clear hn4; subst h41) | (go_at_call 18; (with_reducible refine (HF2.out _ _ hs4).mono ?_); rintro e w5 ⟨v5, A5, n5, c5, rfl, hs5, hT5, hn5, hr5, ho5⟩; rw [res_two (fun h => HPQ.out h.symm)] at hn5 hr5; have h51 : n5 = 1 := hn5; clear hn5; subst h51; have hr45 := hT5.rds hr4 (fun x hx => ⟨fun e => Nat.lt_irrefl _ (Nat.lt_of_lt_of_le (e ▸ HS.out.box.lt) (ho4 (by omega) x hx).1), (ho4 (by omega) x hx).2⟩)) | (go_at_call 20; (with_reducible refine (ints_any A4 _ 1 _ 1 _ [p] [p] _ (hr45.alloc _) (rds_one _ _ _) (by unfold maxLen; omega) (by unfold maxLen; omega)).mono ?_); rintro e w6 ⟨rfl, k6, rfl⟩; rw [show decide ([p] = [p]) = true from by simp]) | (go_at_call 20; have hrq := rds_next w5 p q k6; (with_reducible refine (ints_any A5 _ 1 _ 1 _ [q] [q] _ (((hr5.alloc _).drewN _).alloc _) hrq (by unfold maxLen; omega) (by unfold maxLen; omega)).mono ?_); rintro e w7 ⟨rfl, k7, rfl⟩; rw [show decide ([q] = [q]) = true from by simp]))
                go_roundw
                case rel => exact ⟨k + 1, v5, by omega, by go_num, ((HB.out.trans (hT4.below HS.out)).trans (hT5.below hs4)).trans ((((((Grew.refl w5).alloc _).drewN k6).alloc _).drewN k7).below.mono hs5.low), _, hs5.grew (((((Grew.refl w5).alloc _).drewN k6).alloc _).drewN k7), .inr rfl⟩
                case measure => simp [intOf]; omega
              · go_wp2
                go_ret
                exact ⟨rfl, by rw [HGO.out]; exact hB⟩
            · go_wp2
              go_ret
              exact ⟨rfl, by rw [HGO.out]; exact hB⟩
end Go.Proofs.Ytljdlhahfeipcaa
