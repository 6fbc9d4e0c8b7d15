/- Contracts of ones' exported functions and of the laws' helpers: Behind, Set, Sum, in. -/
import Derived.Test.YtalehbhimnhnjaaOnesPlain
import Derived.Test.YtalehbhimnhnjaaBytes
namespace Go.Proofs.Ytalehbhimnhnjaa
open Go.RowKit

theorem sum_ok (A : Option Addr) (n c : Nat) (xs : List Int) (w : World) (hr : Rds w 1 A n (ic xs)) (hnc : n ≤ c) (hc : c ≤ maxLen) (h : bytesE xs 600 = 0) :
    Calls Try.prog 9 #[.slice A n c] w fun e w' => e = .returned (.tuple #[.int .i64 (65535 - totalP xs), .nilIface]) ∧ Below w.heap.size w w' := by
  have hn : n ≤ maxLen := Nat.le_trans hnc hc
  have HE := Lib.hid h
  have HBy := Lib.hid (bytes_of_ok h).1
  have hle : 0 ≤ totalP xs ∧ totalP xs ≤ 65535 := totK_le (byte_range HBy.out) _
  generalize hT : totalP xs = T at hle ⊢
  have hw : IntKind.i64.wrap (65535 - T) = 65535 - T := IntWalk.i64_in _ (by omega)
  clear h
  go_enter Try.func9, Try.ntmps9
  go_wp2_with (first | (go_at_call 20; refine (bytes_ok _ _ _ _ _ _ hr hn HE.out).mono ?_; rintro e w' ⟨rfl, rfl⟩) | (go_at_call 21; refine (total_any _ _ _ _ _ hr hnc hc (byte_range HBy.out)).mono ?_; rintro e w1 ⟨rfl, hB⟩); rw [hT])
  go_ret2
  exact ⟨rfl, hB⟩
theorem sum_err (A : Option Addr) (n c : Nat) (xs : List Int) (k : Int) (w : World) (hr : Rds w 1 A n (ic xs)) (hn : n ≤ maxLen) (h : bytesE xs 600 = k) (hk : k ≠ 0) :
    Calls Try.prog 9 #[.slice A n c] w fun e w' => e = .returned (.tuple #[.int .i64 0, .iface 42 (.int .i64 k)]) ∧ w = w' := by
  have HE := Lib.hid h
  clear h
  go_enter Try.func9, Try.ntmps9
  go_wp2_with (go_at_call 20; refine (bytes_err _ _ _ _ _ _ _ hr hn HE.out hk).mono ?_; rintro e w' ⟨rfl, rfl⟩)
  go_ret2
  exact ⟨rfl, rfl⟩
theorem good_ok (A : Option Addr) (n c : Nat) (xs : List Int) (w : World) (hr : Rds w 1 A n (ic xs)) (hnc : n ≤ c) (hc : c ≤ maxLen) (h : bytesE xs 600 = 0) :
    Calls Try.prog 12 #[.slice A n c] w fun e w' => e = .returned (.tuple #[.bool (totalP xs == 65535), .nilIface]) ∧ Below w.heap.size w w' := by
  have hn : n ≤ maxLen := Nat.le_trans hnc hc
  have HE := Lib.hid h
  have HBy := Lib.hid (bytes_of_ok h).1
  clear h
  go_enter Try.func12, Try.ntmps12
  go_wp2_with (first | (go_at_call 20; refine (bytes_ok _ _ _ _ _ _ hr hn HE.out).mono ?_; rintro e w' ⟨rfl, rfl⟩) | (go_at_call 21; refine (total_any _ _ _ _ _ hr hnc hc (byte_range HBy.out)).mono ?_; rintro e w1 ⟨rfl, hB⟩))
  go_ret2
  exact ⟨rfl, hB⟩
theorem good_err (A : Option Addr) (n c : Nat) (xs : List Int) (k : Int) (w : World) (hr : Rds w 1 A n (ic xs)) (hn : n ≤ maxLen) (h : bytesE xs 600 = k) (hk : k ≠ 0) :
    Calls Try.prog 12 #[.slice A n c] w fun e w' => e = .returned (.tuple #[.bool false, .iface 42 (.int .i64 k)]) ∧ w = w' := by
  have HE := Lib.hid h
  clear h
  go_enter Try.func12, Try.ntmps12
  go_wp2_with (go_at_call 20; refine (bytes_err _ _ _ _ _ _ _ hr hn HE.out hk).mono ?_; rintro e w' ⟨rfl, rfl⟩)
  go_ret2
  exact ⟨rfl, rfl⟩

theorem rds_three (w : World) (a b c : Int) (t : TypeId) : Rds (w.alloc (.cells #[.int .i64 a, .int .i64 b, .int .i64 c] t)) 1 (some ⟨w.heap.size, 0, none⟩) 3 (ic [a, b, c]) := rds_lit w [a, b, c] t

def mendP (a b c : Int) : Int := 65535 - addW (addW (65535 - a) (65535 - b)) c
theorem mend_ok (a b c : Int) (w : World) (ha : 0 ≤ a ∧ a ≤ 65535) (hb : 0 ≤ b ∧ b ≤ 65535) (hc : 0 ≤ c ∧ c ≤ 65535) :
    Calls Try.prog 14 #[.int .i64 a, .int .i64 b, .int .i64 c] w fun e w' => e = .returned (.tuple #[.int .i64 (mendP a b c), .nilIface]) ∧ Below w.heap.size w w' := by
  have hall : allB [a, b, c] 0 65535 = true := by simp [allB, inB]; omega
  have w1 : IntKind.i64.wrap (65535 - a) = 65535 - a := IntWalk.i64_in _ (by omega)
  have w2 : IntKind.i64.wrap (65535 - b) = 65535 - b := IntWalk.i64_in _ (by omega)
  have l1 := addW_le (a := 65535 - a) (b := 65535 - b) (by omega) (by omega) (by omega) (by omega)
  have l2 := addW_le (b := c) l1.1 l1.2 hc.1 hc.2
  obtain ⟨T1, hT1⟩ : ∃ T, addW (65535 - a) (65535 - b) = T := ⟨_, rfl⟩
  obtain ⟨T2, hT2⟩ : ∃ T, addW T1 c = T := ⟨_, rfl⟩
  rw [hT1] at l1 l2
  rw [hT2] at l2
  have w3 : IntKind.i64.wrap (65535 - T2) = 65535 - T2 := IntWalk.i64_in _ (by omega)
  have hm : mendP a b c = 65535 - T2 := by rw [mendP, hT1, hT2]
  rw [hm]
  have HT1 := Lib.hid hT1
  have HT2 := Lib.hid hT2
  have HA := Lib.hid hall
  clear hT1 hT2 hall hm
  have hB := (Below.refl w.heap.size w).alloc (Nat.le_refl _) (.cells #[.int .i64 a, .int .i64 b, .int .i64 c] 3)
  go_enter Try.func14, Try.ntmps14
  go_wp2_with (first
    | (go_at_call 22; refine (all_any _ _ _ _ _ _ _ (rds_three w a b c _) (by decide)).mono ?_; rintro e w' ⟨rfl, rfl⟩; rw [HA.out])
    | (go_at_call 23; refine (add_any _ _ _ (by omega) (by omega) (by omega) (by omega)).mono ?_; rintro e w' ⟨rfl, rfl⟩; first | rw [HT1.out] | rw [HT2.out]))
  go_ret2
  exact ⟨rfl, hB⟩

/-! ### the helpers of the laws -/
theorem in_any (a b c : Int) (w : World) :
    Calls Try.prog 10 #[.int .i64 a, .int .i64 b, .int .i64 c] w fun e w' => e = .returned (.bool (inB a b c)) ∧ w = w' := by
  by_cases h : b ≤ a
  · by_cases h2 : a ≤ c
    all_goals
      go_enter Try.func10, Try.ntmps10
      go_wp2
      go_ret
      exact ⟨by simp [inB, h, h2], rfl⟩
  · go_enter Try.func10, Try.ntmps10
    go_wp2
    go_ret
    exact ⟨ret_eq (bool_eq (by rw [eq_comm, inB_false]; omega)), rfl⟩

theorem Own.set {w : World} {base g n c i : Nat} {xs : List Int} (h : Own w base (.slice (some ⟨g, 0, none⟩) n c) xs) (v : Int) : Own (w.setCell ⟨g, i, none⟩ (.int .i64 v)) base (.slice (some ⟨g, 0, none⟩) n c) (xs.set i v) := by
  have hl := h.1
  rcases h.2 with ⟨e, _⟩ | ⟨g', cap, cur, e, hg, hh, h1, h2, h3, h4⟩
  · cases e
  injection e with e1 e2 e3
  injection e1 with e1
  injection e1 with e1
  subst e1; subst e3
  refine ⟨by rw [ic_length] at hl ⊢; rw [List.length_set]; exact hl, .inr ⟨g, c, cur.setIfInBounds i (.int .i64 v), by rw [e2, List.length_set], hg, ?_, by simpa using h1, h2, by simpa using h3, ?_⟩⟩
  · obtain ⟨hlt, hk⟩ := Array.getElem?_eq_some_iff.1 hh
    show (w.heap.modify g _)[g]? = _
    rw [Array.getElem?_eq_getElem (by rw [Array.size_modify]; exact hlt), Array.getElem_modify_self, hk]
    rfl
  · rw [Array.toList_setIfInBounds]
    rw [List.length_set, List.take_set, h4]
    simp [ic]

theorem Own.at_ {w : World} {base n c i : Nat} {A : Option Addr} {xs : List Int} (h : Own w base (.slice A n c) xs) (hi : i < xs.length) :
    ∃ g, A = some ⟨g, 0, none⟩ ∧ base ≤ g ∧ w.cell? ⟨g, i, none⟩ = some (.int .i64 xs[i]) ∧ w.frozen? ⟨g, i, none⟩ = false := by
  have hr := h.rds
  rcases h.2 with ⟨_, e⟩ | ⟨g, cap, cur, e, hg, hh, _⟩
  · omega
  · injection e with e1 _ _
    subst e1
    obtain ⟨b', off', e', hcell⟩ := hr.2 (by rw [ic_length]; omega)
    injection e' with e'
    injection e' with e1 e2
    subst e1; subst e2
    refine ⟨g, rfl, hg, ?_, by simp [World.frozen?, hh]⟩
    have := hcell i (by rw [ic_length]; exact hi)
    rwa [Nat.zero_add, ic_get _ _ hi] at this

def RetInts (W : World) (xs : List Int) : Ending → World → Prop := fun e w' => ∃ A c, e = .returned (.slice A xs.length c) ∧ Own w' W.heap.size (.slice A xs.length c) xs ∧ xs.length ≤ c ∧ c ≤ maxLen ∧ Below W.heap.size W w'

theorem behind_any (A : Option Addr) (n c : Nat) (xs : List Int) (v : Int) (w : World) (hr : Rds w 1 A n (ic xs)) (hn : n ≤ 1000) :
    Calls Try.prog 11 #[.slice A n c, .int .i64 v] w (RetInts w (xs ++ [v])) := by
  obtain rfl : n = xs.length := hr.len_int
  have hB := Below.refl w.heap.size w
  go_enter Try.func11, Try.ntmps11
  go_wp2_with (first
    | (at_builtin; refine wp_append_ints w rfl (.tmp 6) (.tmp 7) rfl w w.heap.size (.slice none 0 0) [] rfl (Own.nil_ _ _) A xs.length c xs rfl hr (by simp; omega) (Nat.le_refl _) hB ?_; intro A1 c1 w1 ho1 hc1 hc2 hB1 _ _; simp only [List.length_nil, Nat.zero_add, List.nil_append] at ho1 hc1 ⊢)
    | (at_builtin; refine wp_append_int w1 rfl (.tmp 9) (.tmp 11) rfl w w.heap.size (.slice A1 xs.length c1) xs rfl ho1 v rfl (by omega) hB1.size hB1 ?_; intro A2 c2 w2 ho2 hc3 hc4 hB2 _ _))
  go_ret
  exact ⟨A2, c2, by simp, by simpa using ho2, by simpa using hc3, hc4, hB2⟩

theorem set_any (A : Option Addr) (n c i : Nat) (xs : List Int) (v : Int) (w : World) (hr : Rds w 1 A n (ic xs)) (hn : n ≤ 1000) (hi : i < n) :
    Calls Try.prog 13 #[.slice A n c, .int .i64 i, .int .i64 v] w (RetInts w (xs.set i v)) := by
  obtain rfl : n = xs.length := hr.len_int
  have hB := Below.refl w.heap.size w
  go_enter Try.func13, Try.ntmps13
  go_wp2_with (at_builtin; refine wp_append_ints w rfl (.tmp 8) (.tmp 9) rfl w w.heap.size (.slice none 0 0) [] rfl (Own.nil_ _ _) A xs.length c xs rfl hr (by simp; omega) (Nat.le_refl _) hB ?_; intro A1 c1 w1 ho1 hc1 hc2 hB1 _ _; simp only [List.length_nil, Nat.zero_add, List.nil_append] at ho1 hc1 ⊢; (obtain ⟨g, rfl, hg, hci, hfz⟩ := ho1.at_ hi))
  go_ret
  exact ⟨some ⟨g, 0, none⟩, c1, by rw [List.length_set]; rfl, by rw [List.length_set]; exact ho1.set v, by simpa using hc1, hc2, hB1.setCell (p := ⟨g, i, none⟩) hg _⟩

theorem take_sum (xs : List Int) (k : Nat) (h : k < xs.length) : (xs.take (k + 1)).sum = (xs.take k).sum + xs[k] := by
  rw [← List.take_append_getElem h, List.sum_append]; simp
theorem sum_take_le {xs : List Int} (hb : ∀ x ∈ xs, 0 ≤ x ∧ x ≤ 255) : ∀ k, k ≤ xs.length → 0 ≤ (xs.take k).sum ∧ (xs.take k).sum ≤ 255 * k
  | 0, _ => by simp
  | k + 1, hk => by
    have h1 := sum_take_le hb k (by omega)
    have h2 := hb xs[k] (List.getElem_mem _)
    rw [take_sum xs k (by omega)]; omega

set_option maxHeartbeats 1000000 in
theorem sameSum_any (A : Option Addr) (n c : Nat) (xs : List Int) (w : World) (hr : Rds w 1 A n (ic xs)) (hn : n ≤ 1000) (hb : ∀ x ∈ xs, 0 ≤ x ∧ x ≤ 255) :
    Calls Try.prog 15 #[.slice A n c] w fun e w' => e = .returned (.int .i64 xs.sum) ∧ w = w' := by
  have HL := Lib.hid hr.len_int
  have HB := Lib.hid hb
  clear hb
  go_enter Try.func15, Try.ntmps15
  go_wp2
  go_loop [3, 4] (fun s i => ∃ k : Nat, k ≤ n ∧ i = .int .i64 k ∧ s = .int .i64 (xs.take k).sum) (fun s i => n - (intOf i).toNat)
  case atStart => exact ⟨0, Nat.zero_le _, rfl, by simp⟩
  case round =>
    obtain ⟨k, hk, rfl, rfl⟩ := hrel
    by_cases hlt : k < n
    · have hkl : k < xs.length := by rw [← HL.out]; exact hlt
      obtain ⟨b, off, hk', rfl, hcell⟩ := hr.int hlt
      have h1 := sum_take_le HB.out k (by omega)
      have h2 := HB.out xs[k] (List.getElem_mem _)
      have h3 := Lib.hid (take_sum xs k hkl)
      generalize (xs.take k).sum = s at *
      have hw : IntKind.i64.wrap (s + xs[k]) = s + xs[k] := IntWalk.i64_in _ (by omega)
      go_wp2
      go_round
      case rel => exact ⟨k + 1, by omega, by go_num, by rw [h3.out]⟩
      case measure => simp [intOf]; omega
    · obtain rfl : k = n := by omega
      go_wp2
      go_ret
      exact ⟨by rw [List.take_of_length_le (by rw [← HL.out]; exact Nat.le_refl _)]; rfl, rfl⟩
end Go.Proofs.Ytalehbhimnhnjaa
