/- Contracts of the document's Bits, Same, five, Stuff and Unstuff. -/
import Derived.Test.YtbmajajndckfoaaDoorRefAll
import Derived.Test.YtbmajajndckfoaaDoorStuffRefPlain
import Derived.Test.YtbmajajndckfoaaDoorRowsOwn
namespace Go.Proofs.YtbmajajndckfoaaDoor
open Go.RowKit
/-- What a function hands back: ints of the call's own. -/
def RetOne (W : World) (xs : List Int) : Ending → World → Prop := fun e w' => ∃ A c, e = .returned (.slice A xs.length c) ∧ Own w' W.heap.size (.slice A xs.length c) xs ∧ xs.length ≤ c ∧ c ≤ maxLen ∧ Below W.heap.size W w'
theorem refBits_any (A : Option Addr) (n c : Nat) (xs : List Int) (w : World) (hr : Rds w 1 A n (ic xs)) (hn : n ≤ maxLen) :
    Calls Tryd.prog 11 #[.slice A n c, .int .i64 200] w fun e w' => e = .returned (.int .i64 (bitsE xs)) ∧ w = w' := by
  have hl := hr.len_int
  have HN := Lib.hid hn
  unfold maxLen at hn
  by_cases h : 200 < n
  · have HE := Lib.hid (show bitsE xs = 4 from by unfold bitsE; rw [if_pos (by omega)])
    clear hl
    rw [HE.out]
    go_enter Tryd.func11, Tryd.ntmps11
    go_wp2
    go_ret
    exact ⟨rfl, rfl⟩
  · rcases ha : allB xs 0 1 with _ | _
    · have HE := Lib.hid (show bitsE xs = 1 from by unfold bitsE; rw [if_neg (by omega), if_neg (by rw [ha]; simp)])
      clear hl
      rw [HE.out]
      go_enter Tryd.func11, Tryd.ntmps11
      go_wp2_with (go_at_call 35; refine (refAll_any _ _ _ _ _ _ _ hr HN.out).mono ?_; rintro e w' ⟨rfl, rfl⟩; rw [ha])
      go_ret
      exact ⟨rfl, rfl⟩
    · have HE := Lib.hid (show bitsE xs = 0 from by unfold bitsE; rw [if_neg (by omega), if_pos ha])
      clear hl
      rw [HE.out]
      go_enter Tryd.func11, Tryd.ntmps11
      go_wp2_with (go_at_call 35; refine (refAll_any _ _ _ _ _ _ _ hr HN.out).mono ?_; rintro e w' ⟨rfl, rfl⟩; rw [ha])
      go_ret
      exact ⟨rfl, rfl⟩
theorem same_any (A B : Option Addr) (n c m d : Nat) (xs ys : List Int) (w : World) (hx : Rds w 1 A n (ic xs)) (hy : Rds w 1 B m (ic ys)) (hn : n ≤ maxLen) (hm : m ≤ maxLen) :
    Calls Tryd.prog 38 #[.slice A n c, .slice B m d] w fun e w' => e = .returned (.bool (decide (xs = ys))) ∧ ∃ k, w' = w.drewN k := by
  have HX := Lib.hid hx.len_int
  have HY := Lib.hid hy.len_int
  unfold maxLen at hn hm
  by_cases hnm : n = m
  · subst hnm
    go_enter Tryd.func38, Tryd.ntmps38
    go_wp2_with fail
    go_loopw [5] (fun i wr => ∃ k q : Nat, k ≤ n ∧ i = .int .i64 k ∧ wr = w.drewN q ∧ xs.take k = ys.take k) (fun i _ => n - (intOf i).toNat)
    case atStart => exact ⟨0, 0, Nat.zero_le _, rfl, rfl, rfl⟩
    case round =>
      obtain ⟨k, q, hk, rfl, rfl, hall⟩ := hrel
      have HA := Lib.hid hall
      clear hall
      by_cases hlt : k < n
      · obtain ⟨b, off, hk', rfl, hcell⟩ := hx.int hlt
        obtain ⟨b2, off2, hk2, rfl, hcell2⟩ := hy.int hlt
        by_cases he : xs[k] = ys[k]
        · have he1 : (xs[k] != ys[k]) = false := by simpa using he
          have HE := Lib.hid he
          clear he
          go_wp2
          go_quiet (fail)
          go_wp2
          go_roundw
          case rel =>
            refine ⟨k + 1, _, by omega, by go_num, rfl, ?_⟩
            rw [List.take_succ_eq_append_getElem hk', List.take_succ_eq_append_getElem hk2, HA.out, HE.out]
          case measure => simp [intOf]; omega
        · have he1 : (xs[k] != ys[k]) = true := by simpa using he
          have HE := Lib.hid he
          clear he
          go_wp2
          go_quiet (fail)
          go_wp2
          go_ret
          exact ⟨ret_eq (bool_eq (by symm; rw [decide_eq_false_iff_not]; intro e; exact HE.out (by simp only [e]))), q + _, World.drewN_drewN _ _ _⟩
      · go_wp2
        go_ret
        refine ⟨ret_eq (bool_eq ?_), q, rfl⟩
        symm
        rw [decide_eq_true_iff]
        have h1 := HA.out
        have hx' := HX.out
        have hy' := HY.out
        rwa [List.take_of_length_le (by omega), List.take_of_length_le (by omega)] at h1
  · have hne : ((n : Int) != (m : Int)) = true := by rw [bne_iff_ne]; omega
    go_enter Tryd.func38, Tryd.ntmps38
    go_wp2
    go_ret
    refine ⟨ret_eq (bool_eq ?_), 0, rfl⟩
    symm
    rw [decide_eq_false_iff_not]
    rintro rfl
    exact hnm (HX.out.trans HY.out.symm)
theorem five_any (A : Option Addr) (n c : Nat) (xs : List Int) (w : World) (hr : Rds w 1 A n (ic xs)) (hn : n ≤ maxLen) (hb : Bits xs) :
    Calls Tryd.prog 37 #[.slice A n c] w fun e w' => e = .returned (.int .i64 (runF xs)) ∧ w = w' := by
  have HL := Lib.hid hr.len_int
  unfold maxLen at hn
  go_enter Tryd.func37, Tryd.ntmps37
  go_wp2_with fail
  go_loop [3] (fun i => ∃ k : Nat, k ≤ n ∧ i = .int .i64 k ∧ runF xs = k + runF (xs.take (n - k))) (fun i => n - (intOf i).toNat)
  case atStart => exact ⟨0, Nat.zero_le _, rfl, by rw [List.take_of_length_le (by rw [← HL.out]; omega)]; simp⟩
  case round =>
    obtain ⟨k, hk, rfl, hrun⟩ := hrel
    have HA := Lib.hid hrun
    clear hrun
    by_cases hlt : k < n
    · obtain ⟨b, off, hk', rfl, hcell⟩ := hr.int (k := n - 1 - k) (by omega)
      have hsn := runF_snoc xs (n - 1 - k) hk'
      rw [show n - 1 - k + 1 = n - k from by omega] at hsn
      have hix : (n : Int) - 1 - (k : Int) = ((n - 1 - k : Nat) : Int) := by omega
      have hlen : n - 1 - k < n := by omega
      rcases hb _ (List.getElem_mem hk') with hz | hz
      · rw [hz] at hcell
        rw [if_pos hz] at hsn
        have HSN := Lib.hid hsn
        clear hsn hz
        go_wp2
        all_goals (try rw [hix])
        all_goals go_wp2
        go_ret
        exact ⟨ret_eq (by rw [HA.out, HSN.out]; simp), rfl⟩
      · rw [hz] at hcell
        rw [if_neg (by omega)] at hsn
        have HSN := Lib.hid hsn
        clear hsn hz
        go_wp2
        all_goals (try rw [hix])
        all_goals go_wp2
        go_round
        case rel => exact ⟨k + 1, by omega, by go_num, by rw [HA.out, HSN.out, show n - (k + 1) = n - 1 - k from by omega]; omega⟩
        case measure => simp [intOf]; omega
    · obtain rfl : k = n := by omega
      go_wp2
      go_ret
      exact ⟨ret_eq (by rw [HA.out]; simp [runF]), rfl⟩
set_option maxHeartbeats 1000000 in
theorem refStuff_any (A : Option Addr) (n c : Nat) (xs : List Int) (w : World) (hr : Rds w 1 A n (ic xs)) (hl200 : n ≤ 200) (hb : Bits xs) :
    Calls Tryd.prog 13 #[.slice A n c] w (RetOne w (stuffL xs)) := by
  have HL := Lib.hid hr.len_int
  have HR := Lib.hid (Own.nil_ w w.heap.size)
  have HB := Lib.hid (Below.refl w.heap.size w)
  go_enter Tryd.func13, Tryd.ntmps13
  go_wp2_with fail
  go_loopw [3, 4] (fun v i wr => ∃ (k : Nat) (l : List Int) (A' : Option Addr) (c' : Nat), k ≤ n ∧ i = .int .i64 k ∧ v = .slice A' l.length c' ∧ stuffL (xs.take k) = l ∧ Own wr w.heap.size (.slice A' l.length c') l ∧ l.length ≤ c' ∧ c' ≤ maxLen ∧ Below w.heap.size w wr) (fun _ i _ => n - (intOf i).toNat)
  case atStart => exact ⟨0, [], none, 0, Nat.zero_le _, rfl, rfl, rfl, HR.out, by simp, by unfold maxLen; omega, HB.out⟩
  case round =>
    obtain ⟨k, l, A', c', hk, rfl, rfl, hst, hown, hc1, hc2, hB⟩ := hrel
    have hl5 := (stuffL_len (xs.take k) (fun b h => hb b (List.mem_of_mem_take h))).2
    rw [hst] at hl5
    have htk : (xs.take k).length ≤ k := List.length_take_le _ _
    have HS := Lib.hid hst
    clear hst
    by_cases hlt : k < n
    · have hr' := hr.below hB
      obtain ⟨b, off, hk', rfl, hcell⟩ := hr'.int hlt
      obtain ⟨hsr, hsb⟩ := stuff_ref xs hb k hk'
      rw [HS.out] at hsr hsb
      have HSB := Lib.hid hsb
      generalize xs[k] = x at *
      have hlx : (l ++ [x]).length = l.length + 1 := by simp
      by_cases hf : runF (l ++ [x]) = 5
      · have HF := Lib.hid hf
        rw [if_pos hf] at hsr
        have HSR := Lib.hid hsr
        clear hsr hf hsb
        go_wp2_with (at_builtin; refine wp_append_int wr rfl _ _ rfl w w.heap.size (.slice A' l.length c') l rfl hown x rfl (by omega) hB.size hB ?_; intro A1 c1 w1 ho1 hc3 hc4 hB1 _ _)
        rw [← hlx] at ho1 hc3 ⊢
        generalize hE : l ++ [x] = E at *
        have HEE := Lib.hid hE
        have HLX := Lib.hid hlx
        have hE9 : E.length ≤ 1000 := by omega
        clear hE hlx
        have HC4 := Lib.hid (Nat.le_trans hc3 hc4)
        go_wp2_with (first | (go_at_call 37; (with_reducible refine (five_any _ _ _ _ _ ho1.rds HC4.out HSB.out).mono ?_); rintro e w' ⟨rfl, rfl⟩; rw [HF.out]) | (at_builtin; refine wp_append_int w1 rfl _ _ rfl w w.heap.size (.slice A1 E.length c1) E rfl ho1 0 rfl (by omega) hB1.size hB1 ?_; intro A2 c2 w2 ho2 hc5 hc6 hB2 _ _))
        go_roundw
        case rel => exact ⟨k + 1, E ++ [0], A2, c2, by omega, by go_num, by simp, HSR.out, by simpa using ho2, by simpa using hc5, hc6, hB2⟩
        case measure => simp [intOf]; omega
      · have hf5 : (runF (l ++ [x]) == 5) = false := by rw [beq_eq_false_iff_ne]; exact hf
        rw [if_neg hf] at hsr
        have HSR := Lib.hid hsr
        clear hsr hf hsb
        go_wp2_with (at_builtin; refine wp_append_int wr rfl _ _ rfl w w.heap.size (.slice A' l.length c') l rfl hown x rfl (by omega) hB.size hB ?_; intro A1 c1 w1 ho1 hc3 hc4 hB1 _ _)
        rw [← hlx] at ho1 hc3 ⊢
        generalize hE : l ++ [x] = E at *
        have HEE := Lib.hid hE
        have HLX := Lib.hid hlx
        have hE9 : E.length ≤ 1000 := by omega
        clear hE hlx
        have HC4 := Lib.hid (Nat.le_trans hc3 hc4)
        go_wp2_with (go_at_call 37; (with_reducible refine (five_any _ _ _ _ _ ho1.rds HC4.out HSB.out).mono ?_); rintro e w' ⟨rfl, rfl⟩)
        go_roundw
        case rel => exact ⟨k + 1, E, A1, c1, by omega, by go_num, rfl, HSR.out, ho1, hc3, hc4, hB1⟩
        case measure => simp [intOf]; omega
    · go_wp2
      go_ret
      have he : stuffL xs = l := by
        have h1 := HS.out
        rwa [List.take_of_length_le (by rw [← HL.out]; omega)] at h1
      rw [RetOne, he]
      exact ⟨A', c', rfl, hown, hc1, hc2, hB⟩
/-- What the document's Unstuff hands back. -/
def RetDrop (W : World) (xs : List Int) (e : Ending) (w' : World) : Prop :=
  ∃ A c, e = .returned (.tuple #[.slice A (dropSt xs).1.length c, .bool (decide (stuffL (dropSt xs).1 = xs))]) ∧ Own w' W.heap.size (.slice A (dropSt xs).1.length c) (dropSt xs).1 ∧ (dropSt xs).1.length ≤ c ∧ c ≤ maxLen ∧ Below W.heap.size W w'
set_option maxHeartbeats 1000000 in
theorem refUnstuff_any (A : Option Addr) (n c : Nat) (xs : List Int) (w : World) (hr : Rds w 1 A n (ic xs)) (hl200 : n ≤ 200) (hb : Bits xs) :
    Calls Tryd.prog 19 #[.slice A n c] w (RetDrop w xs) := by
  have HL := Lib.hid hr.len_int
  have HR := Lib.hid (Own.nil_ w w.heap.size)
  have HB := Lib.hid (Below.refl w.heap.size w)
  go_enter Tryd.func19, Tryd.ntmps19
  go_wp2_with fail
  go_loopw [4, 5, 6] (fun v o i wr => ∃ (k : Nat) (l : List Int) (j : Int) (A' : Option Addr) (c' : Nat), k ≤ n ∧ i = .int .i64 k ∧ v = .slice A' l.length c' ∧ o = .int .i64 j ∧ dropSt (xs.take k) = (l, j) ∧ Own wr w.heap.size (.slice A' l.length c') l ∧ l.length ≤ c' ∧ c' ≤ maxLen ∧ Below w.heap.size w wr) (fun _ _ i _ => n - (intOf i).toNat)
  case atStart => exact ⟨0, [], 0, none, 0, Nat.zero_le _, rfl, rfl, rfl, rfl, HR.out, by simp, by unfold maxLen; omega, HB.out⟩
  case round =>
    obtain ⟨k, l, j, A', c', hk, rfl, rfl, rfl, hst, hown, hc1, hc2, hB⟩ := hrel
    obtain ⟨hj0, hj5, hll, hlb⟩ := drop_count (xs.take k) (fun b h => hb b (List.mem_of_mem_take h))
    rw [hst] at hj0 hj5 hll hlb
    simp only at hj0 hj5 hll hlb
    have htk : (xs.take k).length ≤ k := List.length_take_le _ _
    have HS := Lib.hid hst
    have HLB := Lib.hid hlb
    clear hst hlb
    by_cases hlt : k < n
    · obtain ⟨b, off, hk', rfl, hc0⟩ := hr.int hlt
      have hbl := cell_lt hc0
      have hcell := (hB.cell (p := ⟨b, off + k, none⟩) hbl).trans hc0
      have hsn := dropSt_snoc xs k hk'
      rw [HS.out] at hsn
      simp only [dropStep] at hsn
      have hbx := hb _ (List.getElem_mem hk')
      generalize xs[k] = x at *
      by_cases hf : j < 5
      · have hjf : (j == 5) = false := by rw [beq_eq_false_iff_ne]; omega
        rw [if_pos hf] at hsn
        rcases hbx with rfl | rfl
        · rw [if_pos (.inr rfl)] at hsn
          have HSN := Lib.hid hsn
          clear hsn
          go_wp2_with (at_builtin; refine wp_append_int wr rfl _ _ rfl w w.heap.size (.slice A' l.length c') l rfl hown 0 rfl (by omega) hB.size hB ?_; intro A1 c1 w1 ho1 hc3 hc4 hB1 _ _; have hcell1 := (hB1.cell (p := ⟨b, off + k, none⟩) hbl).trans hc0)
          go_roundw
          case rel => exact ⟨k + 1, l ++ [0], 0, A1, c1, by omega, by go_num, by simp, rfl, HSN.out, by simpa using ho1, by simpa using hc3, hc4, hB1⟩
          case measure => simp [intOf]; omega
        · rw [if_neg (by omega)] at hsn
          have HSN := Lib.hid hsn
          clear hsn
          go_wp2_with (at_builtin; refine wp_append_int wr rfl _ _ rfl w w.heap.size (.slice A' l.length c') l rfl hown 1 rfl (by omega) hB.size hB ?_; intro A1 c1 w1 ho1 hc3 hc4 hB1 _ _; have hcell1 := (hB1.cell (p := ⟨b, off + k, none⟩) hbl).trans hc0)
          go_roundw
          case rel => exact ⟨k + 1, l ++ [1], j + 1, A1, c1, by omega, by go_num, by simp, rfl, HSN.out, by simpa using ho1, by simpa using hc3, hc4, hB1⟩
          case measure => simp [intOf]; omega
      · obtain rfl : j = 5 := by omega
        rw [if_neg hf, if_pos (.inl rfl)] at hsn
        have HSN := Lib.hid hsn
        clear hsn
        go_wp2
        go_roundw
        case rel => exact ⟨k + 1, l, 0, A', c', by omega, by go_num, rfl, rfl, HSN.out, hown, hc1, hc2, hB⟩
        case measure => simp [intOf]; omega
    · have he : dropSt xs = (l, j) := by
        have h1 := HS.out
        rwa [List.take_of_length_le (by rw [← HL.out]; omega)] at h1
      have HE := Lib.hid he
      have hll2 : l.length ≤ 200 := by omega
      have hr2 := hr.below hB
      have hor := hown.rds
      have hsl := stuffL_len l HLB.out
      have hl1 := hsl.1
      have hl2 := hsl.2
      have HN1 : Hid ((stuffL l).length ≤ maxLen) := Lib.hid (by unfold maxLen; omega)
      have HN2 : Hid (n ≤ maxLen) := Lib.hid (by unfold maxLen; omega)
      clear he hsl
      go_wp2_with (first | (go_at_call 13; (with_reducible refine (refStuff_any _ _ _ _ _ hor hll2 HLB.out).mono ?_); rintro e w1 ⟨A1, c1, rfl, ho1, hd1, hd2, hb1⟩) | (go_at_call 38; (with_reducible refine (same_any _ _ _ _ _ _ _ _ _ ho1.rds (hr2.below hb1) HN1.out HN2.out).mono ?_); rintro e w2 ⟨rfl, q, rfl⟩))
      all_goals
        go_wp2
        go_ret2
        rw [RetDrop, HE.out]
        exact ⟨A', c', rfl, (hown.below hb1).below (below_drewN (Below.refl _ _) q), hc1, hc2, below_drewN (below_call hB hb1) q⟩
end Go.Proofs.YtbmajajndckfoaaDoor
