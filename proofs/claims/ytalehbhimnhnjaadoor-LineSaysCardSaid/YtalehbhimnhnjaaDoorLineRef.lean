/- The contracts of the document's Bits, Same, Code, Number. -/
import Derived.Test.YtalehbhimnhnjaaDoorRefAll
import Derived.Test.YtalehbhimnhnjaaDoorFour
import Derived.Test.YtalehbhimnhnjaaDoorLawHelp
import Derived.Test.YtalehbhimnhnjaaDoorInts
import Derived.Outline
namespace Go.Proofs.YtalehbhimnhnjaaDoor
open Go.RowKit

theorem refBits_any (A : Option Addr) (n c : Nat) (xs : List Int) (w : World) (hr : Rds w 1 A n (ic xs)) (hn : n ≤ maxLen) :
    Calls Tryd.prog 32 #[.slice A n c, .int .i64 200] w fun e w' => e = .returned (.int .i64 (bitsE xs)) ∧ w = w' := by
  have hl := hr.len_int
  have HN := Lib.hid hn
  unfold maxLen at hn
  by_cases h : (200 : Int) < (n : Int)
  · have HE := Lib.hid (show bitsE xs = 4 from by unfold bitsE; rw [if_pos (by omega)])
    clear hl
    rw [HE.out]
    go_enter Tryd.func32, Tryd.ntmps32
    go_wp2
    go_ret
    exact ⟨rfl, rfl⟩
  · rcases ha : allB xs 0 1 with _ | _
    · have HE := Lib.hid (show bitsE xs = 1 from by unfold bitsE; rw [if_neg (by omega), if_neg (by rw [ha]; simp)])
      clear hl
      rw [HE.out]
      go_enter Tryd.func32, Tryd.ntmps32
      go_wp2_with (go_at_call 20; refine (refAll_any _ _ _ _ _ _ _ hr HN.out).mono ?_; rintro e w' ⟨rfl, rfl⟩; rw [ha])
      go_ret
      exact ⟨rfl, rfl⟩
    · have HE := Lib.hid (show bitsE xs = 0 from by unfold bitsE; rw [if_neg (by omega), if_pos ha])
      clear hl
      rw [HE.out]
      go_enter Tryd.func32, Tryd.ntmps32
      go_wp2_with (go_at_call 20; refine (refAll_any _ _ _ _ _ _ _ hr HN.out).mono ?_; rintro e w' ⟨rfl, rfl⟩; rw [ha])
      go_ret
      exact ⟨rfl, rfl⟩

theorem same_any (A B : Option Addr) (n c m d : Nat) (xs ys : List Int) (w : World) (hx : Rds w 1 A n (ic xs)) (hy : Rds w 1 B m (ic ys)) (hn : n ≤ maxLen) (hm : m ≤ maxLen) :
    Calls Tryd.prog 44 #[.slice A n c, .slice B m d] w fun e w' => e = .returned (.bool (decide (xs = ys))) ∧ ∃ k, w' = w.drewN k := by
  have HX := Lib.hid hx.len_int
  have HY := Lib.hid hy.len_int
  unfold maxLen at hn hm
  by_cases hnm : n = m
  · subst hnm
    go_enter Tryd.func44, Tryd.ntmps44
    go_wp2_with fail
    go_loopw [5] (fun i wr => ∃ k q : Nat, k ≤ n ∧ i = .int .i64 k ∧ wr = w.drewN q ∧ xs.take k = ys.take k) (fun i _ => n - (intOf i).toNat)
    case atStart => exact ⟨0, 0, Nat.zero_le _, rfl, rfl, rfl⟩
    case round =>
      obtain ⟨k, q, hk, rfl, rfl, hall⟩ := hrel
      have HA := Lib.hid hall
      clear hall
      by_cases hlt : k < n
      · obtain ⟨b, off, hk', rfl, hcell⟩ := hx.int hlt
        obtain ⟨b2, off2, hk2, rfl, hcell2⟩ := hy.int hlt
        by_cases he : xs[k] = ys[k]
        · have he1 : (xs[k] != ys[k]) = false := by simpa using he
          have HE := Lib.hid he
          clear he
          go_wp2
          go_quiet (fail)
          go_wp2
          go_roundw
          case rel =>
            refine ⟨k + 1, _, by omega, by go_num, rfl, ?_⟩
            rw [List.take_succ_eq_append_getElem hk', List.take_succ_eq_append_getElem hk2, HA.out, HE.out]
          case measure => simp [intOf]; omega
        · have he1 : (xs[k] != ys[k]) = true := by simpa using he
          have HE := Lib.hid he
          clear he
          go_wp2
          go_quiet (fail)
          go_wp2
          go_ret
          exact ⟨ret_eq (bool_eq (by symm; rw [decide_eq_false_iff_not]; intro e; exact HE.out (by simp only [e]))), q + _, World.drewN_drewN _ _ _⟩
      · go_wp2
        go_ret
        refine ⟨ret_eq (bool_eq ?_), q, rfl⟩
        symm
        rw [decide_eq_true_iff]
        have h1 := HA.out
        have hx' := HX.out
        have hy' := HY.out
        rwa [List.take_of_length_le (by omega), List.take_of_length_le (by omega)] at h1
  · have hne : ((n : Int) != (m : Int)) = true := by rw [bne_iff_ne]; omega
    go_enter Tryd.func44, Tryd.ntmps44
    go_wp2
    go_ret
    refine ⟨ret_eq (bool_eq ?_), 0, rfl⟩
    symm
    rw [decide_eq_false_iff_not]
    rintro rfl
    exact hnm (HX.out.trans HY.out.symm)

def allS : ByteArray := ⟨#[49, 49, 49, 49, 48, 32, 48, 49, 48, 48, 49, 32, 49, 48, 49, 48, 48, 32, 49, 48, 49, 48, 49, 32, 48, 49, 48, 49, 48, 32, 48, 49, 48, 49, 49, 32, 48, 49, 49, 49, 48, 32, 48, 49, 49, 49, 49, 32, 49, 48, 48, 49, 48, 32, 49, 48, 48, 49, 49, 32, 49, 48, 49, 49, 48, 32, 49, 48, 49, 49, 49, 32, 49, 49, 48, 49, 48, 32, 49, 49, 48, 49, 49, 32, 49, 49, 49, 48, 48, 32, 49, 49, 49, 48, 49]⟩
set_option maxHeartbeats 1000000 in
theorem code_any (m : Nat) (hm : m < 16) (w : World) :
    Calls Tryd.prog 31 #[.int .i64 m] w (RetInts w (five m)) := by
  have hB := Below.refl w.heap.size w
  have HFL : Hid ((five (m : Int)).length = 5) := Lib.hid rfl
  go_enter Tryd.func31, Tryd.ntmps31
  go_wp2_with fail
  generalize hs : (ByteArray.mk _) = s
  have hsz : s.size = 95 := by rw [← hs]; rfl
  have HS : Hid (∀ j : Nat, j < 5 → ∃ h : 6 * m + j < s.size, (s[6 * m + j].toNat : Int) = 48 + (five (m : Int)).getD j 0) := Lib.hid (by
    subst hs
    have : ∀ m : Fin 16, ∀ j : Fin 5, ∃ h : 6 * m.val + j.val < allS.size, (allS[6 * m.val + j.val].toNat : Int) = 48 + (five (m.val : Int)).getD j.val 0 := by decide +kernel
    intro j hj
    exact this ⟨m, hm⟩ ⟨j, hj⟩)
  have hsz2 : s.size ≤ 95 := by omega
  have hsz3 : 95 ≤ s.size := by omega
  clear hs hsz
  go_loopw [4, 5] (fun v i wr => ∃ (j : Nat) (A1 : Option Addr) (c1 : Nat), j ≤ 5 ∧ i = .int .i64 j ∧ v = .slice A1 j c1 ∧ Own wr w.heap.size (.slice A1 j c1) ((five (m : Int)).take j) ∧ j ≤ c1 ∧ c1 ≤ maxLen ∧ Below w.heap.size w wr) (fun _ i _ => 5 - (intOf i).toNat)
  case atStart => exact ⟨0, none, 0, by omega, rfl, rfl, Own.nil_ _ _, by omega, by unfold maxLen; omega, hB⟩
  case round =>
    obtain ⟨j, A1, c1, hj, rfl, rfl, hown, hc1, hc2, hB1⟩ := hrel
    by_cases hlt : j < 5
    · obtain ⟨h6, h7⟩ := HS.out j hlt
      have HZ : Hid ((five (m : Int)).take (j + 1) = (five (m : Int)).take j ++ [(five (m : Int)).getD j 0]) := Lib.hid (by
        rw [List.take_succ_eq_append_getElem (by rw [HFL.out]; exact hlt)]
        simp [List.getD_eq_getElem?_getD, List.getElem?_eq_getElem (show j < (five (m : Int)).length by rw [HFL.out]; exact hlt)])
      have HTL := Lib.hid (show ((five (m : Int)).take j).length = j from by rw [List.length_take, HFL.out]; omega)
      have H7 := Lib.hid h7
      clear h7
      have h60 : (6 : Int) * m + j < s.size := by omega
      have HV : Hid (wrap64 (wrap64 (s[6 * m + j].toNat : Int) - 48) = (five (m : Int)).getD j 0) := Lib.hid (by
        have hb : (s[6 * m + j].toNat : Int) < 256 := by have := s[6 * m + j].toNat_lt; omega
        have h0 : (0 : Int) ≤ (s[6 * m + j].toNat : Int) := by omega
        have hw1 : wrap64 (s[6 * m + j].toNat : Int) = (s[6 * m + j].toNat : Int) := IntWalk.wrap64_in _ ⟨by omega, by omega⟩
        rw [hw1, H7.out]
        have hr : -48 ≤ (five (m : Int)).getD j 0 ∧ (five (m : Int)).getD j 0 < 208 := by have := H7.out; omega
        generalize (five (m : Int)).getD j 0 = z at *
        rw [show (48 : Int) + z - 48 = z from by omega]
        exact IntWalk.wrap64_in _ ⟨by omega, by omega⟩)
      go_wp2_with (at_builtin; refine wp_append_int wr rfl _ _ rfl w w.heap.size (.slice A1 j c1) ((five (m : Int)).take j) rfl hown (wrap64 (wrap64 (s[6 * m + j].toNat : Int) - 48)) rfl (by rw [HTL.out]; omega) hB1.size hB1 ?_; intro A2 c2 w1 ho1 hc3 hc4 hB2 _ _; rw [HTL.out] at ho1 hc3; rw [HV.out, ← HZ.out] at ho1)
      go_roundw
      case rel => exact ⟨j + 1, A2, c2, by omega, by go_num, slice_eq (by have := HFL.out; omega), ho1, hc3, hc4, hB2⟩
      case measure => simp [intOf]; omega
    · obtain rfl : j = 5 := by omega
      go_wp2
      go_ret
      rw [List.take_of_length_le (by rw [HFL.out]; omega)] at hown
      exact ⟨A1, c1, rfl, hown, hc1, hc2, hB1⟩

/-! ### The number of five bits -/
def NumP (l : List Int) : Prop := (∃ k : Fin 16, five (k.val : Int) = l ∧ idxI (num5 l) codesL = (k.val : Int)) ∨ (idxI (num5 l) codesL = -1 ∧ ∀ j : Fin 16, five (j.val : Int) ≠ l)
instance (l : List Int) : Decidable (NumP l) := by unfold NumP; infer_instance
theorem num_all : ∀ a b c d e : Fin 2, NumP [(a.val : Int), (b.val : Int), (c.val : Int), (d.val : Int), (e.val : Int)] := by decide +kernel
theorem bit_fin {z : Int} (h : z = 0 ∨ z = 1) : ∃ a : Fin 2, z = (a.val : Int) := by
  rcases h with rfl | rfl
  · exact ⟨0, rfl⟩
  · exact ⟨1, rfl⟩
theorem num_bits {l : List Int} (hb : Bits l) (h5 : l.length = 5) : NumP l := by
  match l, h5 with
  | [a, b, c, d, e], _ =>
    obtain ⟨a', rfl⟩ := bit_fin (hb a (by simp))
    obtain ⟨b', rfl⟩ := bit_fin (hb b (by simp))
    obtain ⟨c', rfl⟩ := bit_fin (hb c (by simp))
    obtain ⟨d', rfl⟩ := bit_fin (hb d (by simp))
    obtain ⟨e', rfl⟩ := bit_fin (hb e (by simp))
    exact num_all a' b' c' d' e'
theorem number_any (A : Option Addr) (c : Nat) (xs : List Int) (w : World) (hr : Rds w 1 A 5 (ic xs)) (hb : Bits xs) :
    Calls Tryd.prog 33 #[.slice A 5 c] w fun e w' => e = .returned (.int .i64 (idxI (num5 xs) codesL)) ∧ Below w.heap.size w w' := by
  have hl : xs.length = 5 := hr.len_int.symm
  have HP := Lib.hid (num_bits hb hl)
  have hB := Below.refl w.heap.size w
  clear hb hl
  unfold NumP at HP
  generalize idxI (num5 xs) codesL = z at *
  go_enter Tryd.func33, Tryd.ntmps33
  go_wp2_with fail
  go_loopw [3] (fun i wr => ∃ k : Nat, k ≤ 16 ∧ i = .int .i64 k ∧ Hid (∀ j : Nat, j < k → five (j : Int) ≠ xs) ∧ Below w.heap.size w wr) (fun i _ => 16 - (intOf i).toNat)
  case atStart => exact ⟨0, by omega, rfl, Lib.hid (fun j hj => by omega), hB⟩
  case round =>
    obtain ⟨k, hk, rfl, HK, hB2⟩ := hrel
    by_cases hlt : k < 16
    · go_wp2_with fail
      (with_reducible refine (code_any k hlt _).mono ?_)
      rintro e w1 ⟨A1, c1, rfl, ho1, hc1, hc2, hb1⟩
      have hB3 := below_call hB2 hb1
      have hr1 := ho1.rds
      have hrx := hr.below hB3
      have hl5 : (five (k : Int)).length = 5 := rfl
      rw [hl5] at hr1 hc1 ⊢
      clear ho1 hb1 hl5
      by_cases hf : five (k : Int) = xs
      · have hd : decide (five (k : Int) = xs) = true := decide_eq_true hf
        have HZ : Hid (z = (k : Int)) := Lib.hid (by
          rcases HP.out with ⟨j, h1, h2⟩ | ⟨_, h2⟩
          · rw [h2]
            have e1 : five (j.val : Int) = five (k : Int) := h1.trans hf.symm
            have inj : ∀ a b : Fin 16, five (a.val : Int) = five (b.val : Int) → a = b := by decide +kernel
            have := inj j ⟨k, hlt⟩ e1
            rw [this]
          · exact absurd hf (h2 ⟨k, hlt⟩))
        clear hf
        go_wp2_with fail
        (with_reducible refine (same_any _ _ _ _ _ _ _ xs _ hr1 hrx (by unfold maxLen; omega) (by unfold maxLen; omega)).mono ?_)
        rintro e w2 ⟨rfl, q, rfl⟩
        rw [hd]
        go_wp2
        go_ret
        exact ⟨ret_int HZ.out.symm, below_drewN hB3 q⟩
      · have hd : decide (five (k : Int) = xs) = false := decide_eq_false hf
        have HF := Lib.hid hf
        clear hf
        go_wp2_with fail
        (with_reducible refine (same_any _ _ _ _ _ _ _ xs _ hr1 hrx (by unfold maxLen; omega) (by unfold maxLen; omega)).mono ?_)
        rintro e w2 ⟨rfl, q, rfl⟩
        rw [hd]
        go_wp2
        go_roundw
        case rel =>
          refine ⟨k + 1, by omega, by go_num, Lib.hid (fun j hj => ?_), below_drewN hB3 q⟩
          rcases Nat.lt_or_ge j k with h | h
          · exact HK.out j h
          · obtain rfl : j = k := by omega
            exact HF.out
        case measure => simp [intOf]; omega
    · obtain rfl : k = 16 := by omega
      go_wp2
      go_ret
      refine ⟨ret_int ?_, hB2⟩
      rcases HP.out with ⟨j, h1, h2⟩ | ⟨h1, _⟩
      · exact absurd h1 (HK.out j.val j.isLt)
      · exact h1.symm
end Go.Proofs.YtalehbhimnhnjaaDoor
