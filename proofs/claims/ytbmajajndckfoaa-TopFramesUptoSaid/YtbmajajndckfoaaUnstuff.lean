/- Contracts of package stuff: unstuff and Unstuff, and Stuff where its bits are wrong. -/
import Derived.Test.YtbmajajndckfoaaStuff
namespace Go.Proofs.Ytbmajajndckfoaa
open Go.RowKit

theorem stuff_err (A : Option Addr) (n c : Nat) (xs : List Int) (k : Int) (w : World) (hr : Rds w 1 A n (ic xs)) (hn : n ≤ maxLen) (h : bitsE xs = k) (hk : k ≠ 0) :
    Calls Try.prog 11 #[.slice A n c] w fun e w' => e = .returned (.tuple #[.slice none 0 0, .iface 59 (.int .i64 k)]) ∧ w = w' := by
  have HN := Lib.hid hn
  have HE := Lib.hid h
  have HK := Lib.hid hk
  clear hn h hk
  go_enter Try.func11, Try.ntmps11
  go_wp2_with (go_at_call 27; refine (check_err _ _ _ _ _ _ hr HN.out HE.out HK.out).mono ?_; rintro e w' ⟨rfl, rfl⟩)
  go_ret2
  exact ⟨rfl, rfl⟩

/-- What unstuffing gives: the bits, and whether a nought stood behind each five ones. -/
def unL (xs : List Int) : Option (List Int) :=
  match unstuffSt xs with
  | none => none
  | some (o, k) => if k < 5 then some o else none
theorem unL_stuff (xs : List Int) (hb : Bits xs) : unL (stuffL xs) = some xs := by
  obtain ⟨k, h5, e⟩ := stuffL_back xs hb
  unfold unL; rw [e]; simp [h5]
theorem unstuffStep_none (xs : List Int) : xs.foldl unstuffStep none = none := by
  induction xs with
  | nil => rfl
  | cons b t ih => exact ih
theorem unstuffSt_none (xs : List Int) (k : Nat) (h : unstuffSt (xs.take k) = none) : unstuffSt xs = none := by
  have : xs = xs.take k ++ xs.drop k := (List.take_append_drop k xs).symm
  unfold unstuffSt at h ⊢
  rw [this, List.foldl_append, h, unstuffStep_none]

/-- What unstuff hands back. -/
def RetUn (W : World) (xs : List Int) (e : Ending) (w' : World) : Prop :=
  (∃ l A c, unL xs = some l ∧ e = .returned (.tuple #[.slice A l.length c, .bool true]) ∧ Own w' W.heap.size (.slice A l.length c) l ∧ l.length ≤ c ∧ c ≤ maxLen ∧ Below W.heap.size W w') ∨
  (unL xs = none ∧ ∃ v, e = .returned (.tuple #[v, .bool false]) ∧ Below W.heap.size W w')

set_option maxHeartbeats 1000000 in
theorem unstuff_any (A : Option Addr) (n c : Nat) (xs : List Int) (w : World) (hr : Rds w 1 A n (ic xs)) (hb : Bits xs) (hl200 : n ≤ 100000) :
    Calls Try.prog 28 #[.slice A n c] w (RetUn w xs) := by
  have HL := Lib.hid hr.len_int
  have HR := Lib.hid (Own.nil_ w w.heap.size)
  have HB := Lib.hid (Below.refl w.heap.size w)
  go_enter Try.func28, Try.ntmps28
  go_wp2_with fail
  go_loopw [4, 5, 7, 10] (fun v o _ i wr => ∃ (k : Nat) (l : List Int) (j : Int) (A' : Option Addr) (c' : Nat), k ≤ n ∧ i = .int .i64 k ∧ v = .slice A' l.length c' ∧ o = .int .i64 j ∧ unstuffSt (xs.take k) = some (l, j) ∧ Own wr w.heap.size (.slice A' l.length c') l ∧ l.length ≤ c' ∧ c' ≤ maxLen ∧ Below w.heap.size w wr) (fun _ _ _ i _ => n - (intOf i).toNat)
  case atStart => exact ⟨0, [], 0, none, 0, Nat.zero_le _, rfl, rfl, rfl, rfl, HR.out, by simp, by unfold maxLen; omega, HB.out⟩
  case round =>
    obtain ⟨k, l, j, A', c', hk, rfl, rfl, rfl, hst, hown, hc1, hc2, hB⟩ := hrel
    obtain ⟨hj0, hj5, hll, _⟩ := unstuff_count (xs.take k) (fun b h => hb b (List.mem_of_mem_take h)) _ _ hst
    have htk : (xs.take k).length ≤ k := List.length_take_le _ _
    have HS := Lib.hid hst
    clear hst
    by_cases hlt : k < n
    · have hr' := hr.below hB
      obtain ⟨b, off, hk', rfl, hcell⟩ := hr'.int hlt
      have hsn := unstuffSt_snoc xs k hk'
      rw [HS.out] at hsn
      simp only [unstuffStep] at hsn
      by_cases hf : j = 5
      · subst hf
        rcases hb _ (List.getElem_mem hk') with hz | hz
        · rw [hz] at hcell hsn
          simp only [if_pos] at hsn
          rw [if_neg (by omega)] at hsn
          have HSN := Lib.hid hsn
          clear hz hsn
          go_wp2
          go_roundw
          case rel => exact ⟨k + 1, l, 0, A', c', by omega, by go_num, rfl, rfl, HSN.out, hown, hc1, hc2, hB⟩
          case measure => simp [intOf]; omega
        · rw [hz] at hcell hsn
          simp only [if_pos] at hsn
          have HSN := Lib.hid (unstuffSt_none xs (k + 1) hsn)
          clear hz hsn
          go_wp2
          go_ret2
          refine .inr ⟨by unfold unL; rw [HSN.out], _, rfl, hB⟩
      · have hf5 : (j == 5) = false := by rw [beq_eq_false_iff_ne]; exact hf
        rw [if_neg hf] at hsn
        rcases hb _ (List.getElem_mem hk') with hz | hz
        · rw [hz] at hcell hsn
          rw [Int.mul_zero] at hsn
          have HSN := Lib.hid hsn
          clear hz hsn
          go_wp2_with (at_builtin; refine wp_append_int wr rfl _ _ rfl w w.heap.size (.slice A' l.length c') l rfl hown 0 rfl (by omega) hB.size hB ?_; intro A1 c1 w1 ho1 hc3 hc4 hB1 _ _)
          go_roundw
          case rel => exact ⟨k + 1, l ++ [0], 0, A1, c1, by omega, by go_num, by simp, rfl, HSN.out, by simpa using ho1, by simpa using hc3, hc4, hB1⟩
          case measure => simp [intOf]; omega
        · rw [hz] at hcell hsn
          rw [Int.mul_one] at hsn
          have HSN := Lib.hid hsn
          clear hz hsn
          go_wp2_with (at_builtin; refine wp_append_int wr rfl _ _ rfl w w.heap.size (.slice A' l.length c') l rfl hown 1 rfl (by omega) hB.size hB ?_; intro A1 c1 w1 ho1 hc3 hc4 hB1 _ _)
          go_roundw
          case rel => exact ⟨k + 1, l ++ [1], j + 1, A1, c1, by omega, by go_num, by simp, rfl, HSN.out, by simpa using ho1, by simpa using hc3, hc4, hB1⟩
          case measure => simp [intOf]; omega
    · have he : unstuffSt xs = some (l, j) := by
        have h1 := HS.out
        rwa [List.take_of_length_le (by rw [← HL.out]; omega)] at h1
      have HE := Lib.hid he
      clear he
      by_cases h5 : j < 5
      · go_wp2
        go_ret2
        refine .inl ⟨l, A', c', by unfold unL; rw [HE.out]; simp [h5], rfl, hown, hc1, hc2, hB⟩
      · have h5' : decide (j < 5) = false := by simp; omega
        go_wp2
        go_ret2
        refine .inr ⟨by unfold unL; rw [HE.out]; simp; omega, _, rfl, hB⟩

theorem bits_of_ok {xs : List Int} (h : bitsE xs = 0) : Bits xs ∧ xs.length ≤ 200 := by
  unfold bitsE at h
  split at h
  · cases h
  split at h
  · exact ⟨bits_of_all.1 (by assumption), by omega⟩
  · cases h
theorem bitsE_ok {xs : List Int} (h : Bits xs) (hl : xs.length ≤ 200) : bitsE xs = 0 := by
  unfold bitsE
  rw [if_neg (by omega), if_pos (bits_of_all.2 h)]

theorem unstuffGo_ok (A : Option Addr) (n c : Nat) (xs l : List Int) (w : World) (hr : Rds w 1 A n (ic xs)) (hn : n ≤ maxLen) (h : bitsE xs = 0) (hu : unL xs = some l) :
    Calls Try.prog 13 #[.slice A n c] w (RetOwn w l .nilIface) := by
  have hL := hr.len_int
  obtain ⟨hb, hl⟩ := bits_of_ok h
  have hl200 : n ≤ 100000 := by omega
  have HN := Lib.hid hn
  have HE := Lib.hid h
  have HU := Lib.hid hu
  have HB := Lib.hid hb
  clear hn h hu hL hb hl
  go_enter Try.func13, Try.ntmps13
  go_wp2_with fail
  (go_at_call 27; refine (check_ok _ _ _ _ _ hr HN.out HE.out).mono ?_; rintro e w' ⟨rfl, rfl⟩)
  go_wp2_with fail
  refine (unstuff_any _ _ _ _ _ hr HB.out hl200).mono ?_
  rintro e w1 (⟨l', A', c', hu', rfl, ho, hc1, hc2, hB⟩ | ⟨hu', v, rfl, hB⟩)
  · have : l' = l := by have := HU.out; rw [this] at hu'; injection hu' with hu'; exact hu'.symm
    subst this
    clear hu'
    go_wp2
    go_ret2
    exact ⟨A', c', rfl, ho, hc1, hc2, hB⟩
  · rw [HU.out] at hu'; cases hu'
theorem unstuffGo_bad (A : Option Addr) (n c : Nat) (xs : List Int) (w : World) (hr : Rds w 1 A n (ic xs)) (hn : n ≤ maxLen) (h : bitsE xs = 0) (hu : unL xs = none) :
    Calls Try.prog 13 #[.slice A n c] w fun e w' => e = .returned (.tuple #[.slice none 0 0, .iface 59 (.int .i64 2)]) ∧ Below w.heap.size w w' := by
  have hL := hr.len_int
  obtain ⟨hb, hl⟩ := bits_of_ok h
  have hl200 : n ≤ 100000 := by omega
  have HN := Lib.hid hn
  have HE := Lib.hid h
  have HU := Lib.hid hu
  have HB := Lib.hid hb
  clear hn h hu hL hb hl
  go_enter Try.func13, Try.ntmps13
  go_wp2_with fail
  (go_at_call 27; refine (check_ok _ _ _ _ _ hr HN.out HE.out).mono ?_; rintro e w' ⟨rfl, rfl⟩)
  go_wp2_with fail
  refine (unstuff_any _ _ _ _ _ hr HB.out hl200).mono ?_
  rintro e w1 (⟨l', A', c', hu', rfl, ho, hc1, hc2, hB⟩ | ⟨hu', v, rfl, hB⟩)
  · rw [HU.out] at hu'; cases hu'
  · clear hu'
    go_wp2
    go_ret2
    exact ⟨rfl, hB⟩
theorem unstuffGo_err (A : Option Addr) (n c : Nat) (xs : List Int) (k : Int) (w : World) (hr : Rds w 1 A n (ic xs)) (hn : n ≤ maxLen) (h : bitsE xs = k) (hk : k ≠ 0) :
    Calls Try.prog 13 #[.slice A n c] w fun e w' => e = .returned (.tuple #[.slice none 0 0, .iface 59 (.int .i64 k)]) ∧ w = w' := by
  have HN := Lib.hid hn
  have HE := Lib.hid h
  have HK := Lib.hid hk
  clear hn h hk
  go_enter Try.func13, Try.ntmps13
  go_wp2_with (go_at_call 27; refine (check_err _ _ _ _ _ _ hr HN.out HE.out HK.out).mono ?_; rintro e w' ⟨rfl, rfl⟩)
  go_ret2
  exact ⟨rfl, rfl⟩
end Go.Proofs.Ytbmajajndckfoaa
