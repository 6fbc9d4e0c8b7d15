/- The contract of frag.Cut in one form; and that of frag.Again. -/
import Derived.Test.YtbmajajndckfoaaDoorFragCut
import Derived.Test.YtbmajajndckfoaaDoorErrW
namespace Go.Proofs.YtbmajajndckfoaaDoor
open Go.RowKit
/-- How many parts. -/
def cutM (t : ByteArray) (sz : Nat) : Nat := if t.size = 0 then 1 else (t.size + sz - 1) / sz
def cutE (t : ByteArray) (size : Int) : Int := if 200 < t.size then 4 else if inB size 1 200 = false then 1 else if 40 < cutM t size.toNat then 4 else 0
def cutV (t : ByteArray) (size : Int) : List Pt := if cutE t size = 0 then partsL t size.toNat (cutM t size.toNat) else []
theorem Cuts.unique {t : ByteArray} {sz m : Nat} (h : Cuts t sz m) (h0 : 1 ≤ sz) : m = cutM t sz := by
  have h1 := h.one
  have h2 := h.all
  unfold cutM
  by_cases ht : t.size = 0
  · rw [if_pos ht]
    rcases h.before with h3 | h3
    · exact h3
    · omega
  · rw [if_neg ht]
    symm
    rw [Nat.div_eq_iff (by omega)]
    rcases h.before with h3 | h3
    · subst h3
      simp only [Nat.one_mul] at h2
      constructor <;> omega
    · have h4 : (m - 1) * sz + sz = m * sz := by
        obtain ⟨j, rfl⟩ : ∃ j, m = j + 1 := ⟨m - 1, by omega⟩
        rw [Nat.add_sub_cancel, Nat.succ_mul]
      constructor <;> omega
theorem cuts_M (t : ByteArray) {sz : Nat} (h0 : 1 ≤ sz) : Cuts t sz (cutM t sz) := by
  unfold cutM
  by_cases ht : t.size = 0
  · rw [if_pos ht]
    exact ⟨Nat.le_refl _, .inl rfl, by omega⟩
  · rw [if_neg ht]
    have h1 := Nat.div_add_mod (t.size + sz - 1) sz
    have h2 := Nat.mod_lt (t.size + sz - 1) (show 0 < sz by omega)
    have h3 : 1 ≤ (t.size + sz - 1) / sz := by rw [Nat.le_div_iff_mul_le (by omega)]; omega
    generalize (t.size + sz - 1) / sz = q at *
    rw [Nat.mul_comm] at h1
    refine ⟨h3, .inr ?_, by omega⟩
    have h4 : (q - 1) * sz + sz = q * sz := by
      obtain ⟨j, rfl⟩ : ∃ j, q = j + 1 := ⟨q - 1, by omega⟩
      rw [Nat.add_sub_cancel, Nat.succ_mul]
    omega
theorem cutE_ok {t : ByteArray} {size : Int} (h : cutE t size = 0) : ∃ sz : Nat, size = (sz : Int) ∧ 1 ≤ sz ∧ sz ≤ 200 ∧ t.size ≤ 200 ∧ cutM t sz ≤ 40 ∧ cutV t size = partsL t sz (cutM t sz) ∧ Cuts t sz (cutM t sz) := by
  have h0 := h
  unfold cutE at h
  split at h
  · omega
  split at h
  · omega
  rename_i h1 h2
  split at h
  · omega
  rename_i h3
  obtain ⟨g1, g2⟩ := inB_true.1 (Bool.of_not_eq_false h2)
  refine ⟨size.toNat, by omega, by omega, by omega, by omega, by omega, by unfold cutV; rw [if_pos h0], cuts_M t (by omega)⟩
theorem cutV_bad {t : ByteArray} {size : Int} (h : cutE t size ≠ 0) : cutV t size = [] := by unfold cutV; rw [if_neg h]
theorem bad_cutE {t : ByteArray} {size k : Int} (h : CutBad t size k) : cutE t size = k ∧ k ≠ 0 := by
  unfold cutE
  rcases h with ⟨rfl, h1⟩ | ⟨rfl, h1, h2⟩ | ⟨rfl, m, sz, rfl, h1, h2, h3, h4, h5⟩
  · rw [if_pos h1]; exact ⟨rfl, by omega⟩
  · rw [if_neg (by omega), if_pos h2]; exact ⟨rfl, by omega⟩
  · rw [if_neg (by omega), if_neg, if_pos]
    · exact ⟨rfl, by omega⟩
    · rw [Int.toNat_natCast, ← h5.unique h1]; exact h4
    · rw [inB_true.2 ⟨by omega, by omega⟩]; simp
/-- What a function hands back: parts of the call's own, an error. -/
def RetQ (W : World) (ps : List Pt) (err : Value) (e : Ending) (w' : World) : Prop :=
  ∃ A c, e = .returned (.tuple #[.slice A ps.length c, err]) ∧ OwnQ w' W.heap.size (.slice A ps.length c) ps ∧ Below W.heap.size W w'
theorem cut_law (t : ByteArray) (size : Int) (w : World) (hm : t.size ≤ maxLen) :
    Calls Tryd.prog 7 #[.string t, .int .i64 size] w (RetQ w (cutV t size) (errV (cutE t size))) := by
  refine (cut_any t size w hm).mono ?_
  rintro e w' (⟨k, hk, rfl, hb⟩ | ⟨m, sz, A, c, rfl, hm, ht, rfl, s1, s2, hcut, ho, hb⟩)
  · obtain ⟨h1, h2⟩ := bad_cutE hk
    rw [cutV_bad (by rw [h1]; exact h2), h1, errV_ne h2]
    exact ⟨none, 0, rfl, OwnQ.nil_ _ _, hb⟩
  · have hM := hcut.unique s1
    have h1 : cutE t (sz : Int) = 0 := by
      unfold cutE
      rw [if_neg (by omega), if_neg, if_neg]
      · rw [Int.toNat_natCast, ← hM]; omega
      · rw [inB_true.2 ⟨by omega, by omega⟩]; simp
    have h2 : cutV t (sz : Int) = partsL t sz m := by unfold cutV; rw [if_pos h1, Int.toNat_natCast, ← hM]
    rw [h1, h2, errV_zero]
    have hl : (partsL t sz m).length = m := partsL_len _ _ _
    unfold RetQ
    rw [hl]
    exact ⟨A, c, rfl, ho, hb⟩
end Go.Proofs.YtbmajajndckfoaaDoor
