/- The document's table of routes: the place of a prefix (R.Routes.at). -/
import Derived.Test.YtfgpppgehbpblaaDoorHadB
import Derived.Test.YtfgpppgehbpblaaDoorRRow
import Derived.Test.YtfgpppgehbpblaaDoorLpmFind
import Derived.BigQuiet
import Derived.Deep.DrawnRows
namespace Go.Proofs.YtfgpppgehbpblaaDoor
open Go.RowKit Lp
attribute [local go_sem ↓] Go.wp_at_zero Go.wp_at_succ
theorem ltR_trans {x y z : Rt} (h1 : LtR x y) (h2 : LtR y z) : LtR x z := by
  unfold LtR at *
  omega
/-- A sorted list, split at the place of a key. -/
theorem at_split {xs : List Rt} (hs : xs.Pairwise LtR) {a l : Int} {i : Nat} (hi : i < xs.length) (hlt : ∀ x ∈ xs.take i, LtR x (a, l, 0)) (hge : ¬ LtR xs[i] (a, l, 0)) :
    ltF xs a l = xs.take i ∧ gtF xs a l = xs.drop (if (xs[i].1 == a && xs[i].2.1 == l) = true then i + 1 else i) ∧ hadB xs a l = (xs[i].1 == a && xs[i].2.1 == l) := by
  have e : xs = xs.take i ++ (xs[i] :: xs.drop (i + 1)) := by rw [← List.drop_eq_getElem_cons hi, List.take_append_drop]
  have hs2 := hs
  rw [e, List.pairwise_append, List.pairwise_cons] at hs2
  obtain ⟨_, ⟨h1, _⟩, h2⟩ := hs2
  generalize hx : xs[i] = x at *
  have hgt : ∀ y ∈ xs.drop (i + 1), LtR (a, l, 0) y := fun y hy => by
    have := h1 y hy
    unfold LtR at *
    simp only at *
    omega
  have n1 : ∀ y, LtR y (a, l, 0) → ¬ LtR (a, l, 0) y := fun y h => by unfold LtR at *; simp only at *; omega
  have n2 : ∀ y, LtR (a, l, 0) y → ¬ LtR y (a, l, 0) := fun y h => by unfold LtR at *; simp only at *; omega
  refine ⟨?_, ?_, ?_⟩
  · unfold ltF
    conv => lhs; rw [e]
    rw [List.filter_append, List.filter_cons_of_neg (by simpa using hge), List.filter_eq_self.2 (fun y hy => decide_eq_true (hlt y hy)), List.filter_eq_nil_iff.2 (fun y hy => by simpa using n2 y (hgt y hy)), List.append_nil]
  · unfold gtF
    conv => lhs; rw [e]
    rw [List.filter_append, List.filter_eq_nil_iff.2 (fun y hy => by simpa using n1 y (hlt y hy)), List.nil_append]
    by_cases hq : (x.1 == a && x.2.1 == l) = true
    · rw [if_pos hq]
      rw [Bool.and_eq_true, beq_iff_eq, beq_iff_eq] at hq
      rw [List.filter_cons_of_neg (by simp only [decide_eq_true_eq]; unfold LtR; simp only; omega), List.filter_eq_self.2 (fun y hy => decide_eq_true (hgt y hy))]
    · rw [if_neg hq]
      have hxg : LtR (a, l, 0) x := by
        rw [Bool.and_eq_true, beq_iff_eq, beq_iff_eq] at hq
        unfold LtR at *
        simp only at *
        omega
      rw [List.filter_cons_of_pos (p := fun x => decide (LtR (a, l, 0) x)) (decide_eq_true hxg), List.filter_eq_self.2 (fun y hy => decide_eq_true (hgt y hy)), List.drop_eq_getElem_cons hi, hx]
  · unfold hadB
    conv => lhs; rw [e]
    have f1 : (xs.take i).any (fun t => t.1 == a && t.2.1 == l) = false := by
      rw [List.any_eq_false]
      intro y hy hq
      rw [Bool.and_eq_true, beq_iff_eq, beq_iff_eq] at hq
      have := hlt y hy
      unfold LtR at this
      simp only at this
      omega
    have f2 : (xs.drop (i + 1)).any (fun t => t.1 == a && t.2.1 == l) = false := by
      rw [List.any_eq_false]
      intro y hy hq
      rw [Bool.and_eq_true, beq_iff_eq, beq_iff_eq] at hq
      have := hgt y hy
      unfold LtR at this
      simp only at this
      omega
    rw [List.any_append, List.any_cons, f1, f2, Bool.or_false, Bool.false_or]
theorem at_end {xs : List Rt} {a l : Int} (hlt : ∀ x ∈ xs, LtR x (a, l, 0)) : ltF xs a l = xs ∧ gtF xs a l = [] ∧ hadB xs a l = false := by
  refine ⟨List.filter_eq_self.2 (fun y hy => decide_eq_true (hlt y hy)), List.filter_eq_nil_iff.2 (fun y hy => ?_), ?_⟩
  · have := hlt y hy
    simp only [decide_eq_true_eq]
    unfold LtR at *
    simp only at *
    omega
  · unfold hadB
    rw [List.any_eq_false]
    intro y hy hq
    rw [Bool.and_eq_true, beq_iff_eq, beq_iff_eq] at hq
    have := hlt y hy
    unfold LtR at this
    simp only at this
    omega
def AtPost (xs : List Rt) (a l : Int) (w : World) (e : Ending) (w' : World) : Prop :=
  ∃ i : Nat, e = .returned (.tuple #[.int .i64 i, .bool (hadB xs a l)]) ∧ i ≤ xs.length ∧ ltF xs a l = xs.take i ∧ gtF xs a l = xs.drop (if hadB xs a l = true then i + 1 else i) ∧ (hadB xs a l = true → i < xs.length) ∧ Grew w w'
set_option maxRecDepth 100000 in
set_option maxHeartbeats 8000000 in
theorem refAt_any (xs : List Rt) (A : Option Addr) (c : Nat) (a l : Int) (w : World) (hr : Rds w 3 A xs.length (rc xs)) (hl : xs.length ≤ 1000000) (hs : xs.Pairwise LtR) :
    Calls Tryd.prog 45 #[.agg #[.slice A xs.length c], .agg #[.int .i64 a, .int .i64 l]] w (AtPost xs a l w) := by
  have hg0 : Grew w ((w.alloc (.cells #[.slice A xs.length c] 59)).alloc (.cells #[.int .i64 a, .int .i64 l] 23)) := ((Grew.refl w).alloc _).alloc _
  have hp0 : ((w.alloc (.cells #[.slice A xs.length c] 59)).alloc (.cells #[.int .i64 a, .int .i64 l] 23)).cell? ⟨w.heap.size, 0, none⟩ = some (.slice A xs.length c) := by simp
  have hp1 : ((w.alloc (.cells #[.slice A xs.length c] 59)).alloc (.cells #[.int .i64 a, .int .i64 l] 23)).cell? ⟨w.heap.size + 1, 0, none⟩ = some (.int .i64 a) := by simp
  have hp2 : ((w.alloc (.cells #[.slice A xs.length c] 59)).alloc (.cells #[.int .i64 a, .int .i64 l] 23)).cell? ⟨w.heap.size + 1, 1, none⟩ = some (.int .i64 l) := by simp
  have HR := Lib.hid (hr.below hg0.below)
  have HS := Lib.hid hs
  go_enter Tryd.func45, Tryd.ntmps45
  obtain ⟨w1, hw1⟩ : ∃ w1, ((w.alloc (.cells #[.slice A xs.length c] 59)).alloc (.cells #[.int .i64 a, .int .i64 l] 23)) = w1 := ⟨_, rfl⟩
  have HG0 := Lib.hid hg0
  rw [hw1] at HR HG0 hp0 hp1 hp2
  clear hg0 hr hs
  go_wp2_with fail
  clear hw1
  have HP0 := Lib.hid hp0
  have HP1 := Lib.hid hp1
  have HP2 := Lib.hid hp2
  go_loopw [6] (fun v wr => ∃ i : Nat, i ≤ xs.length ∧ v = .int .i64 i ∧ (∀ x ∈ xs.take i, LtR x (a, l, 0)) ∧ Grew w1 wr) (fun v _ => xs.length - (intOf v).toNat)
  case atStart => exact ⟨0, Nat.zero_le _, rfl, fun x hx => by simp at hx, Grew.refl _⟩
  case round =>
    obtain ⟨i, hi, rfl, hlo, hG⟩ := hrel
    have HLO := Lib.hid hlo
    clear hlo
    replace hp0 := hG.cell (cell_lt HP0.out) HP0.out
    replace hp1 := hG.cell (cell_lt HP1.out) HP1.out
    replace hp2 := hG.cell (cell_lt HP2.out) HP2.out
    by_cases hlt : i < xs.length
    · obtain ⟨b, off, hk', rfl, hx1, hx2, hx3⟩ := ((HR.out).below hG.below).rte hlt
      have hz1 : (0 : Int) ≤ (i : Int) ∧ (i : Int) < (xs.length : Int) := by omega
      obtain ⟨⟨ta, tl, th⟩, hT⟩ : ∃ t, xs[i] = t := ⟨_, rfl⟩
      have HT := Lib.hid hT
      have HTK : Hid (xs.take (i + 1) = xs.take i ++ [xs[i]]) := Lib.hid (List.take_succ_eq_append_getElem hk')
      rw [hT] at hx1 hx2 hx3 HTK
      simp only at hx1 hx2 hx3
      clear hT
      by_cases hk : LtR (ta, tl, th) (a, l, 0)
      · have HK := Lib.hid hk
        have HNX : Hid (∀ x ∈ xs.take (i + 1), LtR x (a, l, 0)) := Lib.hid (fun x hx => by
          rw [HTK.out, List.mem_append, List.mem_singleton] at hx
          rcases hx with hx | rfl
          · exact HLO.out x hx
          · exact HK.out)
        unfold LtR at hk
        simp only at hk
        rcases hk with h1 | ⟨rfl, h2⟩
        · go_wp2_with fail
          go_quiet (fail)
          go_wp2
          go_roundw
          case rel => exact ⟨i + 1, by omega, by go_num, HNX.out, hG.drewN _⟩
          case measure => simp [intOf]; omega
        · have h1 : ¬ ta < ta := by omega
          go_wp2_with fail
          go_quiet (fail)
          go_wp2
          go_roundw
          case rel => exact ⟨i + 1, by omega, by go_num, HNX.out, hG.drewN _⟩
          case measure => simp [intOf]; omega
      · have HSP := Lib.hid (at_split HS.out hk' HLO.out (by rw [HT.out]; exact hk))
        rw [HT.out] at HSP
        have hka : ¬ ta < a := fun h => hk (.inl h)
        have hda : decide (ta < a) = false := decide_eq_false hka
        have hkl : ta = a → ¬ tl < l := fun h1 h2 => hk (.inr ⟨h1, h2⟩)
        obtain ⟨q1, hq1⟩ : ∃ q1, (ta == a) = q1 := ⟨_, rfl⟩
        obtain ⟨q2, hq2⟩ : ∃ q2, (tl == l) = q2 := ⟨_, rfl⟩
        rw [hq1, hq2] at HSP
        obtain ⟨s1, s2, s3⟩ := HSP.out
        have HS1 := Lib.hid s1
        have HS2 := Lib.hid s2
        have HS3 := Lib.hid s3
        clear s1 s2 s3 hk hka
        rcases q1 with _ | _
        · clear hkl
          rcases q2 with _ | _
          all_goals
            have HX : Hid (hadB xs a l = false) := Lib.hid HS3.out
            clear HS3
            go_wp2_with fail
            go_quiet (fail)
            go_wp2_with fail
            go_quiet (fail)
            go_wp2
            go_ret2
            unfold AtPost
            rw [HX.out]
            exact ⟨i, rfl, hi, HS1.out, HS2.out, fun h => Bool.noConfusion h, HG0.out.trans' ((hG.drewN _).drewN _)⟩
        · have hka2 : decide (tl < l) = false := decide_eq_false (hkl (by simpa using hq1))
          clear hkl
          rcases q2 with _ | _
          · have HX : Hid (hadB xs a l = false) := Lib.hid HS3.out
            clear HS3
            go_wp2_with fail
            go_quiet (fail)
            go_wp2_with fail
            go_quiet (fail)
            go_wp2
            go_ret2
            unfold AtPost
            rw [HX.out]
            exact ⟨i, rfl, hi, HS1.out, HS2.out, fun h => Bool.noConfusion h, HG0.out.trans' ((hG.drewN _).drewN _)⟩
          · have HX : Hid (hadB xs a l = true) := Lib.hid HS3.out
            clear HS3
            go_wp2_with fail
            go_quiet (fail)
            go_wp2_with fail
            go_quiet (fail)
            go_wp2
            go_ret2
            unfold AtPost
            rw [HX.out]
            exact ⟨i, rfl, hi, HS1.out, HS2.out, fun _ => hlt, HG0.out.trans' ((hG.drewN _).drewN _)⟩
    · obtain rfl : i = xs.length := by omega
      rw [List.take_length] at HLO
      obtain ⟨s1, s2, s3⟩ := at_end HLO.out
      have HS1 := Lib.hid s1
      have HS2 := Lib.hid s2
      have HX := Lib.hid s3
      clear s1 s2 s3
      go_wp2_with fail
      go_quiet (fail)
      go_wp2_with fail
      go_quiet (fail)
      go_wp2
      go_ret2
      unfold AtPost
      rw [HX.out]
      exact ⟨xs.length, rfl, hi, by rw [List.take_length]; exact HS1.out, by rw [HS2.out]; simp, fun h => Bool.noConfusion h, HG0.out.trans' ((hG.drewN _).drewN _)⟩
end Go.Proofs.YtfgpppgehbpblaaDoor
