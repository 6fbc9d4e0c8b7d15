/- The document's Cut, RightPart and Again; E.Parts at twice the same parts. -/
import Derived.Test.YtbmajajndckfoaaDoorFragAgn
import Derived.Test.YtbmajajndckfoaaDoorQEq
import Derived.BigQuiet
namespace Go.Proofs.YtbmajajndckfoaaDoor
open Go.RowKit
attribute [local go_sem ↓] Go.wp_at_zero Go.wp_at_succ
theorem refIn_any (a b c : Int) (w : World) :
    Calls Tryd.prog 41 #[.int .i64 a, .int .i64 b, .int .i64 c] w fun e w' => e = .returned (.bool (inB a b c)) ∧ w = w' := by
  by_cases h : b ≤ a
  · by_cases h2 : a ≤ c
    all_goals
      go_enter Tryd.func41, Tryd.ntmps41
      go_wp2
      go_ret
      exact ⟨by simp [inB, h, h2], rfl⟩
  · go_enter Tryd.func41, Tryd.ntmps41
    go_wp2
    go_ret
    exact ⟨ret_eq (bool_eq (by rw [eq_comm, inB_false]; omega)), rfl⟩
/-- What the document hands back: parts, a number. -/
def RetR (W : World) (ps : List Pt) (k : Int) (e : Ending) (w' : World) : Prop :=
  ∃ A c, e = .returned (.tuple #[.slice A ps.length c, .int .i64 k]) ∧ OwnQ w' W.heap.size (.slice A ps.length c) ps ∧ Below W.heap.size W w'
set_option maxRecDepth 100000 in
set_option maxHeartbeats 4000000 in
theorem refCut_any (t : ByteArray) (size : Int) (w : World) (hm : t.size ≤ maxLen) :
    Calls Tryd.prog 23 #[.string t, .int .i64 size] w (RetR w (cutV t size) (cutE t size)) := by
  unfold maxLen at hm
  by_cases ht : 200 < t.size
  · have HE : Hid (cutE t size = 4) := Lib.hid (by unfold cutE; rw [if_pos ht])
    have HV := Lib.hid (cutV_bad (t := t) (size := size) (by rw [HE.out]; decide))
    go_enter Tryd.func23, Tryd.ntmps23
    go_wp2
    go_ret2
    rw [HE.out, HV.out]
    exact ⟨none, 0, rfl, OwnQ.nil_ _ _, Below.refl _ _⟩
  rcases hin : inB size 1 200 with _ | _
  · have HE : Hid (cutE t size = 1) := Lib.hid (by unfold cutE; rw [if_neg ht, if_pos hin])
    have HV := Lib.hid (cutV_bad (t := t) (size := size) (by rw [HE.out]; decide))
    go_enter Tryd.func23, Tryd.ntmps23
    go_wp2_with ((go_at_call 41; (with_reducible refine (refIn_any _ _ _ _).mono ?_); rintro e w' ⟨rfl, rfl⟩); rw [hin])
    go_ret2
    rw [HE.out, HV.out]
    exact ⟨none, 0, rfl, OwnQ.nil_ _ _, Below.refl _ _⟩
  obtain ⟨g1, g2⟩ := inB_true.1 hin
  obtain ⟨sz, rfl⟩ : ∃ sz : Nat, size = (sz : Int) := ⟨size.toNat, by omega⟩
  have s1 : 1 ≤ sz := by omega
  have s2 : sz ≤ 200 := by omega
  have ht' : t.size ≤ 200 := by omega
  have HFIN : Hid (∀ m, Cuts t sz m → (40 < m → cutE t (sz : Int) = 4 ∧ cutV t (sz : Int) = []) ∧ (m ≤ 40 → cutE t (sz : Int) = 0 ∧ cutV t (sz : Int) = partsL t sz m)) := Lib.hid (fun m hc => by
    have hM := hc.unique s1
    have hE : cutE t (sz : Int) = if 40 < m then 4 else 0 := by
      unfold cutE
      rw [if_neg ht, if_neg (by rw [hin]; simp), Int.toNat_natCast, ← hM]
    constructor
    · intro h
      rw [if_pos h] at hE
      exact ⟨hE, cutV_bad (by rw [hE]; decide)⟩
    · intro h
      rw [if_neg (by omega)] at hE
      exact ⟨hE, by unfold cutV; rw [if_pos hE, Int.toNat_natCast, ← hM]⟩)
  clear g1 g2 hm ht
  go_enter Tryd.func23, Tryd.ntmps23
  go_wp2_with ((go_at_call 41; (with_reducible refine (refIn_any _ _ _ _).mono ?_); rintro e w' ⟨rfl, rfl⟩); rw [hin])
  go_loopw [6, 7] (fun so sa wr => ∃ (k at' : Nat) (A : Option Addr) (c : Nat), Hid (at' = k * sz) ∧ k ≤ at' ∧ so = .slice A k c ∧ sa = .int .i64 (at' : Int) ∧ (at' = 0 ∨ at' < t.size) ∧ OwnQ wr w.heap.size (.slice A k c) (partsL t sz k) ∧ Below w.heap.size w wr) (fun _ sa _ => 401 - (intOf sa).toNat)
  case atStart => exact ⟨0, 0, none, 0, Lib.hid (by simp), by omega, rfl, rfl, .inl rfl, OwnQ.nil_ _ _, Below.refl _ _⟩
  case round =>
    obtain ⟨k, at', A, c, HA, hk, rfl, rfl, hbef, hO, hB⟩ := hrel
    have HBF := Lib.hid hbef
    have hk2 : k ≤ 200 := by omega
    have HS : Hid (partsL t sz (k + 1) = partsL t sz k ++ [partAt t sz k]) := Lib.hid (partsL_succ t sz k)
    have HN : Hid ((k + 1) * sz = at' + sz) := Lib.hid (by rw [Nat.succ_mul, ← HA.out])
    have hle2 : at' ≤ 200 := by omega
    have hatt : at' ≤ t.size := by omega
    have hw1 : IntKind.i64.wrap ((t.size : Int) - (at' : Int)) = (t.size : Int) - (at' : Int) := IntWalk.i64_in _ (by constructor <;> omega)
    clear hbef
    by_cases hmo : at' + sz < t.size
    · have HP : Hid (partAt t sz k = ((at' : Int), true, t.extract at' (at' + sz))) := Lib.hid (by
        unfold partAt
        rw [← HA.out, Nat.min_eq_left (by omega), decide_eq_true hmo])
      have hgo : (sz : Int) < (t.size : Int) - (at' : Int) := by omega
      rcases Nat.eq_zero_or_pos at' with h0 | h0
      · subst h0
        rw [Nat.zero_add] at hmo
        go_wp2_with (at_builtin; refine wp_append_part wr rfl (.tmp 20) (.tmp 29) rfl w w.heap.size (.slice A k c) (partsL t sz k) (by rfl) hO (0, true, t.extract 0 sz) rfl (by rw [partsL_len]; omega) hB.size hB ?_; intro A1 c1 w1 ho1 hc1 hc2 hB1 _; rw [partsL_len] at ho1 hc1; rw [partsL_len])
        go_roundw
        case rel =>
          refine ⟨k + 1, sz, A1, c1, Lib.hid (by have := HN.out; omega), by omega, rfl, by go_num, by omega, ?_, hB1⟩
          rw [HS.out, HP.out]
          simpa using ho1
        case measure => simp [intOf]; omega
      · go_wp2_with (at_builtin; refine wp_append_part wr rfl (.tmp 20) (.tmp 29) rfl w w.heap.size (.slice A k c) (partsL t sz k) (by rfl) hO ((at' : Int), true, t.extract at' (at' + sz)) rfl (by rw [partsL_len]; omega) hB.size hB ?_; intro A1 c1 w1 ho1 hc1 hc2 hB1 _; rw [partsL_len] at ho1 hc1; rw [partsL_len])
        go_roundw
        case rel =>
          refine ⟨k + 1, at' + sz, A1, c1, Lib.hid HN.out.symm, by omega, rfl, by go_num, by omega, ?_, hB1⟩
          rw [HS.out, HP.out]
          exact ho1
        case measure => simp [intOf]; omega
    · have HP : Hid (partAt t sz k = ((at' : Int), false, t.extract at' t.size)) := Lib.hid (by
        unfold partAt
        rw [← HA.out, Nat.min_eq_right (by omega), decide_eq_false (Nat.lt_irrefl _)])
      have hgo : ¬ (sz : Int) < (t.size : Int) - (at' : Int) := by omega
      have HCU : Hid (Cuts t sz (k + 1)) := Lib.hid (by
        have h1 := HA.out
        have h2 := HN.out
        refine ⟨by omega, ?_, by omega⟩
        rw [Nat.add_sub_cancel, ← h1]
        rcases HBF.out with h | h
        · exact .inl (by omega)
        · exact .inr h)
      have HFF := Lib.hid (HFIN.out _ HCU.out)
      rcases Nat.eq_zero_or_pos at' with h0 | h0
      · subst h0
        go_wp2_with (at_builtin; refine wp_append_part wr rfl (.tmp 34) (.tmp 40) rfl w w.heap.size (.slice A k c) (partsL t sz k) (by rfl) hO (0, false, t) rfl (by rw [partsL_len]; omega) hB.size hB ?_; intro A1 c1 w1 ho1 hc1 hc2 hB1 _; rw [partsL_len] at ho1 hc1; rw [partsL_len])
        go_ret2
        have e := HFF.out.2 (by omega)
        rw [e.1, e.2, RetR, partsL_len, HS.out, HP.out]
        exact ⟨A1, c1, rfl, by simpa using ho1, hB1⟩
      · have h0z : ¬ at' = 0 := by omega
        go_wp2_with (at_builtin; refine wp_append_part wr rfl (.tmp 34) (.tmp 40) rfl w w.heap.size (.slice A k c) (partsL t sz k) (by rfl) hO ((at' : Int), false, t.extract at' t.size) rfl (by rw [partsL_len]; omega) hB.size hB ?_; intro A1 c1 w1 ho1 hc1 hc2 hB1 _; rw [partsL_len] at ho1 hc1; rw [partsL_len])
        · go_ret2
          rw [(HFF.out.1 (by omega)).1, (HFF.out.1 (by omega)).2]
          exact ⟨none, 0, rfl, OwnQ.nil_ _ _, hB1⟩
        · go_ret2
          have e := HFF.out.2 (by omega)
          rw [e.1, e.2, RetR, partsL_len, HS.out, HP.out]
          exact ⟨A1, c1, rfl, ho1, hB1⟩
theorem right_ok (a : Int) (m : Bool) (s : ByteArray) (w : World) (h : okP (a, m, s)) :
    Calls Tryd.prog 42 #[.agg #[.int .i64 a, .bool m, .string s]] w fun e w' => e = .returned (.bool true) ∧ Grew w w' := by
  obtain ⟨o1, o2, o3⟩ := h
  simp only at o1 o2 o3
  have hin : inB a 0 200 = true := inB_true.2 ⟨o1, o2⟩
  have hw200 : IntKind.i64.wrap (200 - a) = 200 - a := IntWalk.i64_in _ (by constructor <;> omega)
  go_enter Tryd.func42, Tryd.ntmps42
  go_wp2_with ((go_at_call 41; (with_reducible refine (refIn_any _ _ _ _).mono ?_); rintro e w' ⟨rfl, rfl⟩); rw [hin])
  go_ret
  exact ⟨rfl, (Grew.refl w).alloc _⟩
theorem right_bad (a : Int) (m : Bool) (s : ByteArray) (w : World) (h : ¬ okP (a, m, s)) :
    Calls Tryd.prog 42 #[.agg #[.int .i64 a, .bool m, .string s]] w fun e w' => e = .returned (.bool false) ∧ Grew w w' := by
  rcases hin : inB a 0 200 with _ | _
  · go_enter Tryd.func42, Tryd.ntmps42
    go_wp2_with ((go_at_call 41; (with_reducible refine (refIn_any _ _ _ _).mono ?_); rintro e w' ⟨rfl, rfl⟩); rw [hin])
    go_ret
    exact ⟨rfl, (Grew.refl w).alloc _⟩
  · obtain ⟨o1, o2⟩ := inB_true.1 hin
    have o3 : ¬ (s.size : Int) ≤ 200 - a := fun h3 => h ⟨o1, o2, h3⟩
    have hw200 : IntKind.i64.wrap (200 - a) = 200 - a := IntWalk.i64_in _ (by constructor <;> omega)
    have o3d : decide ((s.size : Int) ≤ 200 - a) = false := decide_eq_false o3
    clear h
    go_enter Tryd.func42, Tryd.ntmps42
    go_wp2_with ((go_at_call 41; (with_reducible refine (refIn_any _ _ _ _).mono ?_); rintro e w' ⟨rfl, rfl⟩); rw [hin])
    go_ret
    exact ⟨rfl, (Grew.refl w).alloc _⟩
set_option maxRecDepth 100000 in
set_option maxHeartbeats 4000000 in
theorem sameParts_any (xs : List Pt) (A B : Option Addr) (c d : Nat) (w : World) (hr : Rds w 3 A xs.length (qc xs)) (hs : Rds w 3 B xs.length (qc xs)) (hl : xs.length ≤ 1000000) :
    Calls Tryd.prog 24 #[.slice A xs.length c, .slice B xs.length d] w fun e w' => e = .returned (.bool true) ∧ Grew w w' := by
  have HR := Lib.hid hr
  have HS := Lib.hid hs
  clear hr hs
  go_enter Tryd.func24, Tryd.ntmps24
  go_wp2_with fail
  go_loopw [5] (fun v wr => ∃ i : Nat, i ≤ xs.length ∧ v = .int .i64 i ∧ Grew w wr) (fun v _ => xs.length - (intOf v).toNat)
  case atStart => exact ⟨0, Nat.zero_le _, rfl, Grew.refl _⟩
  case round =>
    obtain ⟨i, hi, rfl, hG⟩ := hrel
    by_cases hlt : i < xs.length
    · obtain ⟨b, off, hk', rfl, hx1, hx2, hx3⟩ := ((HR.out).below hG.below).part hlt
      obtain ⟨b2, off2, _, rfl, hy1, hy2, hy3⟩ := ((HS.out).below hG.below).part hlt
      obtain ⟨⟨ta, tl, th⟩, hT⟩ : ∃ t, xs[i] = t := ⟨_, rfl⟩
      rw [hT] at hx1 hx2 hx3 hy1 hy2 hy3
      simp only at hx1 hx2 hx3 hy1 hy2 hy3
      clear hT
      have hz1 : (0 : Int) ≤ (i : Int) ∧ (i : Int) < (xs.length : Int) := by omega
      go_wp2_with fail
      go_quiet (fail)
      go_wp2
      go_roundw
      case rel => exact ⟨i + 1, by omega, by go_num, hG.drewN _⟩
      case measure => simp [intOf]; omega
    · go_wp2
      go_ret
      exact ⟨rfl, hG⟩
end Go.Proofs.YtbmajajndckfoaaDoor
