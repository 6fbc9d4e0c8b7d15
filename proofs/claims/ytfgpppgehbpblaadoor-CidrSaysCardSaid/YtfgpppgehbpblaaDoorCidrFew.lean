/- cidr.Fewest and cidr.Many, and the comparison of two lists of prefixes, in the form that the laws use. -/
import Derived.Test.YtfgpppgehbpblaaDoorFewest
import Derived.Test.YtfgpppgehbpblaaDoorCidrUse
import Derived.Test.YtfgpppgehbpblaaDoorPEq
namespace Go.Proofs.YtfgpppgehbpblaaDoor
open Go.RowKit Px
/-- What is wrong with prefixes that are to be made few. -/
def fewE (xs : List (Int × Int)) : Int := if 32 < xs.length then 4 else errP xs
theorem fewE_ok {xs : List (Int × Int)} (h : fewE xs = 0) : xs.length ≤ 32 ∧ errP xs = 0 := by
  unfold fewE at h
  split at h
  · cases h
  · exact ⟨by omega, h⟩
theorem fewE_mk {xs : List (Int × Int)} (h1 : xs.length ≤ 32) (h2 : errP xs = 0) : fewE xs = 0 := by unfold fewE; rw [if_neg (by omega), h2]
/-- What a function hands back: prefixes of the call's own, and one value beside them. -/
def RetP (W : World) (xs : List (Int × Int)) (z : Value) (e : Ending) (w' : World) : Prop :=
  ∃ A c, e = .returned (.tuple #[.slice A xs.length c, z]) ∧ OwnP w' W.heap.size (.slice A xs.length c) xs ∧ Below W.heap.size W w'
theorem fewest_ok (A : Option Addr) (n c : Nat) (xs : List (Int × Int)) (w : World) (hn : n ≤ maxLen) (hr : Rds w 2 A n (pc xs)) (h : fewE xs = 0) :
    Calls Tryd.prog 14 #[.slice A n c] w (RetP w (fewI xs) .nilIface) := by
  obtain ⟨h1, h2⟩ := fewE_ok h
  refine (fewest_any A n c xs w hn hr).mono ?_
  rintro e w' ⟨_, _, h3, h4⟩
  obtain ⟨A', c', rfl, ho⟩ := h3 h1 h2
  exact ⟨A', c', rfl, ho, h4⟩
theorem fewest_bad (A : Option Addr) (n c : Nat) (xs : List (Int × Int)) (k : Int) (w : World) (hn : n ≤ maxLen) (hr : Rds w 2 A n (pc xs)) (h : fewE xs = k) (hk : k ≠ 0) :
    Calls Tryd.prog 14 #[.slice A n c] w fun e w' => e = .returned (.tuple #[.slice none 0 0, .iface 66 (.int .i64 k)]) ∧ Below w.heap.size w w' := by
  refine (fewest_any A n c xs w hn hr).mono ?_
  rintro e w' ⟨h1, h2, _, h4⟩
  refine ⟨?_, h4⟩
  unfold fewE at h
  split at h
  · rename_i hl
    rw [h1 hl, h]
  · rename_i hl
    rw [h2 (by omega) (by rw [h]; exact hk), h]

theorem prefixes_any (A B : Option Addr) (n c m d : Nat) (xs ys : List (Int × Int)) (w : World) (hx : Rds w 2 A n (pc xs)) (hy : Rds w 2 B m (pc ys)) (hn : n ≤ maxLen) (hm : m ≤ maxLen) :
    Calls Tryd.prog 15 #[.slice A n c, .slice B m d] w fun e w' => e = .returned (.bool (decide (xs = ys))) ∧ ∃ k, w' = w.drewN k := by
  have HX := Lib.hid hx.plen
  have HY := Lib.hid hy.plen
  unfold maxLen at hn hm
  by_cases hnm : n = m
  · subst hnm
    go_enter Tryd.func15, Tryd.ntmps15
    go_wp2_with fail
    go_loopw [5] (fun i wr => ∃ k q : Nat, k ≤ n ∧ i = .int .i64 k ∧ wr = w.drewN q ∧ xs.take k = ys.take k) (fun i _ => n - (intOf i).toNat)
    case atStart => exact ⟨0, 0, Nat.zero_le _, rfl, rfl, rfl⟩
    case round =>
      obtain ⟨k, q, hk, rfl, rfl, hall⟩ := hrel
      have HA := Lib.hid hall
      clear hall
      by_cases hlt : k < n
      · obtain ⟨b, off, hk', rfl, hx1, hx2⟩ := hx.pfx hlt
        obtain ⟨b2, off2, hk2, rfl, hy1, hy2⟩ := hy.pfx hlt
        by_cases he : xs[k] = ys[k]
        · have HE := Lib.hid he
          obtain ⟨x, hX⟩ : ∃ x, ys[k] = x := ⟨_, rfl⟩
          rw [he, hX] at hx1 hx2
          rw [hX] at hy1 hy2
          clear he hX
          go_wp2
          go_quiet (fail)
          go_wp2
          go_roundw
          case rel =>
            refine ⟨k + 1, _, by omega, by go_num, rfl, ?_⟩
            rw [List.take_succ_eq_append_getElem hk', List.take_succ_eq_append_getElem hk2, HA.out, HE.out]
          case measure => simp [intOf]; omega
        · have HE := Lib.hid he
          have hor : (xs[k].1 == ys[k].1) = false ∨ (xs[k].1 = ys[k].1 ∧ (xs[k].2 == ys[k].2) = false) := by
            rw [beq_eq_false_iff_ne, beq_eq_false_iff_ne]
            by_cases h1 : xs[k].1 = ys[k].1
            · exact .inr ⟨h1, fun h2 => he (Prod.ext h1 h2)⟩
            · exact .inl h1
          clear he
          generalize xs[k].1 = x1 at *
          generalize xs[k].2 = x2 at *
          generalize ys[k].1 = y1 at *
          generalize ys[k].2 = y2 at *
          rcases hor with h1 | ⟨rfl, h1⟩
          all_goals
            go_wp2
            go_quiet (fail)
            go_wp2
            go_ret
            exact ⟨ret_eq (bool_eq (by symm; rw [decide_eq_false_iff_not]; intro e; exact HE.out (by simp only [e]))), q + _, World.drewN_drewN _ _ _⟩
      · go_wp2
        go_ret
        refine ⟨ret_eq (bool_eq ?_), q, rfl⟩
        symm
        rw [decide_eq_true_iff]
        have h1 := HA.out
        have hx' := HX.out
        have hy' := HY.out
        rwa [List.take_of_length_le (by omega), List.take_of_length_le (by omega)] at h1
  · have hne : ((n : Int) != (m : Int)) = true := by rw [bne_iff_ne]; omega
    go_enter Tryd.func15, Tryd.ntmps15
    go_wp2
    go_ret
    refine ⟨ret_eq (bool_eq ?_), 0, rfl⟩
    symm
    rw [decide_eq_false_iff_not]
    rintro rfl
    exact hnm (HX.out.trans HY.out.symm)

/-! ### Many -/
def sumS (xs : List (Int × Int)) : Int := (xs.map fun x => szI x.2).sum
theorem sumS_snoc (xs : List (Int × Int)) (k : Nat) (h : k < xs.length) : sumS (xs.take (k + 1)) = sumS (xs.take k) + szI xs[k].2 := by
  unfold sumS
  rw [List.take_succ_eq_append_getElem h, List.map_append, List.sum_append]
  simp
theorem sumS_range (xs : List (Int × Int)) : 0 ≤ sumS xs ∧ sumS xs ≤ 65536 * xs.length := by
  induction xs with
  | nil => simp [sumS]
  | cons x t ih =>
    have h1 := szI_pos x.2
    have h2 := szI_le x.2
    unfold sumS at *
    simp only [List.map_cons, List.sum_cons, List.length_cons]
    omega
def ManyPost (xs : List (Int × Int)) (w : World) (e : Ending) (w' : World) : Prop :=
  e = .returned (.tuple #[.int .i64 (manyI xs), .nilIface]) ∧ Below w.heap.size w w'
theorem many_ok (A : Option Addr) (n c : Nat) (xs : List (Int × Int)) (w : World) (hn : n ≤ maxLen) (hr : Rds w 2 A n (pc xs)) (h : fewE xs = 0) :
    Calls Tryd.prog 17 #[.slice A n c] w (ManyPost xs w) := by
  have HN := Lib.hid hn
  have HE := Lib.hid h
  obtain ⟨h1, h2⟩ := fewE_ok h
  obtain ⟨v1, v2, _⟩ := few_valid h2
  have HV := Lib.hid (errP_all.1 v1)
  have hl32 : (fewI xs).length ≤ 32 := by omega
  have HS : Hid (manyI xs = sumS (fewI xs)) := Lib.hid rfl
  clear h h1 h2 v1 v2 hn
  go_enter Tryd.func17, Tryd.ntmps17
  go_wp2_with fail
  (with_reducible refine (fewest_ok _ _ _ _ _ HN.out hr HE.out).mono ?_)
  rintro e w1 ⟨A1, c1, rfl, ho, hB⟩
  have hr1 := ho.rds
  clear ho
  generalize fewI xs = ys at *
  go_wp2_with fail
  go_loopw [6, 16] (fun s i wr => ∃ k : Nat, k ≤ ys.length ∧ i = .int .i64 k ∧ s = .int .i64 (sumS (ys.take k)) ∧ Below w1.heap.size w1 wr) (fun _ i _ => ys.length - (intOf i).toNat)
  case atStart => exact ⟨0, Nat.zero_le _, rfl, rfl, Below.refl _ _⟩
  case round =>
    obtain ⟨k, hk, rfl, rfl, hB1⟩ := hrel
    have hsr := sumS_range (ys.take k)
    have htk : (ys.take k).length ≤ k := List.length_take_le _ _
    have hs0 : 0 ≤ sumS (ys.take k) := hsr.1
    have hs1 : sumS (ys.take k) ≤ 65536 * 32 := by omega
    clear hsr htk
    by_cases hlt : k < ys.length
    · obtain ⟨b, off, hk', rfl, hx1, hx2⟩ := (hr1.below hB1).pfx hlt
      have HSN := Lib.hid (sumS_snoc ys k hk')
      obtain ⟨_, _, g3, g4, _⟩ := checkE_ok (HV.out _ (List.getElem_mem hk'))
      obtain ⟨x, hX⟩ : ∃ x, ys[k] = x := ⟨_, rfl⟩
      rw [hX] at hx1 hx2 HSN g3 g4
      have z1 := szI_pos x.2
      have z2 := szI_le x.2
      have HSZ := Lib.hid (fun w => size_any x.1 x.2 w g3 g4)
      clear hX
      generalize szI x.2 = z at *
      generalize sumS (ys.take k) = s at *
      go_wp2_with (go_at_call 32; (with_reducible refine (HSZ.out _).mono ?_); rintro e w2 ⟨rfl, rfl⟩)
      go_roundw
      case rel => exact ⟨k + 1, by omega, by go_num, by rw [HSN.out], (hB1.alloc hB1.size _).alloc (by have := hB1.size; simp; omega) _⟩
      case measure => simp [intOf]; omega
    · obtain rfl : k = ys.length := by omega
      rw [List.take_length] at *
      have HB := Lib.hid (below_call hB hB1)
      go_wp2
      go_ret2
      exact ⟨by rw [HS.out]; rfl, HB.out⟩
theorem many_bad (A : Option Addr) (n c : Nat) (xs : List (Int × Int)) (k : Int) (w : World) (hn : n ≤ maxLen) (hr : Rds w 2 A n (pc xs)) (h : fewE xs = k) (hk : k ≠ 0) :
    Calls Tryd.prog 17 #[.slice A n c] w fun e w' => e = .returned (.tuple #[.int .i64 0, .iface 66 (.int .i64 k)]) ∧ Below w.heap.size w w' := by
  have HN := Lib.hid hn
  have HE := Lib.hid h
  have HK := Lib.hid hk
  clear h hk hn
  go_enter Tryd.func17, Tryd.ntmps17
  go_wp2_with fail
  (with_reducible refine (fewest_bad _ _ _ _ _ _ HN.out hr HE.out HK.out).mono ?_)
  rintro e w1 ⟨rfl, hB⟩
  go_wp2_with fail
  go_loop [6, 16] (fun s i => s = .int .i64 0 ∧ i = .int .i64 0) (fun _ i => 0)
  case atStart => exact ⟨rfl, rfl⟩
  case round =>
    obtain ⟨rfl, rfl⟩ := hrel
    go_wp2
    go_ret2
    exact ⟨rfl, hB⟩
theorem rds_plit (w : World) (xs : List (Int × Int)) (t : TypeId) : Rds (w.alloc (.cells (pc xs).toArray t)) 2 (some ⟨w.heap.size, 0, none⟩) xs.length (pc xs) := by
  refine ⟨pc_length xs, fun _ => ⟨_, _, rfl, fun j hj => ?_⟩⟩
  rw [Nat.zero_add, World.cell?_alloc_at _ _ _ _ (by simp)]
  simp
end Go.Proofs.YtfgpppgehbpblaaDoor
