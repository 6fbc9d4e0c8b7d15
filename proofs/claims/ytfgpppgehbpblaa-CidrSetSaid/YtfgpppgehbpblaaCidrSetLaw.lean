/- The walk of the law CidrSet. -/
import Derived.Test.YtfgpppgehbpblaaCidrFew
import Derived.Test.YtfgpppgehbpblaaLawIn
namespace Go.Proofs.Ytfgpppgehbpblaa
open Go.RowKit Px
theorem hasI_toI {p : Pf} (h : V p) (a : Nat) : hasI (toI p).1 (toI p).2 (a : Int) = hasD p a := by
  have e : (toI (a, 0)) = ((a : Int), 16) := rfl
  have := within_toI (a, 0) h
  rw [e] at this
  unfold hasI
  rw [this]
  unfold hasD
  simp
def hasB' (a : Int) (x : Int × Int) : Bool := hasI x.1 x.2 a
def wasB (xs : List (Int × Int)) (a : Int) : Bool := xs.any (hasB' a)
def isN (xs : List (Int × Int)) (a : Int) : Nat := xs.countP (hasB' a)
theorem wasB_snoc (xs : List (Int × Int)) (a : Int) (k : Nat) (h : k < xs.length) : wasB (xs.take (k + 1)) a = (wasB (xs.take k) a || hasI xs[k].1 xs[k].2 a) := by
  unfold wasB
  rw [List.take_succ_eq_append_getElem h, List.any_append]
  simp [hasB']
theorem isN_snoc (xs : List (Int × Int)) (a : Int) (k : Nat) (h : k < xs.length) : isN (xs.take (k + 1)) a = isN (xs.take k) a + (if hasI xs[k].1 xs[k].2 a = true then 1 else 0) := by
  unfold isN
  rw [List.take_succ_eq_append_getElem h, List.countP_append, List.countP_singleton]
  rfl
theorem was_is {xs : List (Int × Int)} (h : errP xs = 0) (a : Nat) : isN (fewI xs) a ≤ 1 ∧ (wasB xs a = true ↔ isN (fewI xs) a = 1) := by
  obtain ⟨L, e, c, v, _⟩ := few_ok h
  have h1 : isN (fewI xs) a = L.countP fun p => hasD p a := by
    rw [e]
    unfold isN
    rw [List.countP_map]
    exact List.countP_congr fun p hp => by simp only [Function.comp_apply, hasB', hasI_toI (c.v p hp)]
  have h2 : wasB xs a = true ↔ Cover (xs.map ofI) a := by
    unfold wasB Cover
    rw [List.any_eq_true]
    constructor
    · rintro ⟨x, hx, hh⟩
      obtain ⟨v1, e1⟩ := ofI_v (errP_all.1 h x hx)
      refine ⟨ofI x, List.mem_map_of_mem hx, ?_⟩
      rw [← hasD_iff, ← hasI_toI v1, e1]
      exact hh
    · rintro ⟨p, hp, hh⟩
      obtain ⟨x, hx, rfl⟩ := List.mem_map.1 hp
      obtain ⟨v1, e1⟩ := ofI_v (errP_all.1 h x hx)
      refine ⟨x, hx, ?_⟩
      rw [← hasD_iff, ← hasI_toI v1, e1] at hh
      exact hh
  obtain ⟨o1, o2⟩ := one_has c a
  rw [h1, h2, ← v, o2]
  exact ⟨o1, Iff.rfl⟩
theorem has_ok (a l x : Int) (w : World) (h : checkE a l = 0) (hx : inB x 0 65535 = true) :
    Calls Try.prog 23 #[.agg #[.int .i64 a, .int .i64 l], .int .i64 x] w fun e w' => e = .returned (.tuple #[.bool (hasI a l x), .nilIface]) ∧ Below w.heap.size w w' :=
  (has_any a l x w).mono fun _ _ ⟨h1, _, _, h4⟩ => ⟨h1 h hx, h4⟩

set_option maxHeartbeats 2000000 in
theorem cidrSet_any (A : Option Addr) (n c : Nat) (xs : List (Int × Int)) (ad : Int) (w : World) (hr : Rds w 2 A n (pc xs)) (hn : n ≤ maxLen) :
    Calls Try.prog 7 #[.slice A n c, .int .i64 ad] w fun e w' => e = .returned (.bool true) ∧ Below w.heap.size w w' := by
  have hB := Below.refl w.heap.size w
  obtain rfl : n = xs.length := hr.plen
  have HN := Lib.hid hn
  clear hn
  by_cases hx : fewE xs = 0
  · have HX := Lib.hid hx
    rcases hin : inB ad 0 65535 with _ | _
    · clear hx
      go_enter Try.func7, Try.ntmps7
      go_wp2_with (go_at_call 16; refine (cidrFact_any _).mono ?_; rintro e w1 ⟨rfl, hb⟩; replace hB := below_call hB hb; clear hb)
      (with_reducible refine (fewest_ok _ _ _ xs _ HN.out (hr.below hB) HX.out).mono ?_)
      rintro e w2 ⟨A1, c1, rfl, _, hb⟩
      replace hB := below_call hB hb
      clear hb
      go_wp2_with (go_at_call 13; refine (in_any _ _ _ _).mono ?_; rintro e w' ⟨rfl, rfl⟩)
      go_ret
      exact ⟨rfl, hB⟩
    · obtain ⟨l1, e1⟩ := fewE_ok hx
      obtain ⟨a0, a1⟩ := inB_true.1 hin
      obtain ⟨a, rfl⟩ := Int.eq_ofNat_of_zero_le a0
      obtain ⟨v1, v2, _⟩ := few_valid e1
      have HV := Lib.hid (errP_all.1 e1)
      have HV2 := Lib.hid (errP_all.1 v1)
      have HW := Lib.hid (was_is e1 a)
      have hfl := v2
      clear hx e1 v1 v2
      generalize hF : fewI xs = F at *
      have HF := Lib.hid hF
      clear hF
      go_enter Try.func7, Try.ntmps7
      go_wp2_with (go_at_call 16; refine (cidrFact_any _).mono ?_; rintro e w1 ⟨rfl, hb⟩; replace hB := below_call hB hb; clear hb)
      (with_reducible refine (fewest_ok _ _ _ xs _ HN.out (hr.below hB) HX.out).mono ?_)
      rintro e w2 ⟨A1, c1, rfl, ho, hb⟩
      replace hB := below_call hB hb
      rw [HF.out] at ho ⊢
      have hrf := ho.rds
      clear hb ho
      go_wp2_with (go_at_call 13; refine (in_any _ _ _ _).mono ?_; rintro e w' ⟨rfl, rfl⟩)
      go_loopw [8, 9] (fun s i wr => ∃ k : Nat, k ≤ xs.length ∧ i = .int .i64 k ∧ s = .bool (wasB (xs.take k) a) ∧ Below w2.heap.size w2 wr) (fun _ i _ => xs.length - (intOf i).toNat)
      case atStart => exact ⟨0, Nat.zero_le _, rfl, rfl, Below.refl _ _⟩
      case round =>
        obtain ⟨k, hk, rfl, rfl, hB1⟩ := hrel
        by_cases hlt : k < xs.length
        · obtain ⟨b, off, hk', rfl, hx1, hx2⟩ := (hr.below (below_call hB hB1)).pfx hlt
          have HSN := Lib.hid (wasB_snoc xs a k hk')
          have HC := Lib.hid (HV.out _ (List.getElem_mem hk'))
          obtain ⟨x, hX⟩ : ∃ x, xs[k] = x := ⟨_, rfl⟩
          rw [hX] at hx1 hx2 HSN HC
          clear hX
          go_wp2_with fail
          (with_reducible refine (has_ok _ _ _ _ HC.out hin).mono ?_)
          rintro e w3 ⟨rfl, hb⟩
          replace hB1 := below_call hB1 hb
          clear hb hx1 hx2
          generalize hasI x.1 x.2 a = bx at *
          generalize wasB (xs.take k) a = bw at *
          rcases bw with _ | _ <;> rcases bx with _ | _
          all_goals
            go_wp2
            go_roundw
            case rel => exact ⟨k + 1, by omega, by go_num, by rw [HSN.out]; rfl, hB1⟩
            case measure => simp [intOf]; omega
        · obtain rfl : k = xs.length := by omega
          rw [List.take_length] at *
          have hrf2 := hrf.below hB1
          replace hB := below_call hB hB1
          obtain ⟨w4, rfl⟩ : ∃ w4 : World, w4 = wr := ⟨_, rfl⟩
          go_wp2_with fail
          go_loopw [12, 13] (fun s i wr => ∃ k : Nat, k ≤ F.length ∧ i = .int .i64 k ∧ s = .int .i64 (isN (F.take k) a : Nat) ∧ Below w4.heap.size w4 wr) (fun _ i _ => F.length - (intOf i).toNat)
          case atStart => exact ⟨0, Nat.zero_le _, rfl, rfl, Below.refl _ _⟩
          case round =>
            obtain ⟨k, hk, rfl, rfl, hB2⟩ := hrel
            by_cases hlt : k < F.length
            · obtain ⟨b, off, hk', rfl, hx1, hx2⟩ := (hrf2.below hB2).pfx hlt
              have HSN := Lib.hid (isN_snoc F a k hk')
              have hc : isN (F.take k) a ≤ 32 := by
                have h1 : isN (F.take k) a ≤ (F.take k).length := List.countP_le_length
                have h2 : (F.take k).length ≤ k := List.length_take_le _ _
                omega
              have HC := Lib.hid (HV2.out _ (List.getElem_mem hk'))
              obtain ⟨x, hX⟩ : ∃ x, F[k] = x := ⟨_, rfl⟩
              rw [hX] at hx1 hx2 HSN HC
              clear hX
              go_wp2_with fail
              (with_reducible refine (has_ok _ _ _ _ HC.out hin).mono ?_)
              rintro e w3 ⟨rfl, hb⟩
              replace hB2 := below_call hB2 hb
              clear hb hx1 hx2
              generalize hasI x.1 x.2 a = bx at *
              generalize isN (F.take k) a = q at *
              rcases bx with _ | _
              all_goals
                go_wp2
                go_roundw
                case rel => exact ⟨k + 1, by omega, by go_num, by rw [HSN.out]; first | rfl | (simp; done), hB2⟩
                case measure => simp [intOf]; omega
            · obtain rfl : k = F.length := by omega
              rw [List.take_length] at *
              obtain ⟨i1, i2⟩ := HW.out
              have HBz := Lib.hid (below_call hB hB2)
              have hq : isN F a = 0 ∨ isN F a = 1 := by omega
              rcases hq with hq | hq
              · rw [hq] at i2 ⊢
                have hw : wasB xs a = false := by rw [Bool.eq_false_iff]; exact fun h => absurd (i2.1 h) (by decide)
                rw [hw]
                clear i1 i2 hq hw
                go_wp2
                go_ret
                exact ⟨rfl, HBz.out⟩
              · rw [hq] at i2 ⊢
                have hw : wasB xs a = true := i2.2 rfl
                rw [hw]
                clear i1 i2 hq hw
                go_wp2
                go_ret
                exact ⟨rfl, HBz.out⟩
  · obtain ⟨k, HK⟩ : ∃ k, Hid (fewE xs = k) := ⟨_, Lib.hid rfl⟩
    have HX : Hid (k ≠ 0) := Lib.hid (by rw [← HK.out]; exact hx)
    clear hx
    go_enter Try.func7, Try.ntmps7
    go_wp2_with (go_at_call 16; refine (cidrFact_any _).mono ?_; rintro e w1 ⟨rfl, hb⟩; replace hB := below_call hB hb; clear hb)
    (with_reducible refine (fewest_bad _ _ _ xs _ _ HN.out (hr.below hB) HK.out HX.out).mono ?_)
    rintro e w2 ⟨rfl, hb⟩
    replace hB := below_call hB hb
    clear hb
    go_wp2
    go_ret
    exact ⟨rfl, hB⟩
end Go.Proofs.Ytfgpppgehbpblaa
