/- The walk of the law LpmLongest. -/
import Derived.Test.YtfgpppgehbpblaaDoorLpmFact
import Derived.Test.YtfgpppgehbpblaaDoorLawIn
import Derived.Test.YtfgpppgehbpblaaDoorRtAll
import Derived.Test.YtfgpppgehbpblaaDoorErrV
namespace Go.Proofs.YtfgpppgehbpblaaDoor
open Go.RowKit Lp
theorem rt_check {k u : Nat} (hk : k ≤ 16) (hu : u < 2 ^ k) : checkE ((u * 2 ^ (16 - k) : Nat) : Int) (k : Int) = 0 := by
  have e3 : 2 ^ k * 2 ^ (16 - k) = 65536 := by rw [← Nat.pow_add, show k + (16 - k) = 16 from by omega]
  have hp := Px.pow_pos (16 - k)
  have hm : (u + 1) * 2 ^ (16 - k) ≤ 2 ^ k * 2 ^ (16 - k) := Nat.mul_le_mul_right _ hu
  rw [Nat.add_mul, Nat.one_mul, e3] at hm
  have i1 : inB ((u * 2 ^ (16 - k) : Nat) : Int) 0 65535 = true := inB_true.2 ⟨by omega, by omega⟩
  have i2 : inB (k : Int) 0 16 = true := inB_true.2 ⟨by omega, by omega⟩
  have hz : szI (k : Int) = ((2 ^ (16 - k) : Nat) : Int) := rfl
  unfold checkE
  rw [i1, i2, hz, ← Int.natCast_emod, Nat.mul_mod_left]
  rfl
theorem rt_in {h : Hops} {k u x : Nat} (hk : k ≤ 16) (hu : u < 2 ^ k) : inPB (rt h k u).1 (rt h k u).2.1 x = decide (pn x k = u) := by
  have e := inPB_pn (x := x) (rt_check hk hu)
  have e2 : pn (u * 2 ^ (16 - k)) k = u := by unfold pn; exact Nat.mul_div_cancel _ (Px.pow_pos _)
  rw [e2] at e
  exact e
theorem route_check {h : Hops} {t : Rt} (ht : t ∈ routesL h) : checkE t.1 t.2.1 = 0 := by
  obtain ⟨k, hk, u, hu, _, rfl⟩ := routes_mem.1 ht
  exact rt_check hk hu
theorem long_neg {h : Hops} {x : Nat} {t : Rt} (hn : (best h x 17).1 < 0) (ht : t ∈ routesL h) : inPB t.1 t.2.1 x = false := by
  obtain ⟨k, hk, u, hu, h0, rfl⟩ := routes_mem.1 ht
  rw [rt_in hk hu]
  apply decide_eq_false
  rintro rfl
  rcases best_cases h x 17 with ⟨_, hb⟩ | ⟨l, _, h1, h2, _⟩
  · have := hb k (by omega); omega
  · rw [h2] at hn; simp only at hn; omega
theorem long_pos {h : Hops} {x : Nat} {t : Rt} (hn : 0 ≤ (best h x 17).1) (ht : t ∈ routesL h) (hi : inPB t.1 t.2.1 x = true) : t.2.1 ≤ ((best h x 17).2 : Nat) ∧ (t.2.1 = ((best h x 17).2 : Nat) → t.2.2 = (best h x 17).1) := by
  obtain ⟨k, hk, u, hu, h0, rfl⟩ := routes_mem.1 ht
  rw [rt_in hk hu] at hi
  have e := of_decide_eq_true hi
  subst e
  rcases best_cases h x 17 with ⟨h2, _⟩ | ⟨l, _, h1, h2, h3⟩
  · rw [h2] at hn; simp at hn
  · rw [h2]
    show (k : Int) ≤ (l : Int) ∧ ((k : Int) = (l : Int) → h k (pn x k) = h l (pn x l))
    have hkl : k ≤ l := by
      by_cases hlt : l < k
      · have := h3 k hlt (by omega); omega
      · omega
    refine ⟨by omega, fun e => ?_⟩
    obtain rfl : k = l := by omega
    rfl
theorem long_there {h : Hops} {x : Nat} (hx : x < 65536) (hn : 0 ≤ (best h x 17).1) : ∃ t, t ∈ routesL h ∧ inPB t.1 t.2.1 x = true ∧ t.2.1 = ((best h x 17).2 : Nat) := by
  rcases best_cases h x 17 with ⟨h2, _⟩ | ⟨l, hl, h1, h2, _⟩
  · rw [h2] at hn; simp at hn
  · have hl16 : l ≤ 16 := by omega
    have hp := pn_lt hx hl16
    refine ⟨rt h l (pn x l), routes_mem.2 ⟨l, hl16, _, hp, h1, rfl⟩, ?_, ?_⟩
    · rw [rt_in hl16 hp]; exact decide_eq_true rfl
    · rw [h2]; rfl
set_option maxRecDepth 100000 in
set_option maxHeartbeats 8000000 in
theorem lpmLongest_any (A : Option Addr) (n c : Nat) (xss : List (List Int)) (ad : Int) (w : World) (hr : RowsW w A n xss) (hn : n ≤ maxLen) (hl : LaidW w) :
    Calls Tryd.prog 4 #[.slice A n c, .int .i64 ad] w fun e w' => e = .returned (.bool true) ∧ Below w.heap.size w w' := by
  have hB : Below w.heap.size w w := Below.refl _ _
  have HN := Lib.hid hn
  have HL := Lib.hid hl
  clear hn hl
  go_enter Tryd.func4, Tryd.ntmps4
  go_wp2_with fail
  (with_reducible refine (lpmFact_any _).mono ?_)
  rintro e w1 ⟨rfl, hb⟩
  replace hB := below_call hB hb
  clear hb
  go_wp2_with fail
  (with_reducible refine (routed_any _ _ _ _ _ (hr.below hB) HN.out).mono ?_)
  rintro e w2 ⟨tb, r, F, h, many, S, rfl, t, _, hb⟩
  replace hB := below_call hB hb
  clear hb
  have HRT := Lib.hid (routes_any w2 t.tab (fun i hi => (t.lows i hi).2))
  go_wp2_with fail
  (with_reducible refine HRT.out.mono ?_)
  rintro e w3 ⟨v3, rfl, ho, hb⟩
  obtain ⟨A3, c3, rfl⟩ := ho.shape
  have ht3 : TabF w3 S tb r F h many := t.tab.below hb
  replace hB := below_call hB hb
  clear hb HRT t
  obtain ⟨xs, hxs⟩ : ∃ xs, routesL h = xs := ⟨_, rfl⟩
  have HXS := Lib.hid hxs
  have hxl : xs.length ≤ 200000 := by
    have := preR_len h 16 0 0
    have e : (preR h 16 0 0).length = xs.length := congrArg List.length hxs
    rw [e] at this
    omega
  rw [hxs] at ho
  rw [hxs]
  clear hxs
  have HO := Lib.hid ho
  clear ho
  rcases hin : inB ad 0 65535 with _ | _
  · go_wp2_with fail
    (with_reducible refine (find_bad (tb := tb) _ _ hin).mono ?_)
    rintro e w4 ⟨rfl, rfl⟩
    go_wp2_with ((go_at_call 10; refine (in_any _ _ _ _).mono ?_; rintro e w' ⟨rfl, rfl⟩); rw [hin])
    (with_reducible refine (error_errno 1 1 _ (HL.out.below hB)).mono ?_)
    rintro e w5 ⟨rfl, hb⟩
    go_wp2
    go_ret
    exact ⟨rfl, below_call hB hb⟩
  · obtain ⟨x0, x1⟩ := inB_true.1 hin
    obtain ⟨x, rfl⟩ := Int.eq_ofNat_of_zero_le x0
    have hx : x < 65536 := by omega
    have HX := Lib.hid (And.intro x0 x1)
    obtain ⟨B, HBB⟩ : ∃ B, Hid (best h x 17 = B) := ⟨_, Lib.hid rfl⟩
    obtain ⟨b1, b2, b3⟩ := best_range h x 17
    rw [HBB.out] at b1 b2 b3
    have HF := Lib.hid (find_in x w3 ht3 hx)
    rw [HBB.out] at HF
    clear b3
    go_wp2_with fail
    (with_reducible refine HF.out.mono ?_)
    rintro e w4 ⟨f1, f2, g4⟩
    have hB4 := below_call hB g4.below
    have HO4 := Lib.hid (HO.out.mono g4)
    clear g4 HF hB
    by_cases hneg : B.1 < 0
    · have HNG : Hid (∀ t ∈ xs, inPB t.1 t.2.1 x = false) := Lib.hid (fun t ht => long_neg (by rw [HBB.out]; exact hneg) (by rw [HXS.out]; exact ht))
      have HCK : Hid (∀ t ∈ xs, checkE t.1 t.2.1 = 0) := Lib.hid (fun t ht => route_check (h := h) (by rw [HXS.out]; exact ht))
      obtain rfl := f1 hneg
      clear f1 f2
      go_wp2_with ((go_at_call 10; refine (in_any _ _ _ _).mono ?_; rintro e w' ⟨rfl, rfl⟩); rw [hin])
      obtain ⟨wo, rfl⟩ : ∃ wo : World, wo = w4 := ⟨_, rfl⟩
      go_loopw [11, 12] (fun f i wr => ∃ k : Nat, k ≤ xs.length ∧ i = .int .i64 k ∧ f = .bool false ∧ Grew wo wr) (fun _ i _ => xs.length - (intOf i).toNat)
      case atStart => exact ⟨0, Nat.zero_le _, rfl, rfl, Grew.refl _⟩
      case round =>
        obtain ⟨k, hk, rfl, rfl, hG⟩ := hrel
        by_cases hlt : k < xs.length
        · obtain ⟨b, off, hk', rfl, hx1, hx2, hx3⟩ := ((HO4.out).mono hG).rds.rte hlt
          have HIN := Lib.hid (HNG.out xs[k] (List.getElem_mem hk'))
          have HCE := Lib.hid (HCK.out xs[k] (List.getElem_mem hk'))
          obtain ⟨⟨ta, tl, th⟩, hT⟩ : ∃ t, xs[k] = t := ⟨_, rfl⟩
          rw [hT] at hx1 hx2 hx3 HIN HCE
          simp only at hx1 hx2 hx3
          clear hT hin
          go_wp2_with fail
          (with_reducible refine (refPrefix_any _ _ _).mono ?_)
          rintro e w6 ⟨rfl, g6⟩
          rw [HCE.out]
          replace hx1 := g6.cell (cell_lt hx1) hx1
          replace hx2 := g6.cell (cell_lt hx2) hx2
          replace hx3 := g6.cell (cell_lt hx3) hx3
          replace hG := hG.trans' g6
          clear g6
          go_wp2_with fail
          (with_reducible refine (refInP_any _ _ _ _ HCE.out HX.out).mono ?_)
          rintro e w7 ⟨rfl, g7⟩
          rw [HIN.out]
          replace hG := hG.trans' g7
          clear g7 hx1 hx2 hx3
          go_wp2
          go_roundw
          case rel => exact ⟨k + 1, by omega, by go_num, rfl, hG⟩
          case measure => simp [intOf]; omega
        · have HG := Lib.hid hG
          have HB5 := Lib.hid (below_call hB4 hG.below)
          clear hG
          go_wp2_with fail
          (with_reducible refine (error_errno 5 5 _ (HL.out.below HB5.out)).mono ?_)
          rintro e w5 ⟨rfl, hb⟩
          go_wp2
          go_ret
          exact ⟨rfl, below_call HB5.out hb⟩
    · have hpos : 0 ≤ B.1 := Int.not_lt.1 hneg
      have HPS : Hid (∀ t ∈ xs, inPB t.1 t.2.1 x = true → t.2.1 ≤ (B.2 : Nat) ∧ (t.2.1 = (B.2 : Nat) → t.2.2 = B.1)) := Lib.hid (fun t ht hi => by
        have := long_pos (h := h) (x := x) (t := t) (by rw [HBB.out]; exact hpos) (by rw [HXS.out]; exact ht) hi
        rwa [HBB.out] at this)
      have HTH : Hid (∃ t, t ∈ xs ∧ inPB t.1 t.2.1 x = true ∧ t.2.1 = (B.2 : Nat)) := Lib.hid (by
        have := long_there (h := h) hx (by rw [HBB.out]; exact hpos)
        rwa [HBB.out, HXS.out] at this)
      have HCK : Hid (∀ t ∈ xs, checkE t.1 t.2.1 = 0) := Lib.hid (fun t ht => route_check (h := h) (by rw [HXS.out]; exact ht))
      obtain rfl := f2 hpos
      clear f1 f2 hneg
      obtain ⟨z, lb⟩ := B
      simp only at b1 b2 hpos HPS HTH
      go_wp2_with fail
      obtain ⟨wo, rfl⟩ : ∃ wo : World, wo = w4 := ⟨_, rfl⟩
      go_loopw [11, 12] (fun f i wr => ∃ (k : Nat) (fb : Bool), k ≤ xs.length ∧ i = .int .i64 k ∧ f = .bool fb ∧ Grew wo wr ∧ ((∃ t, t ∈ xs.take k ∧ inPB t.1 t.2.1 x = true ∧ t.2.1 = (lb : Int)) → fb = true)) (fun _ i _ => xs.length - (intOf i).toNat)
      case atStart => exact ⟨0, false, Nat.zero_le _, rfl, rfl, Grew.refl _, fun ⟨t, ht, _⟩ => by simp at ht⟩
      case round =>
        obtain ⟨k, fb, hk, rfl, rfl, hG, hq⟩ := hrel
        have HQ := Lib.hid hq
        clear hq
        by_cases hlt : k < xs.length
        · obtain ⟨b, off, hk', rfl, hx1, hx2, hx3⟩ := ((HO4.out).mono hG).rds.rte hlt
          have HPX := Lib.hid (HPS.out xs[k] (List.getElem_mem hk'))
          have HCE := Lib.hid (HCK.out xs[k] (List.getElem_mem hk'))
          have HTK : Hid (xs.take (k + 1) = xs.take k ++ [xs[k]]) := Lib.hid (List.take_succ_eq_append_getElem hk')
          obtain ⟨⟨ta, tl, th⟩, hT⟩ : ∃ t, xs[k] = t := ⟨_, rfl⟩
          rw [hT] at hx1 hx2 hx3 HPX HCE HTK
          simp only at hx1 hx2 hx3 HPX HCE
          clear hT hin
          go_wp2_with fail
          (with_reducible refine (refPrefix_any _ _ _).mono ?_)
          rintro e w6 ⟨rfl, g6⟩
          rw [HCE.out]
          replace hx1 := g6.cell (cell_lt hx1) hx1
          replace hx2 := g6.cell (cell_lt hx2) hx2
          replace hx3 := g6.cell (cell_lt hx3) hx3
          replace hG := hG.trans' g6
          clear g6
          go_wp2_with fail
          (with_reducible refine (refInP_any _ _ _ _ HCE.out HX.out).mono ?_)
          rintro e w7 ⟨rfl, g7⟩
          replace hx1 := g7.cell (cell_lt hx1) hx1
          replace hx2 := g7.cell (cell_lt hx2) hx2
          replace hx3 := g7.cell (cell_lt hx3) hx3
          replace hG := hG.trans' g7
          clear g7
          rcases hi2 : inPB ta tl x with _ | _
          · have HI2 := Lib.hid hi2
            clear hi2 hx1 hx2 hx3
            go_wp2
            go_roundw
            case rel =>
              refine ⟨k + 1, fb, by omega, by go_num, rfl, hG, fun ⟨t, ht, h1, h2⟩ => ?_⟩
              rw [HTK.out, List.mem_append, List.mem_singleton] at ht
              rcases ht with ht | rfl
              · exact HQ.out ⟨t, ht, h1, h2⟩
              · rw [HI2.out] at h1; cases h1
            case measure => simp [intOf]; omega
          · obtain ⟨hle, hhop⟩ := HPX.out hi2
            have HHOP := Lib.hid hhop
            clear hi2 hhop
            rcases fb with _ | _
            · by_cases hll : tl = (lb : Int)
              · have hzz : (th == z) = true := by rw [beq_iff_eq]; exact HHOP.out hll
                have hlb : (tl == (lb : Int)) = true := by rw [beq_iff_eq]; exact hll
                clear hll
                go_wp2
                go_roundw
                case rel => exact ⟨k + 1, true, by omega, by go_num, rfl, hG, fun _ => rfl⟩
                case measure => simp [intOf]; omega
              · have HLL := Lib.hid hll
                have hlb : (tl == (lb : Int)) = false := by rw [beq_eq_false_iff_ne]; exact hll
                clear hll
                go_wp2
                go_roundw
                case rel =>
                  refine ⟨k + 1, false, by omega, by go_num, rfl, hG, fun ⟨t, ht, h1, h2⟩ => ?_⟩
                  rw [HTK.out, List.mem_append, List.mem_singleton] at ht
                  rcases ht with ht | rfl
                  · exact HQ.out ⟨t, ht, h1, h2⟩
                  · exact absurd h2 HLL.out
                case measure => simp [intOf]; omega
            · go_wp2
              go_roundw
              case rel => exact ⟨k + 1, true, by omega, by go_num, rfl, hG, fun _ => rfl⟩
              case measure => simp [intOf]; omega
        · have hfb : fb = true := HQ.out (by
            obtain ⟨t, ht, h1, h2⟩ := HTH.out
            exact ⟨t, by rw [List.take_of_length_le (by omega)]; exact ht, h1, h2⟩)
          subst hfb
          go_wp2
          go_ret
          exact ⟨rfl, below_call hB4 hG.below⟩
end Go.Proofs.YtfgpppgehbpblaaDoor
