/- Rows of bits between flags, and a text in parts, are what was sent: ferryhythetop.TopFrames returns true. -/
import Derived.Test.YtbmajajndckfoaaStuffFramesLaw
import Derived.Test.YtbmajajndckfoaaFragFact
import Derived.Test.YtbmajajndckfoaaMux
import Derived.Deep.RegionWith
import Derived.Deep.RegionHeld3
namespace Go.Proofs.Ytbmajajndckfoaa
open Go.RowKit
attribute [local go_sem ↓] Go.wp_at_zero Go.wp_at_succ
theorem one_stuff : stuffL [1] = [1] ∧ bitsE [1] = 0 := by decide
/-- What came of a stream goes together with the text. -/
def GoodM (t : ByteArray) (h : Nat → Bool) (d : Nat → Int) : Prop := ∀ x, h x = true → x < t.size ∧ d x = byteI t x
theorem GoodM.put {t : ByteArray} {h : Nat → Bool} {d : Nat → Int} (g : GoodM t h d) {p : Pt} (hp : Gin t p) : GoodM t (putH h p.1.toNat p.2.2.size) (putF d p.1.toNat p.2.2 p.2.2.size) := by
  intro x hx
  unfold putH at hx
  unfold putF
  by_cases hin : p.1.toNat ≤ x ∧ x < p.1.toNat + p.2.2.size
  · obtain ⟨g1, g2⟩ := hp.get (x - p.1.toNat) (by omega)
    rw [show p.1.toNat + (x - p.1.toNat) = x from by omega] at g1 g2
    rw [if_pos hin]
    exact ⟨g1, g2⟩
  · rw [decide_eq_false hin, Bool.false_or] at hx
    rw [if_neg hin]
    exact g x hx
theorem GoodM.free {t : ByteArray} {h : Nat → Bool} {d : Nat → Int} (g : GoodM t h d) {p : Pt} (hp : Gin t p) : ∀ j, j < p.2.2.size → h (p.1.toNat + j) = true → d (p.1.toNat + j) = byteI p.2.2 j := by
  intro j hj hh
  rw [(hp.get j hj).2]
  exact (g _ hh).2
theorem putH_in {h : Nat → Bool} {p : Pt} {x : Nat} (hx : inP p x = true) : putH h p.1.toNat p.2.2.size x = true := by
  unfold putH
  unfold inP at hx
  rw [hx, Bool.true_or]
theorem OnlyAt.rds {b : Nat} {w w' : World} {A : Option Addr} {n sz : Nat} {xs : List Value} (h : OnlyAt b w w') (hr : Rds w sz A n xs) (hn : ∀ a, A = some a → 0 < n → a.block ≠ b) : Rds w' sz A n xs := by
  refine ⟨hr.1, fun hp => ?_⟩
  obtain ⟨b2, off, e, hc⟩ := hr.2 hp
  have h0 : 0 < n := by
    rcases Nat.eq_zero_or_pos n with h9 | h9
    · have := hr.1; subst h9; omega
    · exact h9
  refine ⟨b2, off, e, fun j hj => ?_⟩
  have hv := hc j hj
  rw [List.getElem?_eq_getElem hj] at hv ⊢
  exact h.cell (p := ⟨b2, off + j, none⟩) (show b2 ≠ b from hn _ e h0) hv
theorem putH_old {h : Nat → Bool} {a k x : Nat} (hx : h x = true) : putH h a k x = true := by unfold putH; rw [hx, Bool.or_true]
set_option maxRecDepth 100000 in
set_option maxHeartbeats 4000000 in
theorem topFrames_any (A : Option Addr) (n c : Nat) (xss : List (List Int)) (t : ByteArray) (size : Int) (w : World) (hr : RowsW w A n xss) (hn : n ≤ 2000000) (hm : t.size ≤ maxLen) :
    Calls Try.prog 9 #[.slice A n c, .string t, .int .i64 size] w fun e w' => e = .returned (.bool true) ∧ Below w.heap.size w w' := by
  have hB := Below.refl w.heap.size w
  obtain ⟨rfl, _⟩ := id hr
  have HM := Lib.hid hm
  obtain ⟨o1, o2⟩ := one_stuff
  have HST := Lib.hid o1
  have HBE1 := Lib.hid o2
  clear hm o1 o2
  have hB1 : Below w.heap.size w (w.alloc (.cells #[.int .i64 1] 3)) := hB.alloc (Nat.le_refl _) _
  go_enter Try.func9, Try.ntmps9
  go_wp2_with fail
  (with_reducible refine (stuff_ok _ 1 _ [1] _ (rds_one w 1 _) (by unfold maxLen; omega) HBE1.out).mono ?_)
  rw [HST.out]
  rintro e w1 ⟨A1, c1, rfl, ho1, _, _, hb⟩
  replace hB := below_call hB1 hb
  clear hB1 hb
  go_wp2_with fail
  (with_reducible refine (ints_any _ _ 1 _ 1 _ [1] [1] _ (ho1.rds.alloc _) (rds_one w1 1 _) (by unfold maxLen; omega) (by unfold maxLen; omega)).mono ?_)
  rintro e w2 ⟨rfl, q, rfl⟩
  replace hB := below_drewN (hB.alloc hB.size (.cells #[.int .i64 1] 3)) q
  obtain ⟨w2, hw2⟩ : ∃ w2, (w1.alloc (.cells #[.int .i64 1] 3)).drewN q = w2 := ⟨_, rfl⟩
  rw [hw2] at hB ⊢
  rw [show decide (([1] : List Int) = [1]) = true from by decide]
  clear hw2 ho1
  go_wp2_with (go_at_call 23; (with_reducible refine (flag_any _).mono ?_); rintro e w' ⟨rfl, rfl⟩)
  have hB2 := hB.alloc hB.size (.cells #[.int .i64 0, .int .i64 1, .int .i64 1, .int .i64 1, .int .i64 1, .int .i64 1, .int .i64 1, .int .i64 0] 3)
  have HF0 := Lib.hid (own_flag w2 w.heap.size hB.size)
  have HB2 := Lib.hid hB2
  clear hB hB2
  go_loopw [9, 10, 11] (fun bv mv i wr => ∃ (k : Nat) (E : List Int) (A1 : Option Addr) (c1 : Nat) (y : Nat), k ≤ xss.length ∧ i = .int .i64 k ∧ bv = .slice A1 E.length c1 ∧ mv = .int .i64 y ∧ E = encL (xss.take k) ∧ y = (fullL (xss.take k)).length ∧ y ≤ k ∧ Own wr w.heap.size (.slice A1 E.length c1) E ∧ E.length ≤ c1 ∧ c1 ≤ maxLen ∧ E.length ≤ 8 + 248 * k ∧ (∀ r ∈ xss.take k, Bits r) ∧ Below w.heap.size w wr) (fun _ _ i _ => xss.length - (intOf i).toNat)
  case atStart => exact ⟨0, flagL, _, _, 0, Nat.zero_le _, rfl, rfl, rfl, rfl, rfl, Nat.le_refl _, HF0.out, by decide, by unfold maxLen; omega, by decide, by simp, HB2.out⟩
  case round =>
    obtain ⟨k, E, A1, c1, y, hk, rfl, rfl, rfl, hE, hG, hyk, hbo, hbc1, hbc2, hlen, hbits, hB⟩ := hrel
    have HE := Lib.hid hE
    have HG := Lib.hid hG
    have HBT := Lib.hid hbits
    clear hE hG hbits
    by_cases hlt : k < xss.length
    · obtain ⟨b, off, C, cc, rfl, hcell0, hrd0, h1, h2⟩ := hr.2 k hlt
      have hbl := cell_lt hcell0
      have hcell := (hB.cell (p := ⟨b, off + k, none⟩) hbl).trans hcell0
      have HT := Lib.hid (List.take_succ_eq_append_getElem hlt)
      have HEN := Lib.hid (encL_snoc (xss.take k) xss[k])
      have HGN := Lib.hid (fullL_snoc (xss.take k) xss[k])
      obtain ⟨r, hR⟩ : ∃ r, xss[k] = r := ⟨_, rfl⟩
      rw [hR] at hcell hrd0 h1 HT HEN HGN
      have hrd := hrd0.below hB
      clear hR hcell0 hrd0
      by_cases hbE : bitsE r = 0
      · obtain ⟨hbr, hl200⟩ := bits_of_ok hbE
        have HBE := Lib.hid hbE
        have HBR := Lib.hid hbr
        have hs5 := (stuffL_len r hbr).2
        have hs1 := (stuffL_len r hbr).1
        have h8 : flagL.length = 8 := rfl
        clear hbE hbr
        go_wp2_with fail
        (with_reducible refine (stuff_ok _ _ _ r _ hrd (Nat.le_trans h1 h2) HBE.out).mono ?_)
        rintro e w2 ⟨B, d, rfl, hol, hd1, hd2, hb⟩
        have hB2 := below_call hB hb
        have hbo2 := hbo.below hb
        have hcell2 := (hb.cell (p := ⟨b, off + k, none⟩) (cell_lt hcell)).trans hcell
        have hlr := hol.rds
        clear hol hb hbo hcell hrd
        generalize hS : stuffL r = s at *
        have HSS := Lib.hid hS
        clear hS
        go_wp2_with (at_builtin; refine wp_append_ints w2 rfl (.tmp 55) (.tmp 56) rfl w w.heap.size (.slice A1 E.length c1) E rfl hbo2 B s.length d s rfl hlr (by omega) hB2.size hB2 ?_; intro A4 c4 w4 ho4 hc3 hc4 hB4 _ _)
        have hcell4 := (hB4.cell (p := ⟨b, off + k, none⟩) hbl).trans ((hB2.cell (p := ⟨b, off + k, none⟩) hbl).symm.trans hcell2)
        have hE4 : (E ++ s).length = E.length + s.length := List.length_append
        rw [← hE4] at ho4 hc3 ⊢
        have hl4 : (E ++ s).length ≤ 8 + 248 * k + 240 := by rw [List.length_append]; omega
        clear hE4 hbo2 hcell2 hlr hB2 hB
        generalize hE2 : E ++ s = E2 at *
        have HE2 := Lib.hid hE2
        clear hE2
        have hB5 := hB4.alloc hB4.size (.cells #[.int .i64 0, .int .i64 1, .int .i64 1, .int .i64 1, .int .i64 1, .int .i64 1, .int .i64 1, .int .i64 0] 3)
        have ho5 := ho4.below ((Below.refl _ _).alloc (Nat.le_refl _) (.cells #[.int .i64 0, .int .i64 1, .int .i64 1, .int .i64 1, .int .i64 1, .int .i64 1, .int .i64 1, .int .i64 0] 3))
        have hdor : (0 < r.length ∧ decide (0 < r.length) = true) ∨ (¬ 0 < r.length ∧ decide (0 < r.length) = false) := by
          by_cases h0 : 0 < r.length
          · exact .inl ⟨h0, decide_eq_true h0⟩
          · exact .inr ⟨h0, decide_eq_false h0⟩
        rcases hdor with ⟨h0, hd0⟩ | ⟨h0, hd0⟩
        all_goals
          go_wp2_with (first | (go_at_call 23; (with_reducible refine (flag_any _).mono ?_); rintro e w' ⟨rfl, rfl⟩) | (at_builtin; refine wp_append_ints (w4.alloc (.cells #[.int .i64 0, .int .i64 1, .int .i64 1, .int .i64 1, .int .i64 1, .int .i64 1, .int .i64 1, .int .i64 0] 3)) rfl (.tmp 58) (.tmp 59) rfl w w.heap.size (.slice A4 E2.length c4) E2 rfl ho5 _ 8 8 flagL rfl (rds_flag w4) (by rw [h8]; omega) hB5.size hB5 ?_; intro A6 c6 w6 ho6 hc5 hc6 hB6 _ _; have hcell6 := (hB6.cell (p := ⟨b, off + k, none⟩) hbl).trans ((hB4.cell (p := ⟨b, off + k, none⟩) hbl).symm.trans hcell4)))
          have hE6 : (E2 ++ flagL).length = E2.length + 8 := by rw [List.length_append, h8]
          have hl6 : (E2 ++ flagL).length ≤ 8 + 248 * (k + 1) := by rw [hE6]; omega
          have HHE : Hid (E2 ++ flagL = encL (xss.take (k + 1))) := Lib.hid (by rw [HT.out, HEN.out, ← HE.out, HE2.out])
          have HHB : Hid (∀ r' ∈ xss.take (k + 1), Bits r') := Lib.hid (by
            rw [HT.out]
            intro r' hr'
            rcases List.mem_append.1 hr' with h | h
            · exact HBT.out r' h
            · rw [List.mem_singleton.1 h]; exact HBR.out)
          rw [← hE6] at ho6 hc5
          have HHG := Lib.hid (show (fullL (xss.take (k + 1))).length = (if 0 < r.length then fullL (xss.take k) ++ [r] else fullL (xss.take k)).length from by rw [HT.out, HGN.out])
          have HL6 := Lib.hid hE6
          have HC6 := Lib.hid hc5
          clear hE6 hc5
          first | rw [if_pos h0] at HHG | rw [if_neg h0] at HHG
          go_roundw
          case rel => first | exact ⟨k + 1, E2 ++ flagL, A6, c6, y, by omega, by go_num, by rw [HL6.out], rfl, HHE.out, by rw [HHG.out]; exact HG.out, by omega, ho6, HC6.out, hc6, hl6, HHB.out, hB6⟩ | exact ⟨k + 1, E2 ++ flagL, A6, c6, y + 1, by omega, by go_num, by rw [HL6.out], by go_num, HHE.out, by rw [HHG.out, List.length_append, ← HG.out]; rfl, by omega, ho6, HC6.out, hc6, hl6, HHB.out, hB6⟩
          case measure => simp [intOf]; omega
      · have HBE := Lib.hid hbE
        clear hbE
        go_wp2_with fail
        (with_reducible refine (stuff_err _ _ _ r _ _ hrd (Nat.le_trans h1 h2) rfl HBE.out).mono ?_)
        rintro e w' ⟨rfl, rfl⟩
        go_wp2
        go_ret
        exact ⟨rfl, hB⟩
    · obtain rfl : k = xss.length := by omega
      rw [List.take_length] at *
      have hEb : Bits E := by rw [HE.out]; exact bits_encL _ HBT.out
      have HFR : Hid (framesL E = fullL xss) := Lib.hid (by rw [HE.out]; exact frames_enc _ HBT.out)
      have HEB := Lib.hid hEb
      have hrE := hbo.rds
      have HML : Hid (E.length ≤ maxLen) := Lib.hid (Nat.le_trans hbc1 hbc2)
      have HBC := Lib.hid hbc1
      have HBC2 := Lib.hid hbc2
      clear hEb
      have HMID : Hid (∃ (A3 : Option Addr) (n3 c3 : Nat) (ev : Value), (E.length ≤ 200 → ev = .nilIface ∧ n3 = y) ∧ Calls Try.prog 16 #[.slice A1 E.length c1] wr fun e w' => ∃ A3 n3 c3 ev, e = .returned (.tuple #[.slice A3 n3 c3, ev]) ∧ (E.length ≤ 200 → ev = .nilIface ∧ n3 = y) ∧ Below wr.heap.size wr w') := Lib.hid (by
        refine ⟨none, y, 0, .nilIface, fun _ => ⟨rfl, rfl⟩, ?_⟩
        by_cases h200 : E.length ≤ 200
        · refine (frames_ok _ _ _ E _ hrE hbc1 hbc2 (bitsE_ok HEB.out h200)).mono ?_
          rw [HFR.out]
          rintro e w2 ⟨A3, c3, rfl, ho3, hb⟩
          exact ⟨A3, _, c3, _, rfl, fun _ => ⟨rfl, HG.out.symm⟩, hb⟩
        · have HE4 : bitsE E = 4 := by unfold bitsE; rw [if_pos (by omega)]
          refine (frames_err _ _ _ E _ _ hrE HML.out HE4 (by decide)).mono ?_
          rintro e w2 ⟨rfl, rfl⟩
          exact ⟨none, 0, 0, _, rfl, fun h => absurd h h200, Below.refl _ _⟩)
      have HCALL : Hid (Calls Try.prog 16 #[.slice A1 E.length c1] wr fun e w' => ∃ A3 n3 c3 ev, e = .returned (.tuple #[.slice A3 n3 c3, ev]) ∧ (E.length ≤ 200 → ev = .nilIface ∧ n3 = y) ∧ Below wr.heap.size wr w') := Lib.hid (by
        obtain ⟨_, _, _, _, _, h⟩ := HMID.out
        exact h)
      clear HMID
      by_cases h200 : E.length ≤ 200
      · have HN : Hid (E.length ≤ 200) := Lib.hid h200
        go_wp2_with fail
        (with_reducible refine HCALL.out.mono ?_)
        rintro e w2 ⟨A3, n3, c3, ev, rfl, hev, hb⟩
        obtain ⟨rfl, rfl⟩ := hev HN.out
        replace hB := below_call hB hb
        clear hb hev
        by_cases he : cutE t size = 0
        rotate_left
        · have HV := Lib.hid (cutV_bad he)
          have HEE := Lib.hid (errV_ne he)
          clear he
          go_wp2_with fail
          (with_reducible refine (cut_law _ _ _ HM.out).mono ?_)
          rw [HV.out]
          rintro e w3 ⟨A4, c4, rfl, _, hb⟩
          replace hB := below_call hB hb
          clear hb
          rw [HEE.out]
          go_wp2
          go_ret
          exact ⟨rfl, hB⟩
        obtain ⟨sz, rfl, s1, s2, ht, hM, hV, hC⟩ := cutE_ok he
        have HV := Lib.hid hV
        have HEE := Lib.hid he
        have HTT := Lib.hid ht
        have hM1 := hC.one
        obtain ⟨M, hMM⟩ : ∃ M, cutM t sz = M := ⟨_, rfl⟩
        rw [hMM] at hM hV HV hC hM1
        have HL : Hid ((partsL t sz M).length = M) := Lib.hid (partsL_len _ _ _)
        have HGN : Hid (∀ p ∈ partsL t sz M, Gin t p) := Lib.hid (fun p hp => gin_of (cut_of hC p hp) ht)
        have HW : Hid (wholeB t (partsL t sz M) = true) := Lib.hid (cut_whole hC s1 (fun p h => h))
        clear he hV hC ht hMM
        go_wp2_with fail
        (with_reducible refine (cut_law _ _ _ HM.out).mono ?_)
        rw [HV.out, HEE.out, errV_zero]
        rintro e w3 ⟨A4, c4, rfl, ho, hb⟩
        rw [HL.out] at ho ⊢
        replace hB := below_call hB hb
        have HLR := Lib.hid ho.rds
        generalize partsL t sz M = L at *
        clear hb ho
        have hMw : IntKind.i64.wrap ((M : Int) - 1) = (M : Int) - 1 := IntWalk.i64_in _ (by constructor <;> omega)
        go_wp2_with fail
        (with_reducible refine (muxNew_any _).mono ?_)
        rintro e w4 ⟨rfl, hb4, hmx⟩
        have HB4 := Lib.hid (below_call hB hb4)
        have HL4 := Lib.hid (HLR.out.below hb4)
        have HMX := Lib.hid hmx
        have HB3 := Lib.hid hB.size
        obtain ⟨b, hb⟩ : ∃ b, w3.heap.size = b := ⟨_, rfl⟩
        have HBW : Hid (w.heap.size ≤ b) := Lib.hid (by rw [← hb]; exact hB.size)
        have HLB : Hid (∀ a, A4 = some a → 0 < M → a.block < b) := Lib.hid (fun a ha hM0 => by
          rw [← hb]
          obtain ⟨b9, off9, _, e9, hc9, _⟩ := HLR.out.part (k := 0) hM0
          rw [e9] at ha
          injection ha with ha
          rw [← ha]
          exact cell_lt hc9)
        rw [hb] at HMX ⊢
        clear hb4 hmx hB hb HB3
        obtain ⟨wo, rfl⟩ : ∃ wo : World, wo = w4 := ⟨_, rfl⟩
        go_wp2_with fail
        go_loopw [18] (fun v wq => ∃ (i : Nat) (h : Nat → Bool) (d : Nat → Int), i ≤ M ∧ v = .int .i64 ((i : Int) - 1) ∧ Mux wq b h d 0 ∧ GoodM t h d ∧ (∀ j (hj : j < L.length), i ≤ j → ∀ x, inP L[j] x = true → h x = true) ∧ OnlyAt b wo wq) (fun v _ => (intOf v + 1).toNat)
        case atStart => exact ⟨M, _, _, Nat.le_refl _, rfl, HMX.out, (fun x hx => by cases hx), (fun j hj hij => by have := HL.out; omega), OnlyAt.refl _ _⟩
        case round =>
          obtain ⟨i, h, d, hi, rfl, hmx, hgd, hall, hO⟩ := hrel
          have HGD := Lib.hid hgd
          have HALL := Lib.hid hall
          clear hgd hall
          rcases i with _ | i
          · have HJ : Hid (joinE L = 0 ∧ joinT L = t) := Lib.hid ((join_of (by rw [HL.out]; exact hM) HTT.out HGN.out).1 HW.out)
            have HCOV : Hid (∀ x, x < t.size → h x = true) := Lib.hid (fun x hx => by
              have hw := HW.out
              simp only [wholeB, Bool.and_eq_true, List.all_eq_true, List.mem_range] at hw
              have h2 := hw.2 x hx
              simp only [covB, List.any_eq_true] at h2
              obtain ⟨p, hp, hin⟩ := h2
              obtain ⟨j, hj, rfl⟩ := List.getElem_of_mem hp
              exact HALL.out j hj (Nat.zero_le _) x hin)
            have HRD := Lib.hid (read_ok b t wr h d hmx HTT.out (fun x _ => by
              by_cases hx : x < t.size
              · rw [decide_eq_true hx, HCOV.out x hx]
              · rw [decide_eq_false hx, Bool.eq_false_iff]
                exact fun h9 => hx (HGD.out x h9).1) (fun x hx => (HGD.out x (HCOV.out x hx)).2))
            have HM63 : Hid (M ≤ maxLen) := Lib.hid (by unfold maxLen; omega)
            clear hmx
            go_wp2_with fail
            (with_reducible refine HRD.out.mono ?_)
            rintro e w5 ⟨rfl, hO5⟩
            have hrL := (hO.trans hO5).rds HL4.out (fun a ha h0 => Nat.ne_of_lt (HLB.out a ha (by omega)))
            have HB5 := Lib.hid (HB4.out.trans ((hO.trans hO5).below HBW.out HB4.out.size))
            clear hO hO5
            go_wp2_with fail
            (with_reducible refine (join_any _ _ _ L _ hrL HM63.out).mono ?_)
            rintro e w6 ⟨rfl, hb6⟩
            rw [HJ.out.1, HJ.out.2, errV_zero]
            go_wp2
            go_ret
            exact ⟨by simp, below_call HB5.out hb6⟩
          · have hiL : i < L.length := by have := HL.out; omega
            have e1 : ((i + 1 : Nat) : Int) - 1 = (i : Int) := by omega
            rw [e1]
            have hrL := hO.rds HL4.out (fun a ha h0 => Nat.ne_of_lt (HLB.out a ha (by omega)))
            obtain ⟨b2, off2, hk2, rfl, hq1, hq2, hq3⟩ := hrL.part (k := i) (by omega)
            have HPI := Lib.hid (HGN.out _ (List.getElem_mem hk2))
            obtain ⟨p, hP⟩ : ∃ p, L[i] = p := ⟨_, rfl⟩
            have HPP := Lib.hid hP
            rw [hP] at hq1 hq2 hq3 HPI
            clear hP e1 hrL
            obtain ⟨pa, pm, pd⟩ := p
            simp only at hq1 hq2 hq3
            obtain ⟨p1, p2, p3⟩ := HPI.out.ok
            simp only at p1 p2 p3
            obtain ⟨an, rfl⟩ : ∃ an : Nat, pa = (an : Int) := ⟨pa.toNat, by omega⟩
            have HPUT := Lib.hid (fun q => put_ok b an pd (wr.drewN q) h d (show Mux (wr.drewN q) b h d 0 from hmx) (by omega) (HGD.out.free HPI.out))
            have HPUT1 := Lib.hid (put_ok b an pd wr.drew h d (show Mux wr.drew b h d 0 from hmx) (by omega) (HGD.out.free HPI.out))
            have HG2 := Lib.hid (HGD.out.put HPI.out)
            have hiM : i < M := by omega
            have hiM0 : (0 : Int) ≤ (i : Int) := by omega
            have hiM1 : (i : Int) < (M : Int) := by omega
            have hwi : IntKind.i64.wrap ((i : Int) - 1) = (i : Int) - 1 := IntWalk.i64_in _ (by constructor <;> omega)
            clear hmx p1 p2 p3
            go_wp2_with fail
            go_region_with ((go_at_call 25; (with_reducible refine HPUT1.out.mono ?_); rintro e w5 ⟨rfl, hO5, hm5⟩))
            all_goals
              go_wp2_with fail
              go_roundw
              case rel => exact ⟨i, _, _, by omega, rfl, hm5, HG2.out, fun j hj hij x hx => by
                by_cases e : j = i
                · subst e
                  rw [HPP.out] at hx
                  exact putH_in hx
                · exact putH_old (HALL.out j hj (by omega) x hx), hO.trans ((OnlyAt.refl b wr).drew.trans hO5)⟩
              case measure => simp [intOf]
      · have hev : ¬ (E.length : Int) ≤ 200 := by omega
        go_wp2_with fail
        (with_reducible refine HCALL.out.mono ?_)
        rintro e w2 ⟨A3, n3, c3, ev, rfl, _, hb⟩
        replace hB := below_call hB hb
        clear hb
        by_cases he : cutE t size = 0
        rotate_left
        · have HV := Lib.hid (cutV_bad he)
          have HEE := Lib.hid (errV_ne he)
          clear he
          go_wp2_with fail
          (with_reducible refine (cut_law _ _ _ HM.out).mono ?_)
          rw [HV.out]
          rintro e w3 ⟨A4, c4, rfl, _, hb⟩
          replace hB := below_call hB hb
          clear hb
          rw [HEE.out]
          go_wp2
          go_ret
          exact ⟨rfl, hB⟩
        obtain ⟨sz, rfl, s1, s2, ht, hM, hV, hC⟩ := cutE_ok he
        have HV := Lib.hid hV
        have HEE := Lib.hid he
        have HTT := Lib.hid ht
        have hM1 := hC.one
        obtain ⟨M, hMM⟩ : ∃ M, cutM t sz = M := ⟨_, rfl⟩
        rw [hMM] at hM hV HV hC hM1
        have HL : Hid ((partsL t sz M).length = M) := Lib.hid (partsL_len _ _ _)
        have HGN : Hid (∀ p ∈ partsL t sz M, Gin t p) := Lib.hid (fun p hp => gin_of (cut_of hC p hp) ht)
        have HW : Hid (wholeB t (partsL t sz M) = true) := Lib.hid (cut_whole hC s1 (fun p h => h))
        clear he hV hC ht hMM
        go_wp2_with fail
        (with_reducible refine (cut_law _ _ _ HM.out).mono ?_)
        rw [HV.out, HEE.out, errV_zero]
        rintro e w3 ⟨A4, c4, rfl, ho, hb⟩
        rw [HL.out] at ho ⊢
        replace hB := below_call hB hb
        have HLR := Lib.hid ho.rds
        generalize partsL t sz M = L at *
        clear hb ho
        have hMw : IntKind.i64.wrap ((M : Int) - 1) = (M : Int) - 1 := IntWalk.i64_in _ (by constructor <;> omega)
        go_wp2_with fail
        (with_reducible refine (muxNew_any _).mono ?_)
        rintro e w4 ⟨rfl, hb4, hmx⟩
        have HB4 := Lib.hid (below_call hB hb4)
        have HL4 := Lib.hid (HLR.out.below hb4)
        have HMX := Lib.hid hmx
        have HB3 := Lib.hid hB.size
        obtain ⟨b, hb⟩ : ∃ b, w3.heap.size = b := ⟨_, rfl⟩
        have HBW : Hid (w.heap.size ≤ b) := Lib.hid (by rw [← hb]; exact hB.size)
        have HLB : Hid (∀ a, A4 = some a → 0 < M → a.block < b) := Lib.hid (fun a ha hM0 => by
          rw [← hb]
          obtain ⟨b9, off9, _, e9, hc9, _⟩ := HLR.out.part (k := 0) hM0
          rw [e9] at ha
          injection ha with ha
          rw [← ha]
          exact cell_lt hc9)
        rw [hb] at HMX ⊢
        clear hb4 hmx hB hb HB3
        obtain ⟨wo, rfl⟩ : ∃ wo : World, wo = w4 := ⟨_, rfl⟩
        go_wp2_with fail
        go_loopw [18] (fun v wq => ∃ (i : Nat) (h : Nat → Bool) (d : Nat → Int), i ≤ M ∧ v = .int .i64 ((i : Int) - 1) ∧ Mux wq b h d 0 ∧ GoodM t h d ∧ (∀ j (hj : j < L.length), i ≤ j → ∀ x, inP L[j] x = true → h x = true) ∧ OnlyAt b wo wq) (fun v _ => (intOf v + 1).toNat)
        case atStart => exact ⟨M, _, _, Nat.le_refl _, rfl, HMX.out, (fun x hx => by cases hx), (fun j hj hij => by have := HL.out; omega), OnlyAt.refl _ _⟩
        case round =>
          obtain ⟨i, h, d, hi, rfl, hmx, hgd, hall, hO⟩ := hrel
          have HGD := Lib.hid hgd
          have HALL := Lib.hid hall
          clear hgd hall
          rcases i with _ | i
          · have HJ : Hid (joinE L = 0 ∧ joinT L = t) := Lib.hid ((join_of (by rw [HL.out]; exact hM) HTT.out HGN.out).1 HW.out)
            have HCOV : Hid (∀ x, x < t.size → h x = true) := Lib.hid (fun x hx => by
              have hw := HW.out
              simp only [wholeB, Bool.and_eq_true, List.all_eq_true, List.mem_range] at hw
              have h2 := hw.2 x hx
              simp only [covB, List.any_eq_true] at h2
              obtain ⟨p, hp, hin⟩ := h2
              obtain ⟨j, hj, rfl⟩ := List.getElem_of_mem hp
              exact HALL.out j hj (Nat.zero_le _) x hin)
            have HRD := Lib.hid (read_ok b t wr h d hmx HTT.out (fun x _ => by
              by_cases hx : x < t.size
              · rw [decide_eq_true hx, HCOV.out x hx]
              · rw [decide_eq_false hx, Bool.eq_false_iff]
                exact fun h9 => hx (HGD.out x h9).1) (fun x hx => (HGD.out x (HCOV.out x hx)).2))
            have HM63 : Hid (M ≤ maxLen) := Lib.hid (by unfold maxLen; omega)
            clear hmx
            go_wp2_with fail
            (with_reducible refine HRD.out.mono ?_)
            rintro e w5 ⟨rfl, hO5⟩
            have hrL := (hO.trans hO5).rds HL4.out (fun a ha h0 => Nat.ne_of_lt (HLB.out a ha (by omega)))
            have HB5 := Lib.hid (HB4.out.trans ((hO.trans hO5).below HBW.out HB4.out.size))
            clear hO hO5
            go_wp2_with fail
            (with_reducible refine (join_any _ _ _ L _ hrL HM63.out).mono ?_)
            rintro e w6 ⟨rfl, hb6⟩
            rw [HJ.out.1, HJ.out.2, errV_zero]
            go_wp2
            go_ret
            exact ⟨by simp, below_call HB5.out hb6⟩
          · have hiL : i < L.length := by have := HL.out; omega
            have e1 : ((i + 1 : Nat) : Int) - 1 = (i : Int) := by omega
            rw [e1]
            have hrL := hO.rds HL4.out (fun a ha h0 => Nat.ne_of_lt (HLB.out a ha (by omega)))
            obtain ⟨b2, off2, hk2, rfl, hq1, hq2, hq3⟩ := hrL.part (k := i) (by omega)
            have HPI := Lib.hid (HGN.out _ (List.getElem_mem hk2))
            obtain ⟨p, hP⟩ : ∃ p, L[i] = p := ⟨_, rfl⟩
            have HPP := Lib.hid hP
            rw [hP] at hq1 hq2 hq3 HPI
            clear hP e1 hrL
            obtain ⟨pa, pm, pd⟩ := p
            simp only at hq1 hq2 hq3
            obtain ⟨p1, p2, p3⟩ := HPI.out.ok
            simp only at p1 p2 p3
            obtain ⟨an, rfl⟩ : ∃ an : Nat, pa = (an : Int) := ⟨pa.toNat, by omega⟩
            have HPUT := Lib.hid (fun q => put_ok b an pd (wr.drewN q) h d (show Mux (wr.drewN q) b h d 0 from hmx) (by omega) (HGD.out.free HPI.out))
            have HPUT1 := Lib.hid (put_ok b an pd wr.drew h d (show Mux wr.drew b h d 0 from hmx) (by omega) (HGD.out.free HPI.out))
            have HG2 := Lib.hid (HGD.out.put HPI.out)
            have hiM : i < M := by omega
            have hiM0 : (0 : Int) ≤ (i : Int) := by omega
            have hiM1 : (i : Int) < (M : Int) := by omega
            have hwi : IntKind.i64.wrap ((i : Int) - 1) = (i : Int) - 1 := IntWalk.i64_in _ (by constructor <;> omega)
            clear hmx p1 p2 p3
            go_wp2_with fail
            go_region_with ((go_at_call 25; (with_reducible refine HPUT1.out.mono ?_); rintro e w5 ⟨rfl, hO5, hm5⟩))
            all_goals
              go_wp2_with fail
              go_roundw
              case rel => exact ⟨i, _, _, by omega, rfl, hm5, HG2.out, fun j hj hij x hx => by
                by_cases e : j = i
                · subst e
                  rw [HPP.out] at hx
                  exact putH_in hx
                · exact putH_old (HALL.out j hj (by omega) x hx), hO.trans ((OnlyAt.refl b wr).drew.trans hO5)⟩
              case measure => simp [intOf]
end Go.Proofs.Ytbmajajndckfoaa
