/- The walk of the law CidrHalves. -/
import Derived.Test.YtfgpppgehbpblaaCidrFew
import Derived.Test.YtfgpppgehbpblaaLawIn
import Derived.Test.YtfgpppgehbpblaaLawRef
import Derived.Deep.DeepCutAuto
import Derived.Deep.CutRange
import Derived.Deep.RegionHeld3
import Derived.Outline
namespace Go.Proofs.Ytfgpppgehbpblaa
open Go.RowKit Px
attribute [local go_sem ↓] Go.wp_at_zero Go.wp_at_succ
/-- Two that stand one behind the other are apart, and no halves of one. -/
theorem few_apart {xs : List (Int × Int)} (h : errP xs = 0) {i : Nat} (hi : i + 1 < (fewI xs).length) :
    (fewI xs)[i].1 + szI (fewI xs)[i].2 ≤ (fewI xs)[i + 1].1 ∧ ((fewI xs)[i + 1].2 ≠ (fewI xs)[i].2 ∨ (fewI xs)[i + 1].1 ≠ (fewI xs)[i].1 + szI (fewI xs)[i].2 ∨ (fewI xs)[i].1 % (2 * szI (fewI xs)[i].2) ≠ 0) := by
  obtain ⟨L, e, c, _, _⟩ := few_ok h
  simp only [e] at hi ⊢
  rw [List.length_map] at hi
  simp only [List.getElem_map]
  have hp := c.v L[i] (List.getElem_mem _)
  have hq := c.v L[i + 1] (List.getElem_mem _)
  have ha := List.pairwise_iff_getElem.1 c.apart i (i + 1) (by omega) hi (by omega)
  have hs := c.sib L[i] (List.getElem_mem _) L[i + 1] (List.getElem_mem _)
  generalize L[i] = p at *
  generalize L[i + 1] = q at *
  rw [szI_toI hp.1]
  unfold Apart at ha
  unfold Sib at hs
  unfold toI
  simp only
  refine ⟨by omega, ?_⟩
  by_cases h1 : q.2 = p.2
  · right
    by_cases h2 : (q.1 : Int) = (p.1 : Int) + ((2 ^ p.2 : Nat) : Int)
    · right
      intro h3
      have h16 : p.2 < 16 := by
        rcases Nat.lt_or_ge p.2 16 with h | h
        · exact h
        · have h4 : p.2 = 16 := by have := hp.1; omega
          have h5 : 2 ^ p.2 = 65536 := by rw [h4]
          have := hq.2.2
          omega
      refine hs ⟨h1.symm, h16, ?_, by omega⟩
      rw [Nat.pow_succ, Nat.mul_comm]
      have : ((p.1 % (2 * 2 ^ p.2) : Nat) : Int) = 0 := by rw [← h3]; try rfl
      omega
    · exact .inl h2
  · exact .inl (by omega)
theorem few_apart' {xs F : List (Int × Int)} (h : errP xs = 0) (hF : fewI xs = F) {i : Nat} (hi : i + 1 < F.length) :
    F[i].1 + szI F[i].2 ≤ F[i + 1].1 ∧ (F[i + 1].2 ≠ F[i].2 ∨ F[i + 1].1 ≠ F[i].1 + szI F[i].2 ∨ F[i].1 % (2 * szI F[i].2) ≠ 0) := by
  subst hF
  exact few_apart h hi
def goodB (a l : Int) : Bool := decide (checkE a l = 0 ∧ l ≤ 15)
set_option maxRecDepth 100000 in
set_option maxHeartbeats 8000000 in
theorem cidrHalves_any (a l : Int) (A : Option Addr) (n c : Nat) (xs : List (Int × Int)) (w : World) (hr : Rds w 2 A n (pc xs)) (hn : n ≤ maxLen) :
    Calls Try.prog 5 #[.agg #[.int .i64 a, .int .i64 l], .slice A n c] w fun e w' => e = .returned (.bool true) ∧ Below w.heap.size w w' := by
  have hB : Below w.heap.size w (w.alloc (.cells #[.int .i64 a, .int .i64 l] 24)) := (Below.refl _ _).alloc (Nat.le_refl _) _
  have hQ1 : (w.alloc (.cells #[.int .i64 a, .int .i64 l] 24)).cell? ⟨w.heap.size, 0, none⟩ = some (.int .i64 a) := by simp
  have hQ2 : (w.alloc (.cells #[.int .i64 a, .int .i64 l] 24)).cell? ⟨w.heap.size, 1, none⟩ = some (.int .i64 l) := by simp
  obtain rfl : n = xs.length := hr.plen
  have HN := Lib.hid hn
  clear hn
  obtain ⟨gb, HG⟩ : ∃ gb, Hid (goodB a l = gb) := ⟨_, Lib.hid rfl⟩
  go_enter Try.func5, Try.ntmps5
  go_upto_region 4 with ((go_at_call 16; refine (cidrFact_any _).mono ?_; rintro e w1 ⟨rfl, hb⟩; replace hB := below_call hB hb; have hP1 := (hb.cell (p := ⟨w.heap.size, 0, none⟩) (by simp)).trans hQ1; have hP2 := (hb.cell (p := ⟨w.heap.size, 1, none⟩) (by simp)).trans hQ2; clear hb))
  have hPl : w.heap.size < w1.heap.size := cell_lt hP1
  clear hQ1 hQ2
  go_cut [30] from 18 to 30 (fun s wx => s = .bool gb ∧ Below w1.heap.size w1 wx)
  case first =>
    by_cases hc : checkE a l = 0
    · obtain ⟨a0, a1, l0, l1, _⟩ := checkE_ok hc
      have HC := Lib.hid hc
      have i1 : inB a 0 65535 = true := inB_true.2 ⟨a0, a1⟩
      by_cases h15 : l ≤ 15
      · have i2 : inB l 0 15 = true := inB_true.2 ⟨l0, h15⟩
        have HX : Hid (gb = true) := Lib.hid (by rw [← HG.out]; unfold goodB; exact decide_eq_true ⟨hc, h15⟩)
        clear hc
        go_wp2_with (first
          | (go_at_call 19; (with_reducible refine (check_ok _ _ _ HC.out).mono ?_); rintro e w2 ⟨rfl, hb⟩; have hP3 := (hb.cell (p := ⟨w.heap.size, 0, none⟩) hPl).trans hP1; have hP4 := (hb.cell (p := ⟨w.heap.size, 1, none⟩) hPl).trans hP2)
          | (go_at_call 13; refine (in_any _ _ _ _).mono ?_; rintro e w' ⟨rfl, rfl⟩))
        go_meet
        case rel => exact ⟨by rw [HX.out], hb⟩
      · have i2 : inB l 0 15 = false := inB_false.2 (by omega)
        have HX : Hid (gb = false) := Lib.hid (by rw [← HG.out]; unfold goodB; exact decide_eq_false (fun h => h15 h.2))
        clear hc
        go_wp2_with (first
          | (go_at_call 19; (with_reducible refine (check_ok _ _ _ HC.out).mono ?_); rintro e w2 ⟨rfl, hb⟩; have hP3 := (hb.cell (p := ⟨w.heap.size, 0, none⟩) hPl).trans hP1; have hP4 := (hb.cell (p := ⟨w.heap.size, 1, none⟩) hPl).trans hP2)
          | (go_at_call 13; refine (in_any _ _ _ _).mono ?_; rintro e w' ⟨rfl, rfl⟩))
        go_meet
        case rel => exact ⟨by rw [HX.out], hb⟩
    · have HC := Lib.hid hc
      have HX : Hid (gb = false) := Lib.hid (by rw [← HG.out]; unfold goodB; exact decide_eq_false (fun h => hc h.1))
      clear hc
      go_wp2_with (go_at_call 19; (with_reducible refine (check_err _ _ _ _ rfl HC.out).mono ?_); rintro e w2 ⟨rfl, hb⟩)
      go_meet
      case rel => exact ⟨by rw [HX.out], hb⟩
  case rest =>
  obtain ⟨rfl, hb⟩ := hcut
  obtain ⟨w4, rfl⟩ : ∃ w4 : World, w4 = wc := ⟨_, rfl⟩
  replace hB := below_call hB hb
  have hP3 := (hb.cell (p := ⟨w.heap.size, 0, none⟩) hPl).trans hP1
  have hP4 := (hb.cell (p := ⟨w.heap.size, 1, none⟩) hPl).trans hP2
  have hPl2 := cell_lt hP3
  clear hb hP1 hP2 hPl
  go_upto_if 30 with (fail)
  go_cut [6, 7, 8, 9] (fun s6 s7 s8 s9 wx => Below w.heap.size w wx)
  case first =>
    rcases gb with _ | _
    · go_wp2_with fail
      go_meet
      case rel => exact hB
    · have hg : checkE a l = 0 ∧ l ≤ 15 := by have := HG.out; unfold goodB at this; exact of_decide_eq_true this
      obtain ⟨hc, h15⟩ := hg
      obtain ⟨a0, a1, l0, l1, _⟩ := checkE_ok hc
      obtain ⟨k, hk⟩ : ∃ k : Nat, (k : Int) = 15 - l := ⟨(15 - l).toNat, by omega⟩
      obtain ⟨hv, hofI⟩ := ofI_v (x := (a, l)) hc
      have hof : ofI (a, l) = (a.toNat, k + 1) := by unfold ofI; ext <;> simp <;> omega
      rw [hof] at hv hofI
      obtain ⟨f1, f2⟩ := few_halves hv
      have hs' : szI (l + 1) = ((2 ^ k : Nat) : Int) := by unfold szI; congr 2; omega
      have e1 : toI (a.toNat + 2 ^ k, k) = (a + szI (l + 1), l + 1) := by rw [hs']; unfold toI; ext <;> simp <;> omega
      have e2 : toI (a.toNat, k) = (a, l + 1) := by unfold toI; ext <;> simp <;> omega
      rw [e1, e2] at f1 f2
      rw [hofI] at f2
      have z1 := szI_pos (l + 1)
      have z2 := szI_le (l + 1)
      have HS := Lib.hid (fun w => power_any (15 - l) w (by omega) (by omega))
      rw [show 16 - (15 - l) = l + 1 from by omega] at HS
      clear hv hofI hof hs' e1 e2 hk k
      generalize szI (l + 1) = s at *
      have HF2 := Lib.hid f2
      have HF1 := Lib.hid (fewE_mk (by simp) f1)
      have hw1 : IntKind.i64.wrap (15 - l) = 15 - l := IntWalk.i64_in _ (by constructor <;> omega)
      have hw2 : IntKind.i64.wrap (a + s) = a + s := IntWalk.i64_in _ (by constructor <;> omega)
      have hw3 : IntKind.i64.wrap (l + 1) = l + 1 := IntWalk.i64_in _ (by constructor <;> omega)
      clear f1 f2 hc
      go_upto_region 6 with (fail)
      obtain ⟨W6, hW6⟩ : ∃ W6, w4.alloc (.cells #[.int .i64 a, .int .i64 (l + 1)] 24) = W6 := ⟨_, rfl⟩
      have hP5 : W6.cell? ⟨w.heap.size, 0, none⟩ = some (.int .i64 a) := by rw [← hW6]; exact (World.cell?_alloc_lt w4 _ ⟨w.heap.size, 0, none⟩ hPl2).trans hP3
      have hP6 : W6.cell? ⟨w.heap.size, 1, none⟩ = some (.int .i64 l) := by rw [← hW6]; exact (World.cell?_alloc_lt w4 _ ⟨w.heap.size, 1, none⟩ hPl2).trans hP4
      have hA5 : W6.cell? ⟨w4.heap.size, 0, none⟩ = some (.int .i64 a) := by rw [← hW6]; simp
      have hA6 : W6.cell? ⟨w4.heap.size, 1, none⟩ = some (.int .i64 (l + 1)) := by rw [← hW6]; simp
      have hs6 : W6.heap.size = w4.heap.size + 1 := by rw [← hW6]; simp
      have hB6 : Below w.heap.size w W6 := by rw [← hW6]; exact hB.alloc hB.size _
      have hPl6 : w.heap.size < W6.heap.size := cell_lt hP5
      have hAl6 : w4.heap.size < W6.heap.size := cell_lt hA5
      rw [hW6]
      clear hW6 hP3 hP4 hs6
      go_cut [7] from 37 to 47 (fun s7 wx => s7 = .pointer (some ⟨W6.heap.size, 0, none⟩) ∧ wx = (W6.alloc (.cells #[.int .i64 (a + s), .int .i64 (l + 1)] 24)).drew)
      case first =>
        go_region_held3 (fun w' => w'.cell? ⟨w.heap.size, 0, none⟩ = some (.int .i64 a) ∧ w'.cell? ⟨w.heap.size, 1, none⟩ = some (.int .i64 l)) (go_keep) ((go_at_call 20; (with_reducible refine (HS.out _).mono ?_); rintro e w' ⟨rfl, rfl⟩))
        all_goals
          (try go_simp)
          go_wp2_with fail
          go_meet
          case rel => exact ⟨rfl, rfl⟩
      case rest =>
        obtain ⟨rfl, hwx⟩ := hcut
        have hP7 : wc.cell? ⟨w.heap.size, 0, none⟩ = some (.int .i64 a) := by rw [hwx]; exact (World.cell?_alloc_lt W6 _ ⟨w.heap.size, 0, none⟩ hPl6).trans hP5
        have hA7 : wc.cell? ⟨w4.heap.size, 0, none⟩ = some (.int .i64 a) := by rw [hwx]; exact (World.cell?_alloc_lt W6 _ ⟨w4.heap.size, 0, none⟩ hAl6).trans hA5
        have hA8 : wc.cell? ⟨w4.heap.size, 1, none⟩ = some (.int .i64 (l + 1)) := by rw [hwx]; exact (World.cell?_alloc_lt W6 _ ⟨w4.heap.size, 1, none⟩ hAl6).trans hA6
        have hP8 : wc.cell? ⟨w.heap.size, 1, none⟩ = some (.int .i64 l) := by rw [hwx]; exact (World.cell?_alloc_lt W6 _ ⟨w.heap.size, 1, none⟩ hPl6).trans hP6
        have hC7 : wc.cell? ⟨W6.heap.size, 0, none⟩ = some (.int .i64 (a + s)) := by rw [hwx]; simp
        have hC8 : wc.cell? ⟨W6.heap.size, 1, none⟩ = some (.int .i64 (l + 1)) := by rw [hwx]; simp
        have hB7 : Below w.heap.size w wc := by rw [hwx]; exact below_drewN (hB6.alloc hB6.size _) 1
        have hPl7 := cell_lt hP7
        clear hwx hP5 hP6 hA5 hA6 hB6 hPl6 hAl6
        have hsf := fewest_ok (some ⟨wc.heap.size, 0, none⟩) 2 2 [(a + s, l + 1), (a, l + 1)] (wc.alloc (.cells #[.int .i64 (a + s), .int .i64 (l + 1), .int .i64 a, .int .i64 (l + 1)] 24)) (by decide) (rds_plit wc [(a + s, l + 1), (a, l + 1)] _) HF1.out
        rw [HF2.out] at hsf
        have HSF := Lib.hid hsf
        have hB8 := hB7.alloc hB7.size (.cells #[.int .i64 (a + s), .int .i64 (l + 1), .int .i64 a, .int .i64 (l + 1)] 24)
        have hP9 := (World.cell?_alloc_lt wc (.cells #[.int .i64 (a + s), .int .i64 (l + 1), .int .i64 a, .int .i64 (l + 1)] 24) ⟨w.heap.size, 0, none⟩ hPl7).trans hP7
        have hP10 := (World.cell?_alloc_lt wc (.cells #[.int .i64 (a + s), .int .i64 (l + 1), .int .i64 a, .int .i64 (l + 1)] 24) ⟨w.heap.size, 1, none⟩ hPl7).trans hP8
        have hPl9 := cell_lt hP9
        clear hsf
        go_wp2_with fail
        refine HSF.out.mono ?_
        rintro e w5 ⟨A1, c1, rfl, ho, hb⟩
        have hB9 := below_call hB8 hb
        have hP11 := (hb.cell (p := ⟨w.heap.size, 0, none⟩) hPl9).trans hP9
        have hP12 := (hb.cell (p := ⟨w.heap.size, 1, none⟩) hPl9).trans hP10
        have hrm := ho.rds
        clear hb ho hB8 hB7 hP7 hP8 hA7 hA8 hC7 hC8 hPl7 hPl9 hP9 hP10
        simp only [List.length_cons, List.length_nil, Nat.zero_add] at hrm ⊢
        have HI := Lib.hid (prefixes_any A1 (some ⟨w5.heap.size, 0, none⟩) 1 c1 1 1 [(a, l)] [(a, l)] (w5.alloc (.cells #[.int .i64 a, .int .i64 l] 24)) (hrm.below ((Below.refl _ _).alloc (Nat.le_refl _) _)) (rds_plit w5 [(a, l)] _) (by decide) (by decide))
        have hB10 := hB9.alloc hB9.size (.cells #[.int .i64 a, .int .i64 l] 24)
        go_wp2_with fail
        refine HI.out.mono ?_
        rintro e w6 ⟨rfl, q, rfl⟩
        go_wp2
        go_meet
        case rel => exact below_drewN hB10 q
  case rest =>
  replace hB := hcut
  clear hP3 hP4 hPl2 HG
  by_cases hx : fewE xs = 0
  · have HX := Lib.hid hx
    obtain ⟨l1, e1⟩ := fewE_ok hx
    obtain ⟨v1, v2, _⟩ := few_valid e1
    obtain ⟨F, hF⟩ : ∃ F, fewI xs = F := ⟨_, rfl⟩
    rw [hF] at v1 v2
    have HV := Lib.hid (errP_all.1 v1)
    have HAP := Lib.hid (fun i (hi : i + 1 < F.length) => few_apart' e1 hF hi)
    have hfl : F.length ≤ 32 := by omega
    have HF := Lib.hid hF
    clear hx e1 v1 v2 hF
    go_wp2_with fail
    (with_reducible refine (fewest_ok _ _ _ xs _ HN.out (hr.below hB) HX.out).mono ?_)
    rintro e w2 ⟨A1, c1, rfl, ho, hb⟩
    replace hB := below_call hB hb
    rw [HF.out] at ho ⊢
    have hrf := ho.rds
    clear hb ho
    go_wp2_with fail
    go_loopw [12] (fun i wr => ∃ k : Nat, k ≤ F.length ∧ i = .int .i64 ((k + 1 : Nat) : Int) ∧ Below w2.heap.size w2 wr) (fun i _ => F.length + 1 - (intOf i).toNat)
    case atStart => exact ⟨0, Nat.zero_le _, rfl, Below.refl _ _⟩
    case round =>
      obtain ⟨k, hk, rfl, hB1⟩ := hrel
      by_cases hlt : k + 1 < F.length
      · have hrf1 := hrf.below hB1
        obtain ⟨b, off, hk1, rfl, hx1, hx2⟩ := hrf1.pfx (k := k) (by omega)
        obtain ⟨b', off', hk2, e0, hy1, hy2⟩ := hrf1.pfx hlt
        injection e0 with e0
        injection e0 with e0 e3
        subst e0
        subst e3
        obtain ⟨p1, p2⟩ := HAP.out k hlt
        have HCX := Lib.hid (HV.out _ (List.getElem_mem hk1))
        have HCY := Lib.hid (HV.out _ (List.getElem_mem hk2))
        obtain ⟨x, hX⟩ : ∃ x, F[k] = x := ⟨_, rfl⟩
        obtain ⟨y, hY⟩ : ∃ y, F[k + 1] = y := ⟨_, rfl⟩
        rw [hX] at hx1 hx2 HCX p1 p2
        rw [hY] at hy1 hy2 HCY p1 p2
        clear hX hY
        obtain ⟨x0, x1, x2, x3, _⟩ := checkE_ok HCX.out
        obtain ⟨y0, y1, y2, y3, _⟩ := checkE_ok HCY.out
        have hbl : b < wr.heap.size := cell_lt hx1
        have z1 := szI_pos x.2
        have z2 := szI_le x.2
        have HS := Lib.hid (fun w => powerL_any x.2 w x2 x3)
        have HZ : Hid (szI x.2 = szI x.2) := Lib.hid rfl
        clear HZ
        generalize szI x.2 = s at *
        have hF32 : k < 32 := by omega
        go_wp2_with fail
        (with_reducible refine (refPrefix_any _ _ _).mono ?_)
        rintro e w5 ⟨rfl, hG5⟩
        rw [HCX.out]
        have j1 := hG5.cell (a := ⟨b, off + (k + 1) * 2, none⟩) hbl hy1
        have j2 := hG5.cell (a := ⟨b, off + (k + 1) * 2 + 1, none⟩) hbl hy2
        have j3 := hG5.cell (a := ⟨b, off + k * 2, none⟩) hbl hx1
        have j4 := hG5.cell (a := ⟨b, off + k * 2 + 1, none⟩) hbl hx2
        have hbl5 : b < w5.heap.size := cell_lt j1
        replace hB1 := below_call hB1 hG5.below
        clear hx1 hx2 hy1 hy2 hbl hG5
        go_wp2_with fail
        (with_reducible refine (refPrefix_any _ _ _).mono ?_)
        rintro e w6 ⟨rfl, hG6⟩
        rw [HCY.out]
        have i1 := hG6.cell (a := ⟨b, off + (k + 1) * 2, none⟩) hbl5 j1
        have i2 := hG6.cell (a := ⟨b, off + (k + 1) * 2 + 1, none⟩) hbl5 j2
        have i3 := hG6.cell (a := ⟨b, off + k * 2, none⟩) hbl5 j3
        have i4 := hG6.cell (a := ⟨b, off + k * 2 + 1, none⟩) hbl5 j4
        replace hB1 := below_call hB1 hG6.below
        clear j1 j2 j3 j4 hbl5 hG6
        have hw1 : IntKind.i64.wrap (x.1 + s) = x.1 + s := IntWalk.i64_in _ (by constructor <;> omega)
        have hw2 : IntKind.i64.wrap (2 * s) = 2 * s := IntWalk.i64_in _ (by constructor <;> omega)
        have hw3 : IntKind.i64.wrap (16 - x.2) = 16 - x.2 := IntWalk.i64_in _ (by constructor <;> omega)
        have htm : x.1.tmod (2 * s) = x.1 % (2 * s) := Int.tmod_eq_emod_of_nonneg x0
        have hs3 : ¬ (2 * s = 0) := by omega
        have hlt1 : decide (y.1 < x.1 + s) = false := by rw [decide_eq_false_iff_not]; omega
        have hlt2 : ¬ y.1 < x.1 + s := by omega
        go_wp2_with (go_at_call 20; (with_reducible refine (HS.out _).mono ?_); rintro e w' ⟨rfl, rfl⟩)
        have hor : ((y.2 == x.2) = false) ∨ ((y.2 == x.2) = true ∧ (y.1 == x.1 + s) = false) ∨ ((y.2 == x.2) = true ∧ (y.1 == x.1 + s) = true ∧ (x.1 % (2 * s) == 0) = false) := by
          by_cases h1 : y.2 = x.2
          · by_cases h2 : y.1 = x.1 + s
            · right; right
              refine ⟨beq_iff_eq.2 h1, beq_iff_eq.2 h2, beq_eq_false_iff_ne.2 ?_⟩
              rcases p2 with h | h | h
              · exact absurd h1 h
              · exact absurd h2 h
              · exact h
            · exact .inr (.inl ⟨beq_iff_eq.2 h1, beq_eq_false_iff_ne.2 h2⟩)
          · exact .inl (beq_eq_false_iff_ne.2 h1)
        clear p2
        rcases hor with h1 | ⟨h1, h2⟩ | ⟨h1, h2, h3⟩
        all_goals
          go_quiet (fail)
          go_wp2
          go_roundw
          case rel => exact ⟨k + 1, by omega, by go_num, below_drewN hB1 _⟩
          case measure => simp [intOf]; omega
      · go_wp2
        go_ret
        exact ⟨rfl, below_call hB hB1⟩
  · obtain ⟨k, HK⟩ : ∃ k, Hid (fewE xs = k) := ⟨_, Lib.hid rfl⟩
    have HX : Hid (k ≠ 0) := Lib.hid (by rw [← HK.out]; exact hx)
    clear hx
    go_wp2_with fail
    (with_reducible refine (fewest_bad _ _ _ xs _ _ HN.out (hr.below hB) HK.out HX.out).mono ?_)
    rintro e w2 ⟨rfl, hb⟩
    replace hB := below_call hB hb
    clear hb
    go_wp2
    go_ret
    exact ⟨rfl, hB⟩
end Go.Proofs.Ytfgpppgehbpblaa
