/- slices.symMergeCmpFunc at elements of k cells: the two sorted neighbours are merged in place, and stay in their order where the comparison tells nothing. -/
import Derived.Test.YtbmajajndckfoaaDoorQRot
import Derived.Shelf.SlSortFuncK.PartitionK
import Derived.Sort.WalkC4
import Derived.Sort.WalkB2
import Derived.Sort.WalkB12
import Derived.Deep.LoopGhost
import Derived.Deep.CutRange
import Derived.Outline
namespace Go.Proofs.YtbmajajndckfoaaDoor
open Go.Shelf Go.RowKit Go.Lib Go.Sort Sm
variable {P : Program} {α : Type} [Inhabited α]
set_option maxHeartbeats 8000000 in
set_option maxRecDepth 1000000 in
theorem symMerge_left {k : Nat} (L : StL P k) (enc : α → List Value) (cf : α → α → Int) (tg : α → Nat) (hO : SWO (ltOf cf)) (g : Nat) (cb : Array Value) (blk off cap : Nat) (d0 : Array α) (w0 : World)
    (eg : ∀ args w, (callFunc g args).run P w = .ok (.enter g args) w) (hcmp : CmpLays P g cb enc k cf blk off d0.size w0) (R : RowK enc k w0 blk off d0) (a m b : Nat) (d : Array α) (w : World) (hs : d0.size = d.size) (S : SWK enc k w0 blk off d w) (ham : a < m) (hmb : m < b) (hb : b ≤ d.size) (hsz : d.size < 4611686018427387904) (hpre : Pre (ltOf cf) tg d a m b) (h1 : m = a + 1) :
    Calls P 64 #[.slice (some ⟨blk, off, none⟩) d.size cap, .int .i64 a, .int .i64 m, .int .i64 b, .func (.func g) #[] cb] w fun e w' => e = .returned (.tuple #[]) ∧ ∃ d', Post (ltOf cf) tg d a b d' ∧ SWK enc k w0 blk off d' w' := by
  have mixed := L.mixed; have t0 := L.t0; have a0 := L.a0; have z0 := L.z0; have v0 := L.v0; have t3 := L.t3; have a3 := L.a3; have z3 := L.z3; have v3 := L.v3; have t4 := L.t4; have a4 := L.a4; have z4 := L.z4; have v4 := L.v4; have t22 := L.t22; have a22 := L.a22; have z22 := L.z22; have v22 := L.v22; have t25 := L.t25; have a25 := L.a25; have z25 := L.z25; have v25 := L.v25; have t39 := L.t39; have a39 := L.a39; have z39 := L.z39; have v39 := L.v39; have aE := L.aE; have zE := L.zE; have u3 := run_underlying L.t3; have u22 := run_underlying L.t22; have u39 := run_underlying L.t39
  have eR : ∀ args w, (callFunc 65 args).run P w = .ok (.enter 65 args) w := enters_of L.fR (by kernel_rfl) rfl
  have eM : ∀ args w, (callFunc 64 args).run P w = .ok (.enter 64 args) w := enters_of L.fM (by kernel_rfl) rfl
  have FG := L.fM
  have HL : Aside (StL P k) := L
  have HC : Aside _ := hcmp
  have HO : Aside (SWO (ltOf cf)) := hO
  clear hcmp hO L
  have HP : Aside (Pre (ltOf cf) tg d a m b) := hpre
  have S0 : Aside (SWK enc k w0 blk off d w) := S
  clear hpre S
  go_enter FG, Tryd.ntmps64
  -- one element ahead of the others
  have em : (m : Int) - (a : Int) = 1 := by omega
  have H1 : Aside (m = a + 1) := h1
  clear h1
  go_wp2_with fail
  go_loopw [10, 11] (fun s10 s11 wr => ∃ i j : Nat, s10 = .int .i64 i ∧ s11 = .int .i64 j ∧ m ≤ i ∧ i ≤ j ∧ j ≤ b ∧ Aside (SWK enc k w0 blk off d wr) ∧ Aside ((∀ p, m ≤ p → p < i → ltOf cf d[p]! d[a]! = true) ∧ (∀ p, j ≤ p → p < b → ltOf cf d[p]! d[a]! = false))) (fun s10 s11 _ => (intOf s11).toNat - (intOf s10).toNat)
  case atStart => exact ⟨m, b, rfl, rfl, Nat.le_refl _, by omega, Nat.le_refl _, S0, (⟨fun p q1 q2 => by omega, fun p q1 q2 => by omega⟩ : (∀ p, m ≤ p → p < m → ltOf cf d[p]! d[a]! = true) ∧ (∀ p, b ≤ p → p < b → ltOf cf d[p]! d[a]! = false))⟩
  case round =>
    clear S0
    obtain ⟨i, j, rfl, rfl, hmi, hij, hjb, S1, I⟩ := hrel
    by_cases hlt : i < j
    · have hltz : (i : Int) < (j : Int) := by omega
      obtain ⟨h, hh⟩ : ∃ h, h = (i + j) / 2 := ⟨_, rfl⟩
      have eh : ((i : Int) + (j : Int)) / 2 = (h : Int) := by omega
      have hhi : i ≤ h := by omega
      have hhj : h < j := by omega
      clear hh
      have eh1 : ((h : Int)).toNat = h := by omega
      have ph1 : (0 : Int) ≤ (h : Int) := by omega
      have bh1 : (h : Int) < (d.size : Int) := by omega
      have rh1 : IntKind.i64.wrap ((h : Int)) = (h : Int) := by rw [IntKind.wrap_i64]; omega
      have ea1 : ((a : Int)).toNat = a := by omega
      have pa1 : (0 : Int) ≤ (a : Int) := by omega
      have ba1 : (a : Int) < (d.size : Int) := by omega
      have ra1 : IntKind.i64.wrap ((a : Int)) = (a : Int) := by rw [IntKind.wrap_i64]; omega
      cases hlv : ltOf cf d[h]! d[a]! with
      | true =>
        have I2 : Aside ((∀ p, m ≤ p → p < h + 1 → ltOf cf d[p]! d[a]! = true) ∧ (∀ p, j ≤ p → p < b → ltOf cf d[p]! d[a]! = false)) := ⟨search1_up HP.out HO.out (by omega) hlv, I.out.2⟩
        obtain ⟨x11, hx11⟩ : ∃ x, x = d[h]! := ⟨_, rfl⟩
        obtain ⟨y11, hy11⟩ : ∃ x, x = d[a]! := ⟨_, rfl⟩
        have l11a := S1.out.ld R (by omega) P (h) (by omega)
        have l11b := S1.out.ld R (by omega) P (a) (by omega)
        rw [← hx11] at l11a
        rw [← hy11] at l11b
        have hc11 := S1.out.cmp HC.out (by omega) x11 y11
        have hv11 : cf x11 y11 < 0 := by rw [hx11, hy11]; exact of_decide_eq_true hlv
        have hd11 : decide (cf x11 y11 < 0) = true := decide_eq_true hv11
        clear hx11 hy11
        go_wp2_with fail
        go_quiet_grown (first | (go_at_fn g; refine Calls.grown_of (hc11 _ _)))
        have S2 : Aside (SWK enc k w0 blk off d (grow (wr.drewN nq) osq)) := S1.out.grown nq osq
        clear l11a l11b hc11 S1
        generalize grow (wr.drewN nq) osq = w2 at S2 ⊢
        clear nq osq
        go_wp2
        go_roundw
        case rel => exact ⟨h + 1, j, by go_num, rfl, by omega, by omega, hjb, S2, I2⟩
        case measure => simp [intOf]; omega
      | false =>
        have I2 : Aside ((∀ p, m ≤ p → p < i → ltOf cf d[p]! d[a]! = true) ∧ (∀ p, h ≤ p → p < b → ltOf cf d[p]! d[a]! = false)) := ⟨I.out.1, search1_down HP.out HO.out (by omega) hlv⟩
        obtain ⟨x12, hx12⟩ : ∃ x, x = d[h]! := ⟨_, rfl⟩
        obtain ⟨y12, hy12⟩ : ∃ x, x = d[a]! := ⟨_, rfl⟩
        have l12a := S1.out.ld R (by omega) P (h) (by omega)
        have l12b := S1.out.ld R (by omega) P (a) (by omega)
        rw [← hx12] at l12a
        rw [← hy12] at l12b
        have hc12 := S1.out.cmp HC.out (by omega) x12 y12
        have hv12 : ¬ cf x12 y12 < 0 := by rw [hx12, hy12]; exact of_decide_eq_false hlv
        have hd12 : decide (cf x12 y12 < 0) = false := decide_eq_false hv12
        clear hx12 hy12
        go_wp2_with fail
        go_quiet_grown (first | (go_at_fn g; refine Calls.grown_of (hc12 _ _)))
        have S2 : Aside (SWK enc k w0 blk off d (grow (wr.drewN nq) osq)) := S1.out.grown nq osq
        clear l12a l12b hc12 S1
        generalize grow (wr.drewN nq) osq = w2 at S2 ⊢
        clear nq osq
        go_wp2
        go_roundw
        case rel => exact ⟨i, h, rfl, rfl, hmi, hhi, by omega, S2, I2⟩
        case measure => simp [intOf]; omega
    · obtain rfl : i = j := by omega
      have hltz : ¬ (i : Int) < (i : Int) := by omega
      obtain ⟨i1, hi1⟩ : ∃ i1, i = i1 + 1 := ⟨i - 1, by omega⟩
      have ei : (i : Int) - 1 = (i1 : Int) := by omega
      have hai : a ≤ i1 := by omega
      have hib : i1 + 1 ≤ b := by omega
      have HI : Aside (i = i1 + 1) := hi1
      clear hi1
      have S2 : Aside (SWK enc k w0 blk off (rotA d a (a + 1) (a + 1)) wr) := by show SWK _ _ _ _ _ _ _; rw [rotA_right]; exact S1.out
      go_wp2_with fail
      go_loopw [13] (fun s13 wr2 => ∃ kk : Nat, s13 = .int .i64 kk ∧ a ≤ kk ∧ kk ≤ i1 ∧ Aside (SWK enc k w0 blk off (rotA d a (a + 1) (kk + 1)) wr2)) (fun s13 _ => i1 - (intOf s13).toNat)
      case atStart => exact ⟨a, rfl, Nat.le_refl _, hai, S2⟩
      case round =>
        clear S1 S2
        obtain ⟨kk, rfl, hak, hki, S1⟩ := hrel
        by_cases hlt2 : kk < i1
        · have hlt2z : (kk : Int) < (i1 : Int) := by omega
          have hds : (rotA d a (a + 1) (kk + 1)).size = d.size := rotA_size _ _ _ _
          have HN : Aside (swp (rotA d a (a + 1) (kk + 1)) kk (kk + 1) = rotA d a (a + 1) (kk + 2)) := rot_up d hak (by omega)
          obtain ⟨dk, hdk⟩ : ∃ dk, rotA d a (a + 1) (kk + 1) = dk := ⟨_, rfl⟩
          rw [hdk] at S1 hds HN
          clear hdk
          obtain ⟨y, hy⟩ : ∃ y, y = kk + 1 := ⟨_, rfl⟩
          have ey : (kk : Int) + 1 = (y : Int) := by omega
          have hyd : y < d.size := by omega
          rw [← hy] at HN
          have HY : Aside (y = kk + 1) := hy
          clear hy
          have ek2 : ((kk : Int)).toNat = kk := by omega
          have pk2 : (0 : Int) ≤ (kk : Int) := by omega
          have bk2 : (kk : Int) < (d.size : Int) := by omega
          have rk2 : IntKind.i64.wrap ((kk : Int)) = (kk : Int) := by rw [IntKind.wrap_i64]; omega
          have ey2 : ((y : Int)).toNat = y := by omega
          have py2 : (0 : Int) ≤ (y : Int) := by omega
          have by2 : (y : Int) < (d.size : Int) := by omega
          have ry2 : IntKind.i64.wrap ((y : Int)) = (y : Int) := by rw [IntKind.wrap_i64]; omega
          go_wp2_with fail
          have S2 : Aside (SWK enc k w0 blk off (swp dk (kk) (y)) ((wr.drew.setCells blk (off + (kk) * k) (enc dk[y]!)).setCells blk (off + (y) * k) (enc dk[kk]!))) := S1.out.swapped R (kk) (y) (by omega) (by omega)
          have l2a := S1.out.ld1 R (by omega) P (kk) (by omega)
          have l2b := S1.out.ld1 R (by omega) P (y) (by omega)
          have s2a := S1.out.st1 R (by omega) P (kk) (by omega) dk[y]!
          have s2b := S1.out.st2 R (by omega) P (kk) (y) (by omega) (by omega) dk[y]! dk[kk]!
          have n2a : (enc dk[kk]!).length = k := R.hk _
          have n2b : (enc dk[y]!).length = k := R.hk _
          generalize enc dk[kk]! = cI2 at S2 l2a s2b n2a
          generalize enc dk[y]! = cJ2 at S2 l2b s2a s2b n2b
          clear S1
          go_wp2_with fail
          go_big_region_o
          clear l2a l2b s2a s2b
          generalize (wr.drew.setCells blk (off + (kk) * k) cJ2).setCells blk (off + (y) * k) cI2 = w3 at S2 ⊢
          go_wp2
          go_roundw
          case rel => exact ⟨kk + 1, by first | go_num | (congr 1; have := HY.out; omega), by omega, by omega, by rw [← HN.out]; exact S2⟩
          case measure => (try rw [HY.out]); simp [intOf]; omega
        · obtain rfl : kk = i1 := by omega
          have hlt2z : ¬ (kk : Int) < (kk : Int) := by omega
          go_wp2
          (try simp only [Exit.inBlock, Exit.then])
          refine bodyPost_ret (results_none rfl _ _ _) rfl ?_
          refine ⟨rfl, _, ?_, S1.out⟩
          have hq := HI.out
          have h1 := H1.out
          subst h1
          rw [← hq]
          exact one_left HP.out HO.out hb (by omega) (by omega) I.out.1 I.out.2
set_option maxHeartbeats 8000000 in
set_option maxRecDepth 1000000 in
theorem symMerge_right {k : Nat} (L : StL P k) (enc : α → List Value) (cf : α → α → Int) (tg : α → Nat) (hO : SWO (ltOf cf)) (g : Nat) (cb : Array Value) (blk off cap : Nat) (d0 : Array α) (w0 : World)
    (eg : ∀ args w, (callFunc g args).run P w = .ok (.enter g args) w) (hcmp : CmpLays P g cb enc k cf blk off d0.size w0) (R : RowK enc k w0 blk off d0) (a m b : Nat) (d : Array α) (w : World) (hs : d0.size = d.size) (S : SWK enc k w0 blk off d w) (ham : a < m) (hmb : m < b) (hb : b ≤ d.size) (hsz : d.size < 4611686018427387904) (hpre : Pre (ltOf cf) tg d a m b) (h1 : m ≠ a + 1) (h2 : b = m + 1) :
    Calls P 64 #[.slice (some ⟨blk, off, none⟩) d.size cap, .int .i64 a, .int .i64 m, .int .i64 b, .func (.func g) #[] cb] w fun e w' => e = .returned (.tuple #[]) ∧ ∃ d', Post (ltOf cf) tg d a b d' ∧ SWK enc k w0 blk off d' w' := by
  have mixed := L.mixed; have t0 := L.t0; have a0 := L.a0; have z0 := L.z0; have v0 := L.v0; have t3 := L.t3; have a3 := L.a3; have z3 := L.z3; have v3 := L.v3; have t4 := L.t4; have a4 := L.a4; have z4 := L.z4; have v4 := L.v4; have t22 := L.t22; have a22 := L.a22; have z22 := L.z22; have v22 := L.v22; have t25 := L.t25; have a25 := L.a25; have z25 := L.z25; have v25 := L.v25; have t39 := L.t39; have a39 := L.a39; have z39 := L.z39; have v39 := L.v39; have aE := L.aE; have zE := L.zE; have u3 := run_underlying L.t3; have u22 := run_underlying L.t22; have u39 := run_underlying L.t39
  have eR : ∀ args w, (callFunc 65 args).run P w = .ok (.enter 65 args) w := enters_of L.fR (by kernel_rfl) rfl
  have eM : ∀ args w, (callFunc 64 args).run P w = .ok (.enter 64 args) w := enters_of L.fM (by kernel_rfl) rfl
  have FG := L.fM
  have HL : Aside (StL P k) := L
  have HC : Aside _ := hcmp
  have HO : Aside (SWO (ltOf cf)) := hO
  clear hcmp hO L
  have HP : Aside (Pre (ltOf cf) tg d a m b) := hpre
  have S0 : Aside (SWK enc k w0 blk off d w) := S
  clear hpre S
  go_enter FG, Tryd.ntmps64
  obtain ⟨z, hz⟩ : ∃ z, z = m - a := ⟨_, rfl⟩
  have ez : (m : Int) - (a : Int) = (z : Int) := by omega
  have ezn : ((z : Int) == 1) = false := by rw [beq_eq_false_iff_ne]; omega
  have H1 : Aside (m ≠ a + 1) := h1
  clear h1 hz
  -- one element behind the others
  have eb : (b : Int) - (m : Int) = 1 := by omega
  have H2 : Aside (b = m + 1) := h2
  have hmd : m < d.size := by omega
  clear h2
  go_wp2_with fail
  go_loopw [14, 15] (fun s14 s15 wr => ∃ i j : Nat, s14 = .int .i64 i ∧ s15 = .int .i64 j ∧ a ≤ i ∧ i ≤ j ∧ j ≤ m ∧ Aside (SWK enc k w0 blk off d wr) ∧ Aside ((∀ p, a ≤ p → p < i → ltOf cf d[m]! d[p]! = false) ∧ (∀ p, j ≤ p → p < m → ltOf cf d[m]! d[p]! = true))) (fun s14 s15 _ => (intOf s15).toNat - (intOf s14).toNat)
  case atStart => exact ⟨a, m, rfl, rfl, Nat.le_refl _, by omega, Nat.le_refl _, S0, (⟨fun p q1 q2 => by omega, fun p q1 q2 => by omega⟩ : (∀ p, a ≤ p → p < a → ltOf cf d[m]! d[p]! = false) ∧ (∀ p, m ≤ p → p < m → ltOf cf d[m]! d[p]! = true))⟩
  case round =>
    clear S0
    obtain ⟨i, j, rfl, rfl, hmi, hij, hjb, S1, I⟩ := hrel
    by_cases hlt : i < j
    · have hltz : (i : Int) < (j : Int) := by omega
      obtain ⟨h, hh⟩ : ∃ h, h = (i + j) / 2 := ⟨_, rfl⟩
      have eh : ((i : Int) + (j : Int)) / 2 = (h : Int) := by omega
      have hhi : i ≤ h := by omega
      have hhj : h < j := by omega
      clear hh
      have eh1 : ((h : Int)).toNat = h := by omega
      have ph1 : (0 : Int) ≤ (h : Int) := by omega
      have bh1 : (h : Int) < (d.size : Int) := by omega
      have rh1 : IntKind.i64.wrap ((h : Int)) = (h : Int) := by rw [IntKind.wrap_i64]; omega
      have em1 : ((m : Int)).toNat = m := by omega
      have pm1 : (0 : Int) ≤ (m : Int) := by omega
      have bm1 : (m : Int) < (d.size : Int) := by omega
      have rm1 : IntKind.i64.wrap ((m : Int)) = (m : Int) := by rw [IntKind.wrap_i64]; omega
      cases hlv : ltOf cf d[m]! d[h]! with
      | true =>
        have I2 : Aside ((∀ p, a ≤ p → p < i → ltOf cf d[m]! d[p]! = false) ∧ (∀ p, h ≤ p → p < m → ltOf cf d[m]! d[p]! = true)) := ⟨I.out.1, search2_down HP.out HO.out (by omega) hlv⟩
        obtain ⟨x21, hx21⟩ : ∃ x, x = d[m]! := ⟨_, rfl⟩
        obtain ⟨y21, hy21⟩ : ∃ x, x = d[h]! := ⟨_, rfl⟩
        have l21a := S1.out.ld R (by omega) P (m) (by omega)
        have l21b := S1.out.ld R (by omega) P (h) (by omega)
        rw [← hx21] at l21a
        rw [← hy21] at l21b
        have hc21 := S1.out.cmp HC.out (by omega) x21 y21
        have hv21 : cf x21 y21 < 0 := by rw [hx21, hy21]; exact of_decide_eq_true hlv
        have hd21 : decide (cf x21 y21 < 0) = true := decide_eq_true hv21
        clear hx21 hy21
        go_wp2_with fail
        go_quiet_grown (first | (go_at_fn g; refine Calls.grown_of (hc21 _ _)))
        have S2 : Aside (SWK enc k w0 blk off d (grow (wr.drewN nq) osq)) := S1.out.grown nq osq
        clear l21a l21b hc21 S1
        generalize grow (wr.drewN nq) osq = w2 at S2 ⊢
        clear nq osq
        go_wp2
        go_roundw
        case rel => exact ⟨i, h, rfl, rfl, hmi, hhi, by omega, S2, I2⟩
        case measure => simp [intOf]; omega
      | false =>
        have I2 : Aside ((∀ p, a ≤ p → p < h + 1 → ltOf cf d[m]! d[p]! = false) ∧ (∀ p, j ≤ p → p < m → ltOf cf d[m]! d[p]! = true)) := ⟨search2_up HP.out HO.out (by omega) hlv, I.out.2⟩
        obtain ⟨x22, hx22⟩ : ∃ x, x = d[m]! := ⟨_, rfl⟩
        obtain ⟨y22, hy22⟩ : ∃ x, x = d[h]! := ⟨_, rfl⟩
        have l22a := S1.out.ld R (by omega) P (m) (by omega)
        have l22b := S1.out.ld R (by omega) P (h) (by omega)
        rw [← hx22] at l22a
        rw [← hy22] at l22b
        have hc22 := S1.out.cmp HC.out (by omega) x22 y22
        have hv22 : ¬ cf x22 y22 < 0 := by rw [hx22, hy22]; exact of_decide_eq_false hlv
        have hd22 : decide (cf x22 y22 < 0) = false := decide_eq_false hv22
        clear hx22 hy22
        go_wp2_with fail
        go_quiet_grown (first | (go_at_fn g; refine Calls.grown_of (hc22 _ _)))
        have S2 : Aside (SWK enc k w0 blk off d (grow (wr.drewN nq) osq)) := S1.out.grown nq osq
        clear l22a l22b hc22 S1
        generalize grow (wr.drewN nq) osq = w2 at S2 ⊢
        clear nq osq
        go_wp2
        go_roundw
        case rel => exact ⟨h + 1, j, by go_num, rfl, by omega, by omega, hjb, S2, I2⟩
        case measure => simp [intOf]; omega
    · obtain rfl : i = j := by omega
      have hltz : ¬ (i : Int) < (i : Int) := by omega
      have S2 : Aside (SWK enc k w0 blk off (rotA d m m (m + 1)) wr) := by show SWK _ _ _ _ _ _ _; rw [rotA_left]; exact S1.out
      go_wp2_with fail
      go_loopw [17] (fun s17 wr2 => ∃ kk : Nat, s17 = .int .i64 kk ∧ i ≤ kk ∧ kk ≤ m ∧ Aside (SWK enc k w0 blk off (rotA d kk m (m + 1)) wr2)) (fun s17 _ => (intOf s17).toNat - i)
      case atStart => exact ⟨m, rfl, by omega, Nat.le_refl _, S2⟩
      case round =>
        clear S1 S2
        obtain ⟨kk, rfl, hak, hki, S1⟩ := hrel
        by_cases hlt2 : i < kk
        · have hlt2z : (i : Int) < (kk : Int) := by omega
          obtain ⟨y, hy⟩ : ∃ y, kk = y + 1 := ⟨kk - 1, by omega⟩
          have ey : (kk : Int) - 1 = (y : Int) := by omega
          have hds : (rotA d kk m (m + 1)).size = d.size := rotA_size _ _ _ _
          have HN : Aside (swp (rotA d kk m (m + 1)) kk y = rotA d y m (m + 1)) := by show _ = _; rw [hy]; exact rot_down d (by omega) hmd
          obtain ⟨dk, hdk⟩ : ∃ dk, rotA d kk m (m + 1) = dk := ⟨_, rfl⟩
          rw [hdk] at S1 hds HN
          clear hdk
          have hyd : y < d.size := by omega
          have hiy : i ≤ y := by omega
          have hym : y ≤ m := by omega
          have hyk : y < kk := by omega
          have HY : Aside (kk = y + 1) := hy
          clear hy
          have ek3 : ((kk : Int)).toNat = kk := by omega
          have pk3 : (0 : Int) ≤ (kk : Int) := by omega
          have bk3 : (kk : Int) < (d.size : Int) := by omega
          have rk3 : IntKind.i64.wrap ((kk : Int)) = (kk : Int) := by rw [IntKind.wrap_i64]; omega
          have ey3 : ((y : Int)).toNat = y := by omega
          have py3 : (0 : Int) ≤ (y : Int) := by omega
          have by3 : (y : Int) < (d.size : Int) := by omega
          have ry3 : IntKind.i64.wrap ((y : Int)) = (y : Int) := by rw [IntKind.wrap_i64]; omega
          go_wp2_with fail
          have S2 : Aside (SWK enc k w0 blk off (swp dk (kk) (y)) ((wr.drew.setCells blk (off + (kk) * k) (enc dk[y]!)).setCells blk (off + (y) * k) (enc dk[kk]!))) := S1.out.swapped R (kk) (y) (by omega) (by omega)
          have l3a := S1.out.ld1 R (by omega) P (kk) (by omega)
          have l3b := S1.out.ld1 R (by omega) P (y) (by omega)
          have s3a := S1.out.st1 R (by omega) P (kk) (by omega) dk[y]!
          have s3b := S1.out.st2 R (by omega) P (kk) (y) (by omega) (by omega) dk[y]! dk[kk]!
          have n3a : (enc dk[kk]!).length = k := R.hk _
          have n3b : (enc dk[y]!).length = k := R.hk _
          generalize enc dk[kk]! = cI3 at S2 l3a s3b n3a
          generalize enc dk[y]! = cJ3 at S2 l3b s3a s3b n3b
          clear S1
          go_wp2_with fail
          go_big_region_o
          clear l3a l3b s3a s3b
          generalize (wr.drew.setCells blk (off + (kk) * k) cJ3).setCells blk (off + (y) * k) cI3 = w3 at S2 ⊢
          go_wp2
          go_roundw
          case rel => exact ⟨y, rfl, hiy, hym, by rw [← HN.out]; exact S2⟩
          case measure => simp [intOf]; omega
        · obtain rfl : kk = i := by omega
          have hlt2z : ¬ (kk : Int) < (kk : Int) := by omega
          go_wp2
          (try simp only [Exit.inBlock, Exit.then])
          refine bodyPost_ret (results_none rfl _ _ _) rfl ?_
          refine ⟨rfl, _, ?_, S1.out⟩
          have h2 := H2.out
          subst h2
          exact one_right HP.out HO.out hmd hmi hki I.out.1 I.out.2
set_option maxHeartbeats 8000000 in
set_option maxRecDepth 1000000 in
theorem symMerge_halves {k : Nat} (L : StL P k) (enc : α → List Value) (cf : α → α → Int) (tg : α → Nat) (hO : SWO (ltOf cf)) (g : Nat) (cb : Array Value) (blk off cap : Nat) (d0 : Array α) (w0 : World)
    (eg : ∀ args w, (callFunc g args).run P w = .ok (.enter g args) w) (hcmp : CmpLays P g cb enc k cf blk off d0.size w0) (R : RowK enc k w0 blk off d0) (a m b : Nat) (d : Array α) (w : World) (hs : d0.size = d.size) (S : SWK enc k w0 blk off d w) (ham : a < m) (hmb : m < b) (hb : b ≤ d.size) (hsz : d.size < 4611686018427387904) (hpre : Pre (ltOf cf) tg d a m b) (h1 : m ≠ a + 1) (h2 : b ≠ m + 1)
    (IH0 : ∀ (a' m' b' : Nat) (d : Array α) (w : World), b' - a' < b - a → d0.size = d.size → SWK enc k w0 blk off d w → a' < m' → m' < b' → b' ≤ d.size → d.size < 4611686018427387904 → Pre (ltOf cf) tg d a' m' b' → Calls P 64 #[.slice (some ⟨blk, off, none⟩) d.size cap, .int .i64 a', .int .i64 m', .int .i64 b', .func (.func g) #[] cb] w fun e w' => e = .returned (.tuple #[]) ∧ ∃ d', Post (ltOf cf) tg d a' b' d' ∧ SWK enc k w0 blk off d' w') :
    Calls P 64 #[.slice (some ⟨blk, off, none⟩) d.size cap, .int .i64 a, .int .i64 m, .int .i64 b, .func (.func g) #[] cb] w fun e w' => e = .returned (.tuple #[]) ∧ ∃ d', Post (ltOf cf) tg d a b d' ∧ SWK enc k w0 blk off d' w' := by
  have mixed := L.mixed; have t0 := L.t0; have a0 := L.a0; have z0 := L.z0; have v0 := L.v0; have t3 := L.t3; have a3 := L.a3; have z3 := L.z3; have v3 := L.v3; have t4 := L.t4; have a4 := L.a4; have z4 := L.z4; have v4 := L.v4; have t22 := L.t22; have a22 := L.a22; have z22 := L.z22; have v22 := L.v22; have t25 := L.t25; have a25 := L.a25; have z25 := L.z25; have v25 := L.v25; have t39 := L.t39; have a39 := L.a39; have z39 := L.z39; have v39 := L.v39; have aE := L.aE; have zE := L.zE; have u3 := run_underlying L.t3; have u22 := run_underlying L.t22; have u39 := run_underlying L.t39
  have eR : ∀ args w, (callFunc 65 args).run P w = .ok (.enter 65 args) w := enters_of L.fR (by kernel_rfl) rfl
  have eM : ∀ args w, (callFunc 64 args).run P w = .ok (.enter 64 args) w := enters_of L.fM (by kernel_rfl) rfl
  have FG := L.fM
  have HL : Aside (StL P k) := L
  have HC : Aside _ := hcmp
  have HO : Aside (SWO (ltOf cf)) := hO
  clear hcmp hO L
  have HP : Aside (Pre (ltOf cf) tg d a m b) := hpre
  have S0 : Aside (SWK enc k w0 blk off d w) := S
  clear hpre S
  have IH : Aside _ := IH0
  clear IH0
  go_enter FG, Tryd.ntmps64
  obtain ⟨z, hz⟩ : ∃ z, z = m - a := ⟨_, rfl⟩
  have ez : (m : Int) - (a : Int) = (z : Int) := by omega
  have ezn : ((z : Int) == 1) = false := by rw [beq_eq_false_iff_ne]; omega
  have H1 : Aside (m ≠ a + 1) := h1
  clear h1 hz
  -- the halves
  obtain ⟨y, hy⟩ : ∃ y, y = b - m := ⟨_, rfl⟩
  have ey : (b : Int) - (m : Int) = (y : Int) := by omega
  have eyn : ((y : Int) == 1) = false := by rw [beq_eq_false_iff_ne]; omega
  have hz1 := H1.out
  obtain ⟨mid, hmid⟩ : ∃ mid, mid = (a + b) / 2 := ⟨_, rfl⟩
  have emid : ((a : Int) + (b : Int)) / 2 = (mid : Int) := by omega
  have HM : Aside (mid = (a + b) / 2) := hmid
  have ha1 : a + 1 < mid := by omega
  have ha2 : mid + 1 < b := by omega
  obtain ⟨n, hn⟩ : ∃ n, n = mid + m := ⟨_, rfl⟩
  have en : (mid : Int) + (m : Int) = (n : Int) := by omega
  obtain ⟨pp, hpp⟩ : ∃ pp, n = pp + 1 := ⟨n - 1, by omega⟩
  have epp : (n : Int) - 1 = (pp : Int) := by omega
  have HN : Aside (n = mid + m) := hn
  have HPP : Aside (n = pp + 1) := hpp
  have hnb : n < 9223372036854775807 := by omega
  have hnm : m < n := by omega
  by_cases hgt : mid < m
  · have hgtz : (mid : Int) < (m : Int) := by omega
    obtain ⟨s0, hs0⟩ : ∃ s0, s0 = mid + m - b := ⟨_, rfl⟩
    have es0 : (n : Int) - (b : Int) = (s0 : Int) := by omega
    have HR : Aside (Rng a m b mid s0 mid) := .inl ⟨hgt, hs0, rfl⟩
    have hf1 : a ≤ s0 := by omega
    have hf2 : s0 ≤ mid := by omega
    clear h2 hy hz1 hmid hn hpp hs0
    go_wp2_with fail
    go_loopw [20, 21] (fun s20 s21 wr => ∃ s r : Nat, s20 = .int .i64 s ∧ s21 = .int .i64 r ∧ s0 ≤ s ∧ s ≤ r ∧ r ≤ mid ∧ Aside (SWK enc k w0 blk off d wr) ∧ Aside ((∀ x, s0 ≤ x → x < s → ltOf cf d[mid + m - 1 - x]! d[x]! = false) ∧ (∀ x, r ≤ x → x < mid → ltOf cf d[mid + m - 1 - x]! d[x]! = true))) (fun s20 s21 _ => (intOf s21).toNat - (intOf s20).toNat)
    case atStart => exact ⟨s0, mid, rfl, rfl, Nat.le_refl _, by omega, Nat.le_refl _, S0, (⟨fun x q1 q2 => by omega, fun x q1 q2 => by omega⟩ : (∀ x, s0 ≤ x → x < s0 → ltOf cf d[mid + m - 1 - x]! d[x]! = false) ∧ (∀ x, mid ≤ x → x < mid → ltOf cf d[mid + m - 1 - x]! d[x]! = true))⟩
    case round =>
      clear S0
      obtain ⟨s, r, rfl, rfl, hms, hsr, hrb, S1, I⟩ := hrel
      by_cases hlt : s < r
      · have hltz : (s : Int) < (r : Int) := by omega
        obtain ⟨c, hc⟩ : ∃ c, c = (s + r) / 2 := ⟨_, rfl⟩
        have ec : ((s : Int) + (r : Int)) / 2 = (c : Int) := by omega
        have hsc : s ≤ c := by omega
        have hcr : c < r := by omega
        clear hc
        obtain ⟨q, hq⟩ : ∃ q, q = mid + m - 1 - c := ⟨_, rfl⟩
        have hn1 := HN.out
        have hn2 := HPP.out
        have hf := HR.out.facts ham hmb HM.out
        have eq1 : (pp : Int) - (c : Int) = (q : Int) := by omega
        have hqd : q < d.size := by omega
        have hcd : c < d.size := by omega
        have HQ : Aside (q = mid + m - 1 - c) := hq
        clear hq hn1 hn2 hf
        have eq1 : ((q : Int)).toNat = q := by omega
        have pq1 : (0 : Int) ≤ (q : Int) := by omega
        have bq1 : (q : Int) < (d.size : Int) := by omega
        have rq1 : IntKind.i64.wrap ((q : Int)) = (q : Int) := by rw [IntKind.wrap_i64]; omega
        have ec1 : ((c : Int)).toNat = c := by omega
        have pc1 : (0 : Int) ≤ (c : Int) := by omega
        have bc1 : (c : Int) < (d.size : Int) := by omega
        have rc1 : IntKind.i64.wrap ((c : Int)) = (c : Int) := by rw [IntKind.wrap_i64]; omega
        cases hlv : ltOf cf d[q]! d[c]! with
        | true =>
          have I2 : Aside ((∀ x, s0 ≤ x → x < s → ltOf cf d[mid + m - 1 - x]! d[x]! = false) ∧ (∀ x, c ≤ x → x < mid → ltOf cf d[mid + m - 1 - x]! d[x]! = true)) := ⟨I.out.1, search_down HP.out HO.out HR.out ham hmb HM.out (by omega) (by rw [← HQ.out]; exact hlv)⟩
          obtain ⟨x31, hx31⟩ : ∃ x, x = d[q]! := ⟨_, rfl⟩
          obtain ⟨y31, hy31⟩ : ∃ x, x = d[c]! := ⟨_, rfl⟩
          have l31a := S1.out.ld R (by omega) P (q) (by omega)
          have l31b := S1.out.ld R (by omega) P (c) (by omega)
          rw [← hx31] at l31a
          rw [← hy31] at l31b
          have hc31 := S1.out.cmp HC.out (by omega) x31 y31
          have hv31 : cf x31 y31 < 0 := by rw [hx31, hy31]; exact of_decide_eq_true hlv
          have hd31 : decide (cf x31 y31 < 0) = true := decide_eq_true hv31
          clear hx31 hy31
          go_wp2_with fail
          go_quiet_grown (first | (go_at_fn g; refine Calls.grown_of (hc31 _ _)))
          have S2 : Aside (SWK enc k w0 blk off d (grow (wr.drewN nq) osq)) := S1.out.grown nq osq
          clear l31a l31b hc31 S1
          generalize grow (wr.drewN nq) osq = w2 at S2 ⊢
          clear nq osq
          go_wp2
          go_roundw
          case rel => exact ⟨s, c, rfl, rfl, hms, hsc, by omega, S2, I2⟩
          case measure => simp [intOf]; omega
        | false =>
          have I2 : Aside ((∀ x, s0 ≤ x → x < c + 1 → ltOf cf d[mid + m - 1 - x]! d[x]! = false) ∧ (∀ x, r ≤ x → x < mid → ltOf cf d[mid + m - 1 - x]! d[x]! = true)) := ⟨search_up HP.out HO.out HR.out ham hmb HM.out (by omega) (by rw [← HQ.out]; exact hlv), I.out.2⟩
          obtain ⟨x32, hx32⟩ : ∃ x, x = d[q]! := ⟨_, rfl⟩
          obtain ⟨y32, hy32⟩ : ∃ x, x = d[c]! := ⟨_, rfl⟩
          have l32a := S1.out.ld R (by omega) P (q) (by omega)
          have l32b := S1.out.ld R (by omega) P (c) (by omega)
          rw [← hx32] at l32a
          rw [← hy32] at l32b
          have hc32 := S1.out.cmp HC.out (by omega) x32 y32
          have hv32 : ¬ cf x32 y32 < 0 := by rw [hx32, hy32]; exact of_decide_eq_false hlv
          have hd32 : decide (cf x32 y32 < 0) = false := decide_eq_false hv32
          clear hx32 hy32
          go_wp2_with fail
          go_quiet_grown (first | (go_at_fn g; refine Calls.grown_of (hc32 _ _)))
          have S2 : Aside (SWK enc k w0 blk off d (grow (wr.drewN nq) osq)) := S1.out.grown nq osq
          clear l32a l32b hc32 S1
          generalize grow (wr.drewN nq) osq = w2 at S2 ⊢
          clear nq osq
          go_wp2
          go_roundw
          case rel => exact ⟨c + 1, r, by go_num, rfl, by omega, by omega, hrb, S2, I2⟩
          case measure => simp [intOf]; omega
      · obtain rfl : s = r := by omega
        have hltz : ¬ (s : Int) < (s : Int) := by omega
        obtain ⟨e, he⟩ : ∃ e, e = mid + m - s := ⟨_, rfl⟩
        have hn1 := HN.out
        have hf := HR.out.facts ham hmb HM.out
        have ee : (n : Int) - (s : Int) = (e : Int) := by omega
        have hfa : a ≤ s := by omega
        have hfm : s ≤ m := by omega
        have hfmid : s ≤ mid := by omega
        have hfe : m ≤ e := by omega
        have hfb : e ≤ b := by omega
        have hfem : mid ≤ e := by omega
        have QQ : Aside (Pre (ltOf cf) tg (rotA d s m e) a s mid ∧ (∀ d1, Post (ltOf cf) tg (rotA d s m e) a mid d1 → Pre (ltOf cf) tg d1 mid e b) ∧ ∀ d1, Post (ltOf cf) tg (rotA d s m e) a mid d1 → ∀ d2, Post (ltOf cf) tg d1 mid b d2 → Post (ltOf cf) tg d a b d2) := by
          obtain ⟨C1, C2⟩ := search_found HP.out HO.out HR.out ham hmb HM.out hms hrb I.out.1 I.out.2
          rw [← he] at C1 C2
          exact halves HP.out HO.out (Nat.le_of_lt hmb) hb mid e hfa hfm hfe hfb (by omega) C1 C2
        clear he hn1 hf I HP HR
        go_upto_region 39 with (fail)
        obtain ⟨bq, hbq⟩ : ∃ bq, decide (s < m ∧ m < e) = bq := ⟨_, rfl⟩
        have HBQ : Aside (decide (s < m ∧ m < e) = bq) := hbq
        clear hbq
        go_cut [185] from 178 to 185 (fun v wx => v = .bool bq ∧ Aside (SWK enc k w0 blk off d wx))
        case first =>
          by_cases g1 : s < m
          · have g1z : (s : Int) < (m : Int) := by omega
            by_cases g2 : m < e
            · have g2z : (m : Int) < (e : Int) := by omega
              have HB : Aside (bq = true) := by show _ = _; rw [← HBQ.out]; exact decide_eq_true ⟨g1, g2⟩
              go_wp2
              go_meet
              case rel => exact ⟨by rw [HB.out], S1⟩
            · have g2z : ¬ (m : Int) < (e : Int) := by omega
              have HB : Aside (bq = false) := by show _ = _; rw [← HBQ.out]; exact decide_eq_false (fun h => g2 h.2)
              go_wp2
              go_meet
              case rel => exact ⟨by rw [HB.out], S1⟩
          · have g1z : ¬ (s : Int) < (m : Int) := by omega
            have HB : Aside (bq = false) := by show _ = _; rw [← HBQ.out]; exact decide_eq_false (fun h => g1 h.1)
            go_wp2
            go_meet
            case rel => exact ⟨by rw [HB.out], S1⟩
        case rest =>
          clear S1
          obtain ⟨rfl, S1⟩ := hcut
          go_upto_if 185 with (fail)
          go_cut [185] from 186 to 191 (fun _ wx => Aside (SWK enc k w0 blk off (rotA d s m e) wx))
          case first =>
            rcases bq with _ | _
            · have hr : Aside (SWK enc k w0 blk off (rotA d s m e) wc) := by
                have q := of_decide_eq_false HBQ.out
                show SWK _ _ _ _ _ _ _
                by_cases q2 : s = m
                · rw [q2, rotA_left]
                  exact S1.out
                · have q3 : m = e := by omega
                  rw [← q3, rotA_right]
                  exact S1.out
              go_wp2
              go_meet
              case rel => exact hr
            · obtain ⟨g1, g2⟩ := of_decide_eq_true HBQ.out
              have hc := rotate_any HL.out enc g cb blk off cap s m e d0 d w0 wc R (by omega) S1.out g1 g2 (by omega) hsz
              go_wp2_with (go_at_fn 65; refine hc.mono ?_; rintro e' w2 ⟨rfl, S2⟩)
              go_meet
              case rel => exact S2
          case rest =>
          clear S1 HBQ bq
          have S5 := hcut
          clear hcut
          have hds : (rotA d s m e).size = d.size := rotA_size _ _ _ _
          generalize rotA d s m e = rr at *
          go_upto_region 41 with (fail)
          obtain ⟨bq, hbq⟩ : ∃ bq, decide (a < s ∧ s < mid) = bq := ⟨_, rfl⟩
          have HBQ : Aside (decide (a < s ∧ s < mid) = bq) := hbq
          clear hbq
          go_cut [199] from 192 to 199 (fun v wx => v = .bool bq ∧ Aside (SWK enc k w0 blk off rr wx))
          case first =>
            by_cases g1 : a < s
            · have g1z : (a : Int) < (s : Int) := by omega
              by_cases g2 : s < mid
              · have g2z : (s : Int) < (mid : Int) := by omega
                have HB : Aside (bq = true) := by show _ = _; rw [← HBQ.out]; exact decide_eq_true ⟨g1, g2⟩
                go_wp2
                go_meet
                case rel => exact ⟨by rw [HB.out], S5⟩
              · have g2z : ¬ (s : Int) < (mid : Int) := by omega
                have HB : Aside (bq = false) := by show _ = _; rw [← HBQ.out]; exact decide_eq_false (fun h => g2 h.2)
                go_wp2
                go_meet
                case rel => exact ⟨by rw [HB.out], S5⟩
            · have g1z : ¬ (a : Int) < (s : Int) := by omega
              have HB : Aside (bq = false) := by show _ = _; rw [← HBQ.out]; exact decide_eq_false (fun h => g1 h.1)
              go_wp2
              go_meet
              case rel => exact ⟨by rw [HB.out], S5⟩
          case rest =>
          clear S5
          obtain ⟨rfl, S5⟩ := hcut
          obtain ⟨wv, hwv⟩ : ∃ wv : World, wv = wc := ⟨_, rfl⟩
          go_upto_if 199 with (fail)
          go_cut [199] from 200 to 205 (fun _ wx => ∃ d1, Aside (Post (ltOf cf) tg rr a mid d1) ∧ Aside (SWK enc k w0 blk off d1 wx))
          case first =>
            clear hwv wv
            rcases bq with _ | _
            · have hr : Aside (Post (ltOf cf) tg rr a mid rr) := Post.none QQ.out.1 (of_decide_eq_false HBQ.out) (by omega) (by omega)
              go_wp2
              go_meet
              case rel => exact ⟨rr, hr, S5⟩
            · obtain ⟨g1, g2⟩ := of_decide_eq_true HBQ.out
              have hc := IH.out a s mid rr _ (by omega) (by omega) S5.out g1 g2 (by omega) (by omega) QQ.out.1
              rw [hds] at hc
              go_wp2_with (go_at_fn 64; refine hc.mono ?_; rintro e' w2 ⟨rfl, d1, P1, S6⟩)
              go_meet
              case rel => exact ⟨d1, P1, S6⟩
          case rest =>
            clear S5 HBQ bq hwv wv
            obtain ⟨d1, P1, S6⟩ := hcut
            have hd1 : d1.size = d.size := P1.out.perm.1.trans hds
            by_cases g1 : mid < e
            · have g1z : (mid : Int) < (e : Int) := by omega
              by_cases g2 : e < b
              · have g2z : (e : Int) < (b : Int) := by omega
                have hc := IH.out mid e b d1 _ (by omega) (by omega) S6.out g1 g2 (by omega) (by omega) (QQ.out.2.1 d1 P1.out)
                rw [hd1] at hc
                go_wp2_with (go_at_fn 64; refine hc.mono ?_; rintro e' w2 ⟨rfl, d2, P2, S7⟩)
                go_end0
                exact ⟨rfl, d2, QQ.out.2.2 d1 P1.out d2 P2, S7⟩
              · have g2z : ¬ (e : Int) < (b : Int) := by omega
                have hr : Aside (Post (ltOf cf) tg d a b d1) := QQ.out.2.2 d1 P1.out d1 (Post.none (QQ.out.2.1 d1 P1.out) (by omega) (by omega) (by omega))
                go_wp2
                go_end0
                exact ⟨rfl, d1, hr, S6.out⟩
            · have g1z : ¬ (mid : Int) < (e : Int) := by omega
              have hr : Aside (Post (ltOf cf) tg d a b d1) := QQ.out.2.2 d1 P1.out d1 (Post.none (QQ.out.2.1 d1 P1.out) (by omega) (by omega) (by omega))
              go_wp2
              go_end0
              exact ⟨rfl, d1, hr, S6.out⟩
  · have hgtz : ¬ (mid : Int) < (m : Int) := by omega
    have HR : Aside (Rng a m b mid a m) := .inr ⟨by omega, rfl, rfl⟩
    clear h2 hy hz1 hmid hn hpp
    go_wp2_with fail
    go_loopw [20, 21] (fun s20 s21 wr => ∃ s r : Nat, s20 = .int .i64 s ∧ s21 = .int .i64 r ∧ a ≤ s ∧ s ≤ r ∧ r ≤ m ∧ Aside (SWK enc k w0 blk off d wr) ∧ Aside ((∀ x, a ≤ x → x < s → ltOf cf d[mid + m - 1 - x]! d[x]! = false) ∧ (∀ x, r ≤ x → x < m → ltOf cf d[mid + m - 1 - x]! d[x]! = true))) (fun s20 s21 _ => (intOf s21).toNat - (intOf s20).toNat)
    case atStart => exact ⟨a, m, rfl, rfl, Nat.le_refl _, by omega, Nat.le_refl _, S0, (⟨fun x q1 q2 => by omega, fun x q1 q2 => by omega⟩ : (∀ x, a ≤ x → x < a → ltOf cf d[mid + m - 1 - x]! d[x]! = false) ∧ (∀ x, m ≤ x → x < m → ltOf cf d[mid + m - 1 - x]! d[x]! = true))⟩
    case round =>
      clear S0
      obtain ⟨s, r, rfl, rfl, hms, hsr, hrb, S1, I⟩ := hrel
      by_cases hlt : s < r
      · have hltz : (s : Int) < (r : Int) := by omega
        obtain ⟨c, hc⟩ : ∃ c, c = (s + r) / 2 := ⟨_, rfl⟩
        have ec : ((s : Int) + (r : Int)) / 2 = (c : Int) := by omega
        have hsc : s ≤ c := by omega
        have hcr : c < r := by omega
        clear hc
        obtain ⟨q, hq⟩ : ∃ q, q = mid + m - 1 - c := ⟨_, rfl⟩
        have hn1 := HN.out
        have hn2 := HPP.out
        have hf := HR.out.facts ham hmb HM.out
        have eq1 : (pp : Int) - (c : Int) = (q : Int) := by omega
        have hqd : q < d.size := by omega
        have hcd : c < d.size := by omega
        have HQ : Aside (q = mid + m - 1 - c) := hq
        clear hq hn1 hn2 hf
        have eq1 : ((q : Int)).toNat = q := by omega
        have pq1 : (0 : Int) ≤ (q : Int) := by omega
        have bq1 : (q : Int) < (d.size : Int) := by omega
        have rq1 : IntKind.i64.wrap ((q : Int)) = (q : Int) := by rw [IntKind.wrap_i64]; omega
        have ec1 : ((c : Int)).toNat = c := by omega
        have pc1 : (0 : Int) ≤ (c : Int) := by omega
        have bc1 : (c : Int) < (d.size : Int) := by omega
        have rc1 : IntKind.i64.wrap ((c : Int)) = (c : Int) := by rw [IntKind.wrap_i64]; omega
        cases hlv : ltOf cf d[q]! d[c]! with
        | true =>
          have I2 : Aside ((∀ x, a ≤ x → x < s → ltOf cf d[mid + m - 1 - x]! d[x]! = false) ∧ (∀ x, c ≤ x → x < m → ltOf cf d[mid + m - 1 - x]! d[x]! = true)) := ⟨I.out.1, search_down HP.out HO.out HR.out ham hmb HM.out (by omega) (by rw [← HQ.out]; exact hlv)⟩
          obtain ⟨x31, hx31⟩ : ∃ x, x = d[q]! := ⟨_, rfl⟩
          obtain ⟨y31, hy31⟩ : ∃ x, x = d[c]! := ⟨_, rfl⟩
          have l31a := S1.out.ld R (by omega) P (q) (by omega)
          have l31b := S1.out.ld R (by omega) P (c) (by omega)
          rw [← hx31] at l31a
          rw [← hy31] at l31b
          have hc31 := S1.out.cmp HC.out (by omega) x31 y31
          have hv31 : cf x31 y31 < 0 := by rw [hx31, hy31]; exact of_decide_eq_true hlv
          have hd31 : decide (cf x31 y31 < 0) = true := decide_eq_true hv31
          clear hx31 hy31
          go_wp2_with fail
          go_quiet_grown (first | (go_at_fn g; refine Calls.grown_of (hc31 _ _)))
          have S2 : Aside (SWK enc k w0 blk off d (grow (wr.drewN nq) osq)) := S1.out.grown nq osq
          clear l31a l31b hc31 S1
          generalize grow (wr.drewN nq) osq = w2 at S2 ⊢
          clear nq osq
          go_wp2
          go_roundw
          case rel => exact ⟨s, c, rfl, rfl, hms, hsc, by omega, S2, I2⟩
          case measure => simp [intOf]; omega
        | false =>
          have I2 : Aside ((∀ x, a ≤ x → x < c + 1 → ltOf cf d[mid + m - 1 - x]! d[x]! = false) ∧ (∀ x, r ≤ x → x < m → ltOf cf d[mid + m - 1 - x]! d[x]! = true)) := ⟨search_up HP.out HO.out HR.out ham hmb HM.out (by omega) (by rw [← HQ.out]; exact hlv), I.out.2⟩
          obtain ⟨x32, hx32⟩ : ∃ x, x = d[q]! := ⟨_, rfl⟩
          obtain ⟨y32, hy32⟩ : ∃ x, x = d[c]! := ⟨_, rfl⟩
          have l32a := S1.out.ld R (by omega) P (q) (by omega)
          have l32b := S1.out.ld R (by omega) P (c) (by omega)
          rw [← hx32] at l32a
          rw [← hy32] at l32b
          have hc32 := S1.out.cmp HC.out (by omega) x32 y32
          have hv32 : ¬ cf x32 y32 < 0 := by rw [hx32, hy32]; exact of_decide_eq_false hlv
          have hd32 : decide (cf x32 y32 < 0) = false := decide_eq_false hv32
          clear hx32 hy32
          go_wp2_with fail
          go_quiet_grown (first | (go_at_fn g; refine Calls.grown_of (hc32 _ _)))
          have S2 : Aside (SWK enc k w0 blk off d (grow (wr.drewN nq) osq)) := S1.out.grown nq osq
          clear l32a l32b hc32 S1
          generalize grow (wr.drewN nq) osq = w2 at S2 ⊢
          clear nq osq
          go_wp2
          go_roundw
          case rel => exact ⟨c + 1, r, by go_num, rfl, by omega, by omega, hrb, S2, I2⟩
          case measure => simp [intOf]; omega
      · obtain rfl : s = r := by omega
        have hltz : ¬ (s : Int) < (s : Int) := by omega
        obtain ⟨e, he⟩ : ∃ e, e = mid + m - s := ⟨_, rfl⟩
        have hn1 := HN.out
        have hf := HR.out.facts ham hmb HM.out
        have ee : (n : Int) - (s : Int) = (e : Int) := by omega
        have hfa : a ≤ s := by omega
        have hfm : s ≤ m := by omega
        have hfmid : s ≤ mid := by omega
        have hfe : m ≤ e := by omega
        have hfb : e ≤ b := by omega
        have hfem : mid ≤ e := by omega
        have QQ : Aside (Pre (ltOf cf) tg (rotA d s m e) a s mid ∧ (∀ d1, Post (ltOf cf) tg (rotA d s m e) a mid d1 → Pre (ltOf cf) tg d1 mid e b) ∧ ∀ d1, Post (ltOf cf) tg (rotA d s m e) a mid d1 → ∀ d2, Post (ltOf cf) tg d1 mid b d2 → Post (ltOf cf) tg d a b d2) := by
          obtain ⟨C1, C2⟩ := search_found HP.out HO.out HR.out ham hmb HM.out hms hrb I.out.1 I.out.2
          rw [← he] at C1 C2
          exact halves HP.out HO.out (Nat.le_of_lt hmb) hb mid e hfa hfm hfe hfb (by omega) C1 C2
        clear he hn1 hf I HP HR
        go_upto_region 39 with (fail)
        obtain ⟨bq, hbq⟩ : ∃ bq, decide (s < m ∧ m < e) = bq := ⟨_, rfl⟩
        have HBQ : Aside (decide (s < m ∧ m < e) = bq) := hbq
        clear hbq
        go_cut [185] from 178 to 185 (fun v wx => v = .bool bq ∧ Aside (SWK enc k w0 blk off d wx))
        case first =>
          by_cases g1 : s < m
          · have g1z : (s : Int) < (m : Int) := by omega
            by_cases g2 : m < e
            · have g2z : (m : Int) < (e : Int) := by omega
              have HB : Aside (bq = true) := by show _ = _; rw [← HBQ.out]; exact decide_eq_true ⟨g1, g2⟩
              go_wp2
              go_meet
              case rel => exact ⟨by rw [HB.out], S1⟩
            · have g2z : ¬ (m : Int) < (e : Int) := by omega
              have HB : Aside (bq = false) := by show _ = _; rw [← HBQ.out]; exact decide_eq_false (fun h => g2 h.2)
              go_wp2
              go_meet
              case rel => exact ⟨by rw [HB.out], S1⟩
          · have g1z : ¬ (s : Int) < (m : Int) := by omega
            have HB : Aside (bq = false) := by show _ = _; rw [← HBQ.out]; exact decide_eq_false (fun h => g1 h.1)
            go_wp2
            go_meet
            case rel => exact ⟨by rw [HB.out], S1⟩
        case rest =>
          clear S1
          obtain ⟨rfl, S1⟩ := hcut
          go_upto_if 185 with (fail)
          go_cut [185] from 186 to 191 (fun _ wx => Aside (SWK enc k w0 blk off (rotA d s m e) wx))
          case first =>
            rcases bq with _ | _
            · have hr : Aside (SWK enc k w0 blk off (rotA d s m e) wc) := by
                have q := of_decide_eq_false HBQ.out
                show SWK _ _ _ _ _ _ _
                by_cases q2 : s = m
                · rw [q2, rotA_left]
                  exact S1.out
                · have q3 : m = e := by omega
                  rw [← q3, rotA_right]
                  exact S1.out
              go_wp2
              go_meet
              case rel => exact hr
            · obtain ⟨g1, g2⟩ := of_decide_eq_true HBQ.out
              have hc := rotate_any HL.out enc g cb blk off cap s m e d0 d w0 wc R (by omega) S1.out g1 g2 (by omega) hsz
              go_wp2_with (go_at_fn 65; refine hc.mono ?_; rintro e' w2 ⟨rfl, S2⟩)
              go_meet
              case rel => exact S2
          case rest =>
          clear S1 HBQ bq
          have S5 := hcut
          clear hcut
          have hds : (rotA d s m e).size = d.size := rotA_size _ _ _ _
          generalize rotA d s m e = rr at *
          go_upto_region 41 with (fail)
          obtain ⟨bq, hbq⟩ : ∃ bq, decide (a < s ∧ s < mid) = bq := ⟨_, rfl⟩
          have HBQ : Aside (decide (a < s ∧ s < mid) = bq) := hbq
          clear hbq
          go_cut [199] from 192 to 199 (fun v wx => v = .bool bq ∧ Aside (SWK enc k w0 blk off rr wx))
          case first =>
            by_cases g1 : a < s
            · have g1z : (a : Int) < (s : Int) := by omega
              by_cases g2 : s < mid
              · have g2z : (s : Int) < (mid : Int) := by omega
                have HB : Aside (bq = true) := by show _ = _; rw [← HBQ.out]; exact decide_eq_true ⟨g1, g2⟩
                go_wp2
                go_meet
                case rel => exact ⟨by rw [HB.out], S5⟩
              · have g2z : ¬ (s : Int) < (mid : Int) := by omega
                have HB : Aside (bq = false) := by show _ = _; rw [← HBQ.out]; exact decide_eq_false (fun h => g2 h.2)
                go_wp2
                go_meet
                case rel => exact ⟨by rw [HB.out], S5⟩
            · have g1z : ¬ (a : Int) < (s : Int) := by omega
              have HB : Aside (bq = false) := by show _ = _; rw [← HBQ.out]; exact decide_eq_false (fun h => g1 h.1)
              go_wp2
              go_meet
              case rel => exact ⟨by rw [HB.out], S5⟩
          case rest =>
          clear S5
          obtain ⟨rfl, S5⟩ := hcut
          obtain ⟨wv, hwv⟩ : ∃ wv : World, wv = wc := ⟨_, rfl⟩
          go_upto_if 199 with (fail)
          go_cut [199] from 200 to 205 (fun _ wx => ∃ d1, Aside (Post (ltOf cf) tg rr a mid d1) ∧ Aside (SWK enc k w0 blk off d1 wx))
          case first =>
            clear hwv wv
            rcases bq with _ | _
            · have hr : Aside (Post (ltOf cf) tg rr a mid rr) := Post.none QQ.out.1 (of_decide_eq_false HBQ.out) (by omega) (by omega)
              go_wp2
              go_meet
              case rel => exact ⟨rr, hr, S5⟩
            · obtain ⟨g1, g2⟩ := of_decide_eq_true HBQ.out
              have hc := IH.out a s mid rr _ (by omega) (by omega) S5.out g1 g2 (by omega) (by omega) QQ.out.1
              rw [hds] at hc
              go_wp2_with (go_at_fn 64; refine hc.mono ?_; rintro e' w2 ⟨rfl, d1, P1, S6⟩)
              go_meet
              case rel => exact ⟨d1, P1, S6⟩
          case rest =>
            clear S5 HBQ bq hwv wv
            obtain ⟨d1, P1, S6⟩ := hcut
            have hd1 : d1.size = d.size := P1.out.perm.1.trans hds
            by_cases g1 : mid < e
            · have g1z : (mid : Int) < (e : Int) := by omega
              by_cases g2 : e < b
              · have g2z : (e : Int) < (b : Int) := by omega
                have hc := IH.out mid e b d1 _ (by omega) (by omega) S6.out g1 g2 (by omega) (by omega) (QQ.out.2.1 d1 P1.out)
                rw [hd1] at hc
                go_wp2_with (go_at_fn 64; refine hc.mono ?_; rintro e' w2 ⟨rfl, d2, P2, S7⟩)
                go_end0
                exact ⟨rfl, d2, QQ.out.2.2 d1 P1.out d2 P2, S7⟩
              · have g2z : ¬ (e : Int) < (b : Int) := by omega
                have hr : Aside (Post (ltOf cf) tg d a b d1) := QQ.out.2.2 d1 P1.out d1 (Post.none (QQ.out.2.1 d1 P1.out) (by omega) (by omega) (by omega))
                go_wp2
                go_end0
                exact ⟨rfl, d1, hr, S6.out⟩
            · have g1z : ¬ (mid : Int) < (e : Int) := by omega
              have hr : Aside (Post (ltOf cf) tg d a b d1) := QQ.out.2.2 d1 P1.out d1 (Post.none (QQ.out.2.1 d1 P1.out) (by omega) (by omega) (by omega))
              go_wp2
              go_end0
              exact ⟨rfl, d1, hr, S6.out⟩
theorem symMerge_all {k : Nat} (L : StL P k) (enc : α → List Value) (cf : α → α → Int) (tg : α → Nat) (hO : SWO (ltOf cf)) (g : Nat) (cb : Array Value) (blk off cap : Nat) (d0 : Array α) (w0 : World)
    (eg : ∀ args w, (callFunc g args).run P w = .ok (.enter g args) w) (hcmp : CmpLays P g cb enc k cf blk off d0.size w0) (R : RowK enc k w0 blk off d0) :
    ∀ (N a m b : Nat) (d : Array α) (w : World), b - a < N → d0.size = d.size → SWK enc k w0 blk off d w → a < m → m < b → b ≤ d.size → d.size < 4611686018427387904 → Pre (ltOf cf) tg d a m b →
    Calls P 64 #[.slice (some ⟨blk, off, none⟩) d.size cap, .int .i64 a, .int .i64 m, .int .i64 b, .func (.func g) #[] cb] w fun e w' => e = .returned (.tuple #[]) ∧ ∃ d', Post (ltOf cf) tg d a b d' ∧ SWK enc k w0 blk off d' w' := by
  intro N
  induction N with
  | zero => intro _ _ _ _ _ h; exact absurd h (Nat.not_lt_zero _)
  | succ N ih =>
    intro a m b d w hN hs S ham hmb hb hsz hpre
    by_cases h1 : m = a + 1
    · exact symMerge_left L enc cf tg hO g cb blk off cap d0 w0 eg hcmp R a m b d w hs S ham hmb hb hsz hpre h1
    · by_cases h2 : b = m + 1
      · exact symMerge_right L enc cf tg hO g cb blk off cap d0 w0 eg hcmp R a m b d w hs S ham hmb hb hsz hpre h1 h2
      · exact symMerge_halves L enc cf tg hO g cb blk off cap d0 w0 eg hcmp R a m b d w hs S ham hmb hb hsz hpre h1 h2 (fun a' m' b' d w h => ih a' m' b' d w (by omega))
end Go.Proofs.YtbmajajndckfoaaDoor
