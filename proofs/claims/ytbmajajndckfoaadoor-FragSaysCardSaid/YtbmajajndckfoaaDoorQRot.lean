/- slices.rotateCmpFunc at elements of k cells. -/
import Derived.Test.YtbmajajndckfoaaDoorQSwap
import Derived.Shelf.SlSortFuncK.PartitionK
import Derived.Sort.WalkC4
import Derived.Sort.WalkB2
import Derived.Sort.WalkB12
import Derived.Deep.LoopGhost
namespace Go.Proofs.YtbmajajndckfoaaDoor
open Go.Shelf Go.RowKit Go.Lib Go.Sort Sm
variable {P : Program} {α : Type} [Inhabited α]
set_option maxHeartbeats 8000000 in
set_option maxRecDepth 1000000 in
theorem rotate_any {k : Nat} (L : StL P k) (enc : α → List Value) (g : Nat) (cb : Array Value) (blk off cap a m b : Nat) (d0 d : Array α) (w0 w : World)
    (R : RowK enc k w0 blk off d0) (hs : d0.size = d.size) (S : SWK enc k w0 blk off d w) (ham : a < m) (hmb : m < b) (hb : b ≤ d.size) (hsz : d.size < 4611686018427387904) :
    Calls P 65 #[.slice (some ⟨blk, off, none⟩) d.size cap, .int .i64 a, .int .i64 m, .int .i64 b, .func (.func g) #[] cb] w fun e w' => e = .returned (.tuple #[]) ∧ SWK enc k w0 blk off (rotA d a m b) w' := by
  have mixed := L.mixed; have t0 := L.t0; have a0 := L.a0; have z0 := L.z0; have v0 := L.v0; have t3 := L.t3; have a3 := L.a3; have z3 := L.z3; have v3 := L.v3; have t4 := L.t4; have a4 := L.a4; have z4 := L.z4; have v4 := L.v4; have t22 := L.t22; have a22 := L.a22; have z22 := L.z22; have v22 := L.v22; have t25 := L.t25; have a25 := L.a25; have z25 := L.z25; have v25 := L.v25; have t39 := L.t39; have a39 := L.a39; have z39 := L.z39; have v39 := L.v39; have aE := L.aE; have zE := L.zE; have u3 := run_underlying L.t3; have u22 := run_underlying L.t22; have u39 := run_underlying L.t39
  have eS : ∀ args w, (callFunc 66 args).run P w = .ok (.enter 66 args) w := enters_of L.fS (by kernel_rfl) rfl
  have FG := L.fR
  have HL : Aside (StL P k) := L
  have S0 : Aside (SWK enc k w0 blk off d w) := S
  have A0 : Aside (rotA d (m - (m - a)) m (m + (b - m)) = rotA d a m b) := by
    show _ = _
    rw [show m - (m - a) = a from by omega, show m + (b - m) = b from by omega]
  clear S L
  go_enter FG, Tryd.ntmps65
  go_wp2_with fail
  go_loopw [10, 11] (fun s10 s11 wr => ∃ (i j : Nat) (dk : Array α), s10 = .int .i64 i ∧ s11 = .int .i64 j ∧ 0 < i ∧ 0 < j ∧ i ≤ m ∧ m + j ≤ d.size ∧ dk.size = d.size ∧ Aside (SWK enc k w0 blk off dk wr) ∧ Aside (rotA dk (m - i) m (m + j) = rotA d a m b)) (fun s10 s11 _ => (intOf s10).toNat + (intOf s11).toNat)
  case atStart => exact ⟨m - a, b - m, d, by congr 1; omega, by congr 1; omega, by omega, by omega, by omega, by omega, rfl, S0, A0⟩
  case round =>
    clear S0 A0
    obtain ⟨i, j, dk, rfl, rfl, hi, hj, him, hjd, hds, S1, A1⟩ := hrel
    obtain ⟨u, hu⟩ : ∃ u, u = m - i := ⟨_, rfl⟩
    have eu : (m : Int) - (i : Int) = (u : Int) := by omega
    have HU : Aside (u = m - i) := hu
    have hum : u + i = m := by omega
    clear hu
    by_cases hij : i = j
    · subst hij
      have HE : Aside (swpR dk u m i = rotA dk (m - i) m (m + i)) := by
        show _ = _
        rw [HU.out]
        exact rot_eq dk him
      have hc := swapRange_any HL.out enc g cb blk off cap u m i d0 dk w0 wr R (by omega) S1.out (by omega) (by omega) (by omega) (by omega)
      rw [hds] at hc
      go_wp2_with (go_at_fn 66; refine hc.mono ?_; rintro e w2 ⟨rfl, S2⟩)
      go_end0
      refine ⟨rfl, ?_⟩
      rw [← A1.out, ← HE.out]
      exact S2
    · have hne : ((i : Int) != (j : Int)) = true := by rw [bne_iff_ne]; omega
      by_cases hgt : j < i
      · have hgtz : (j : Int) < (i : Int) := by omega
        have HE : Aside (rotA (swpR dk u m j) (m - (i - j)) m (m + j) = rotA d a m b) := by
          show _ = _
          rw [HU.out, rot_gt dk hgt him (by omega)]
          exact A1.out
        have hc := swapRange_any HL.out enc g cb blk off cap u m j d0 dk w0 wr R (by omega) S1.out (by omega) (by omega) (by omega) (by omega)
        rw [hds] at hc
        go_wp2_with (go_at_fn 66; refine hc.mono ?_; rintro e w2 ⟨rfl, S2⟩)
        go_roundw
        case rel => exact ⟨i - j, j, swpR dk u m j, by congr 1; omega, rfl, by omega, hj, by omega, hjd, by rw [swpR_size]; exact hds, S2, HE⟩
        case measure => simp [intOf]; omega
      · have hgtz : ¬ (j : Int) < (i : Int) := by omega
        obtain ⟨v, hv⟩ : ∃ v, v = m + j - i := ⟨_, rfl⟩
        have ev : (m : Int) + (j : Int) - (i : Int) = (v : Int) := by omega
        have HE : Aside (rotA (swpR dk u v i) (m - i) m (m + (j - i)) = rotA d a m b) := by
          show _ = _
          rw [HU.out, hv, rot_lt dk (by omega) him (by omega)]
          exact A1.out
        have hvm : v + i = m + j := by omega
        clear hv
        have hc := swapRange_any HL.out enc g cb blk off cap u v i d0 dk w0 wr R (by omega) S1.out (by omega) (by omega) (by omega) (by omega)
        rw [hds] at hc
        go_wp2_with (go_at_fn 66; refine hc.mono ?_; rintro e w2 ⟨rfl, S2⟩)
        go_roundw
        case rel => exact ⟨i, j - i, swpR dk u v i, rfl, by congr 1; omega, hi, by omega, him, by omega, by rw [swpR_size]; exact hds, S2, HE⟩
        case measure => simp [intOf]; omega
end Go.Proofs.YtbmajajndckfoaaDoor
