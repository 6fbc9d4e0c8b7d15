/- slices.swapRangeCmpFunc at elements of k cells. -/
import Derived.Test.YtbmajajndckfoaaDoorQStL
import Derived.Shelf.SlSortFuncK.PartitionK
import Derived.Sort.WalkC4
import Derived.Sort.WalkB2
import Derived.Sort.WalkB12
import Derived.Deep.LoopGhost
namespace Go.Proofs.YtbmajajndckfoaaDoor
open Go.Shelf Go.RowKit Go.Lib Go.Sort Sm
variable {P : Program} {α : Type} [Inhabited α]
set_option maxHeartbeats 8000000 in
set_option maxRecDepth 1000000 in
theorem swapRange_any {k : Nat} (L : StL P k) (enc : α → List Value) (g : Nat) (cb : Array Value) (blk off cap a b n : Nat) (d0 d : Array α) (w0 w : World)
    (R : RowK enc k w0 blk off d0) (hs : d0.size = d.size) (S : SWK enc k w0 blk off d w) (hab : a + n ≤ b ∨ b + n ≤ a) (ha : a + n ≤ d.size) (hb : b + n ≤ d.size) (hsz : d.size < 4611686018427387904) :
    Calls P 66 #[.slice (some ⟨blk, off, none⟩) d.size cap, .int .i64 a, .int .i64 b, .int .i64 n, .func (.func g) #[] cb] w fun e w' => e = .returned (.tuple #[]) ∧ SWK enc k w0 blk off (swpR d a b n) w' := by
  have mixed := L.mixed; have t0 := L.t0; have a0 := L.a0; have z0 := L.z0; have v0 := L.v0; have t3 := L.t3; have a3 := L.a3; have z3 := L.z3; have v3 := L.v3; have t4 := L.t4; have a4 := L.a4; have z4 := L.z4; have v4 := L.v4; have t22 := L.t22; have a22 := L.a22; have z22 := L.z22; have v22 := L.v22; have t25 := L.t25; have a25 := L.a25; have z25 := L.z25; have v25 := L.v25; have t39 := L.t39; have a39 := L.a39; have z39 := L.z39; have v39 := L.v39; have aE := L.aE; have zE := L.zE; have u3 := run_underlying L.t3; have u22 := run_underlying L.t22; have u39 := run_underlying L.t39
  have FG := L.fS
  have S0 : Aside (SWK enc k w0 blk off (swpR d a b 0) w) := by show SWK _ _ _ _ _ _ _; rw [swpR_zero]; exact S
  clear S L
  go_enter FG, Tryd.ntmps66
  go_wp2_with fail
  go_loopw [10] (fun v wr => ∃ i : Nat, v = .int .i64 i ∧ i ≤ n ∧ Aside (SWK enc k w0 blk off (swpR d a b i) wr)) (fun v _ => n - (intOf v).toNat)
  case atStart => exact ⟨0, rfl, Nat.zero_le _, S0⟩
  case round =>
    clear S0
    obtain ⟨i, rfl, hi, S1⟩ := hrel
    by_cases hlt : i < n
    · have hltz : (i : Int) < (n : Int) := by omega
      have hds : (swpR d a b i).size = d.size := swpR_size _ _ _ _
      have HN : Aside (swp (swpR d a b i) (a + i) (b + i) = swpR d a b (i + 1)) := swpR_succ d (by omega) (by omega) (by omega)
      obtain ⟨dk, hdk⟩ : ∃ dk, swpR d a b i = dk := ⟨_, rfl⟩
      rw [hdk] at S1 hds HN
      clear hdk
      obtain ⟨x, hx⟩ : ∃ x, x = a + i := ⟨_, rfl⟩
      obtain ⟨y, hy⟩ : ∃ y, y = b + i := ⟨_, rfl⟩
      have ex : (a : Int) + (i : Int) = (x : Int) := by omega
      have ey : (b : Int) + (i : Int) = (y : Int) := by omega
      have hxd : x < d.size := by omega
      have hyd : y < d.size := by omega
      rw [← hx, ← hy] at HN
      clear hx hy
      have ex1 : ((x : Int)).toNat = x := by omega
      have px1 : (0 : Int) ≤ (x : Int) := by omega
      have bx1 : (x : Int) < (d.size : Int) := by omega
      have rx1 : IntKind.i64.wrap ((x : Int)) = (x : Int) := by rw [IntKind.wrap_i64]; omega
      have ey1 : ((y : Int)).toNat = y := by omega
      have py1 : (0 : Int) ≤ (y : Int) := by omega
      have by1 : (y : Int) < (d.size : Int) := by omega
      have ry1 : IntKind.i64.wrap ((y : Int)) = (y : Int) := by rw [IntKind.wrap_i64]; omega
      go_wp2_with fail
      have S2 : Aside (SWK enc k w0 blk off (swp dk (x) (y)) ((wr.drew.setCells blk (off + (x) * k) (enc dk[y]!)).setCells blk (off + (y) * k) (enc dk[x]!))) := S1.out.swapped R (x) (y) (by omega) (by omega)
      have l1a := S1.out.ld1 R (by omega) P (x) (by omega)
      have l1b := S1.out.ld1 R (by omega) P (y) (by omega)
      have s1a := S1.out.st1 R (by omega) P (x) (by omega) dk[y]!
      have s1b := S1.out.st2 R (by omega) P (x) (y) (by omega) (by omega) dk[y]! dk[x]!
      have n1a : (enc dk[x]!).length = k := R.hk _
      have n1b : (enc dk[y]!).length = k := R.hk _
      generalize enc dk[x]! = cI1 at S2 l1a s1b n1a
      generalize enc dk[y]! = cJ1 at S2 l1b s1a s1b n1b
      clear S1
      go_wp2_with fail
      go_big_region_o
      clear l1a l1b s1a s1b
      generalize (wr.drew.setCells blk (off + (x) * k) cJ1).setCells blk (off + (y) * k) cI1 = w2 at S2 ⊢
      go_wp2
      go_roundw
      case rel => exact ⟨i + 1, by go_num, by omega, by rw [← HN.out]; exact S2⟩
      case measure => simp [intOf]; omega
    · obtain rfl : i = n := by omega
      have hltz : ¬ (i : Int) < (i : Int) := by omega
      go_wp2
      go_end0
      exact ⟨rfl, S1.out⟩
end Go.Proofs.YtbmajajndckfoaaDoor
