/- slices.stableCmpFunc at elements of k cells, 40 at most. -/
import Derived.Test.YtbmajajndckfoaaDoorQSym
import Derived.Shelf.SlSortFuncK.PartitionK
import Derived.Sort.WalkC4
import Derived.Sort.WalkB2
import Derived.Sort.WalkB12
import Derived.Deep.LoopGhost
namespace Go.Proofs.YtbmajajndckfoaaDoor
open Go.Shelf Go.RowKit Go.Lib Go.Sort Sm
variable {P : Program} {α : Type} [Inhabited α]
theorem ins_any {k : Nat} (L : StL P k) (enc : α → List Value) (cf : α → α → Int) (hO : SWO (ltOf cf)) (g : Nat) (cb : Array Value) (blk off cap a b : Nat) (d0 d : Array α) (w0 w : World)
    (eg : ∀ args w, (callFunc g args).run P w = .ok (.enter g args) w) (hcmp : CmpLays P g cb enc k cf blk off d0.size w0) (R : RowK enc k w0 blk off d0) (hs : d0.size = d.size) (S : SWK enc k w0 blk off d w) (hab : a ≤ b) (hb : b ≤ d.size) (hsz : d.size < 4611686018427387904) :
    Calls P 63 #[.slice (some ⟨blk, off, none⟩) d.size cap, .int .i64 a, .int .i64 b, .func (.func g) #[] cb] w fun e w' => e = .returned (.tuple #[]) ∧ SWK enc k w0 blk off (Sort.insertionSort (ltOf cf) d a b) w' := by
  have hs' : (Sort.insertionSort (ltOf cf) d a b).size = d.size := (insertionSort_holds hO d a b hab hb).1.1
  have hC : CmpLays P g cb enc k cf blk off d.size w := fun m os dk hdk x y => by
    obtain ⟨n0, os0, rfl⟩ := S
    rw [sortWorldK_on enc k w0 blk off n0 m d dk os0 os R.hblk hdk]
    exact hcmp _ _ dk (by omega) x y
  refine (AnyQ.insertionSortCmpFunc L.ins k L.aE L.zE enc R.hk R.h1 cf g cb blk off cap a b d w eg hC (S.holds R.hblk R.hH hs.symm) (S.lt R.hblk) hab hb hsz).mono ?_
  rintro e w' ⟨rfl, n, os, rfl⟩
  exact ⟨rfl, S.on R.hblk n _ os hs'⟩
set_option maxHeartbeats 8000000 in
set_option maxRecDepth 1000000 in
theorem stable_any {k : Nat} (L : StL P k) (enc : α → List Value) (cf : α → α → Int) (tg : α → Nat) (hO : SWO (ltOf cf)) (g : Nat) (cb : Array Value) (blk off cap n : Nat) (d0 : Array α) (w0 : World)
    (eg : ∀ args w, (callFunc g args).run P w = .ok (.enter g args) w) (hcmp : CmpLays P g cb enc k cf blk off d0.size w0) (R : RowK enc k w0 blk off d0) (hn : d0.size = n) (h40 : n ≤ 40) (ht : ∀ p q, p < q → q < n → tg d0[p]! < tg d0[q]!) :
    Calls P 59 #[.slice (some ⟨blk, off, none⟩) n cap, .int .i64 n, .func (.func g) #[] cb] w0 fun e w' => e = .returned (.tuple #[]) ∧ ∃ d', Post (ltOf cf) tg d0 0 n d' ∧ SWK enc k w0 blk off d' w' := by
  have mixed := L.mixed; have t0 := L.t0; have a0 := L.a0; have z0 := L.z0; have v0 := L.v0; have t3 := L.t3; have a3 := L.a3; have z3 := L.z3; have v3 := L.v3; have t4 := L.t4; have a4 := L.a4; have z4 := L.z4; have v4 := L.v4; have t22 := L.t22; have a22 := L.a22; have z22 := L.z22; have v22 := L.v22; have t25 := L.t25; have a25 := L.a25; have z25 := L.z25; have v25 := L.v25; have t39 := L.t39; have a39 := L.a39; have z39 := L.z39; have v39 := L.v39; have aE := L.aE; have zE := L.zE; have u3 := run_underlying L.t3; have u22 := run_underlying L.t22; have u39 := run_underlying L.t39
  have eI : ∀ args w, (callFunc 63 args).run P w = .ok (.enter 63 args) w := L.ins.f20.enters rfl
  have eM : ∀ args w, (callFunc 64 args).run P w = .ok (.enter 64 args) w := enters_of L.fM (by kernel_rfl) rfl
  have FG := L.fT
  have S0 : SWK enc k w0 blk off d0 w0 := SWK.start R.hH
  have HL : Aside (StL P k) := L
  have HC : Aside _ := hcmp
  have HO : Aside (SWO (ltOf cf)) := hO
  have HT : Aside (∀ p q, p < q → q < n → tg d0[p]! < tg d0[q]!) := ht
  have HSZ : Aside (d0.size = n) := hn
  clear hcmp hO ht hn L
  have c0 := ins_any HL.out enc cf HO.out g cb blk off cap 0 n d0 d0 w0 w0 eg HC.out R rfl S0 (Nat.zero_le _) (by rw [HSZ.out]; exact Nat.le_refl _) (by rw [HSZ.out]; omega)
  rw [HSZ.out] at c0
  by_cases h20 : n < 20
  · -- one block, not full
    have h20z : ¬ (20 : Int) ≤ (n : Int) := by omega
    have h20y : ¬ (20 : Int) < (n : Int) := by omega
    have PP : Aside (Post (ltOf cf) tg d0 0 n (Sort.insertionSort (ltOf cf) d0 0 n)) := ins_stable HO.out (Nat.zero_le _) (by rw [HSZ.out]; exact Nat.le_refl _) (fun p q _ h1 h2 => HT.out p q h1 h2)
    generalize Sort.insertionSort (ltOf cf) d0 0 n = D1 at c0 PP
    have C0 := Lib.hid c0
    clear S0 c0
    go_enter FG, Tryd.ntmps59
    go_wp2_with fail
    refine wp_loop_rounds 1 ?_
    rw [rounds_succ]
    go_wp2_with (go_at_fn 63; refine C0.out.mono ?_; rintro e w1 ⟨rfl, S1⟩)
    refine wp_loop_rounds 1 ?_
    rw [rounds_succ]
    go_wp2
    go_end0
    exact ⟨rfl, D1, PP.out, S1⟩
  · have c1 := ins_any HL.out enc cf HO.out g cb blk off cap 0 20 d0 d0 w0 w0 eg HC.out R rfl S0 (by omega) (by rw [HSZ.out]; omega) (by rw [HSZ.out]; omega)
    have PA : Aside (Post (ltOf cf) tg d0 0 20 (Sort.insertionSort (ltOf cf) d0 0 20)) := ins_stable HO.out (by omega) (by rw [HSZ.out]; omega) (fun p q _ h1 h2 => HT.out p q h1 (by omega))
    generalize Sort.insertionSort (ltOf cf) d0 0 20 = D1 at c1 PA
    have z1 : D1.size = n := PA.out.perm.1.trans HSZ.out
    clear c0 S0
    rw [HSZ.out] at c1
    have C1 := Lib.hid c1
    clear c1
    have C2 : Aside (∀ w, SWK enc k w0 blk off D1 w → Calls P 63 #[.slice (some ⟨blk, off, none⟩) n cap, .int .i64 20, .int .i64 n, .func (.func g) #[] cb] w fun e w' => e = .returned (.tuple #[]) ∧ SWK enc k w0 blk off (Sort.insertionSort (ltOf cf) D1 20 n) w') := fun w S => by
      have h := ins_any HL.out enc cf HO.out g cb blk off cap 20 n d0 D1 w0 w eg HC.out R (HSZ.out.trans z1.symm) S (by omega) (by omega) (by omega)
      rw [z1] at h
      exact h
    have P2 : Aside (Post (ltOf cf) tg D1 20 n (Sort.insertionSort (ltOf cf) D1 20 n)) := ins_stable HO.out (by omega) (by omega) (block_tags HT.out PA.out)
    generalize Sort.insertionSort (ltOf cf) D1 20 n = D2 at C2 P2
    have z2 : D2.size = n := P2.out.perm.1.trans z1
    have TB : Aside (Pre (ltOf cf) tg D2 0 20 n ∧ ∀ D3, Post (ltOf cf) tg D2 0 n D3 → Post (ltOf cf) tg d0 0 n D3) := two_blocks (by omega) (by rw [HSZ.out]; exact Nat.le_refl _) HT.out PA.out P2.out
    have h20n : (20 : Int) ≤ (n : Int) := by omega
    by_cases h40e : n < 40
    · have h40z : ¬ (40 : Int) ≤ (n : Int) := by omega
      have h40y : ¬ (40 : Int) < (n : Int) := by omega
      by_cases h20e : 20 < n
      · -- two blocks
        have h20y : (20 : Int) < (n : Int) := by omega
        have C3 : Hid (∀ w, SWK enc k w0 blk off D2 w → Calls P 64 #[.slice (some ⟨blk, off, none⟩) n cap, .int .i64 0, .int .i64 20, .int .i64 n, .func (.func g) #[] cb] w fun e w' => e = .returned (.tuple #[]) ∧ ∃ d', Post (ltOf cf) tg d0 0 n d' ∧ SWK enc k w0 blk off d' w') := Lib.hid (fun w S => by
          have h := symMerge_all HL.out enc cf tg HO.out g cb blk off cap d0 w0 eg HC.out R (n + 1) 0 20 n D2 w (by omega) (HSZ.out.trans z2.symm) S (by omega) h20e (by omega) (by omega) TB.out.1
          rw [z2] at h
          exact h.mono fun e w' ⟨q1, d', q2, q3⟩ => ⟨q1, d', TB.out.2 d' q2, q3⟩)
        go_enter FG, Tryd.ntmps59
        go_wp2_with fail
        refine wp_loop_rounds 2 ?_
        rw [rounds_succ]
        go_wp2_with (go_at_fn 63; refine C1.out.mono ?_; rintro e w1 ⟨rfl, S1⟩)
        rw [rounds_succ]
        go_wp2_with (go_at_fn 63; refine (C2.out _ S1).mono ?_; rintro e w2 ⟨rfl, S2⟩)
        refine wp_loop_rounds 2 ?_
        rw [rounds_succ]
        go_wp2_with fail
        refine wp_loop_rounds 1 ?_
        rw [rounds_succ]
        go_wp2_with (go_at_fn 64; refine (C3.out _ S2).mono ?_; rintro e w3 ⟨rfl, d', P3, S3⟩)
        rw [rounds_succ]
        go_wp2
        go_end0
        exact ⟨rfl, d', P3, S3⟩
      · have h20y : ¬ (20 : Int) < (n : Int) := by omega
        have PF : Aside (Post (ltOf cf) tg d0 0 n D2) := TB.out.2 D2 (Post.none TB.out.1 (by omega) (by omega) (by omega))
        go_enter FG, Tryd.ntmps59
        go_wp2_with fail
        refine wp_loop_rounds 2 ?_
        rw [rounds_succ]
        go_wp2_with (go_at_fn 63; refine C1.out.mono ?_; rintro e w1 ⟨rfl, S1⟩)
        rw [rounds_succ]
        go_wp2_with (go_at_fn 63; refine (C2.out _ S1).mono ?_; rintro e w2 ⟨rfl, S2⟩)
        refine wp_loop_rounds 1 ?_
        rw [rounds_succ]
        go_wp2
        go_end0
        exact ⟨rfl, D2, PF.out, S2⟩
    · -- two full blocks
      obtain rfl : n = 40 := by omega
      have C2' : Hid (∀ w, SWK enc k w0 blk off D1 w → Calls P 63 #[.slice (some ⟨blk, off, none⟩) 40 cap, .int .i64 20, .int .i64 40, .func (.func g) #[] cb] w fun e w' => e = .returned (.tuple #[]) ∧ SWK enc k w0 blk off D2 w') := Lib.hid C2.out
      have C4 : Hid (∀ w, SWK enc k w0 blk off D2 w → Calls P 63 #[.slice (some ⟨blk, off, none⟩) 40 cap, .int .i64 40, .int .i64 40, .func (.func g) #[] cb] w fun e w' => e = .returned (.tuple #[]) ∧ SWK enc k w0 blk off D2 w') := Lib.hid (fun w S => by
        have h := ins_any HL.out enc cf HO.out g cb blk off cap 40 40 d0 D2 w0 w eg HC.out R (HSZ.out.trans z2.symm) S (by omega) (by omega) (by omega)
        rw [z2, ins_none] at h
        exact h)
      have C3 : Hid (∀ w, SWK enc k w0 blk off D2 w → Calls P 64 #[.slice (some ⟨blk, off, none⟩) 40 cap, .int .i64 0, .int .i64 20, .int .i64 40, .func (.func g) #[] cb] w fun e w' => e = .returned (.tuple #[]) ∧ ∃ d', Post (ltOf cf) tg d0 0 40 d' ∧ SWK enc k w0 blk off d' w') := Lib.hid (fun w S => by
        have h := symMerge_all HL.out enc cf tg HO.out g cb blk off cap d0 w0 eg HC.out R 41 0 20 40 D2 w (by omega) (HSZ.out.trans z2.symm) S (by omega) (by omega) (by omega) (by omega) TB.out.1
        rw [z2] at h
        exact h.mono fun e w' ⟨q1, d', q2, q3⟩ => ⟨q1, d', TB.out.2 d' q2, q3⟩)
      clear C2
      go_enter FG, Tryd.ntmps59
      go_wp2_with fail
      refine wp_loop_rounds 3 ?_
      rw [rounds_succ]
      go_wp2_with (go_at_fn 63; refine C1.out.mono ?_; rintro e w1 ⟨rfl, S1⟩)
      rw [rounds_succ]
      go_wp2_with (go_at_fn 63; refine (C2'.out _ S1).mono ?_; rintro e w2 ⟨rfl, S2⟩)
      rw [rounds_succ]
      go_wp2_with (go_at_fn 63; refine (C4.out _ S2).mono ?_; rintro e w3 ⟨rfl, S3⟩)
      refine wp_loop_rounds 2 ?_
      rw [rounds_succ]
      go_wp2_with fail
      refine wp_loop_rounds 2 ?_
      rw [rounds_succ]
      go_wp2_with (go_at_fn 64; refine (C3.out _ S3).mono ?_; rintro e w4 ⟨rfl, d', P3, S4⟩)
      rw [rounds_succ]
      go_wp2_with fail
      rw [rounds_succ]
      go_wp2
      go_end0
      exact ⟨rfl, d', P3, S4⟩
end Go.Proofs.YtbmajajndckfoaaDoor
