/- The document's Join: what the program's answers. -/
import Derived.Test.YtbmajajndckfoaaDoorJoin
import Derived.Test.YtbmajajndckfoaaDoorRefFrag
import Derived.Laws.MakeOwn
namespace Go.Proofs.YtbmajajndckfoaaDoor
open Go.RowKit
attribute [local go_sem ↓] Go.wp_at_zero Go.wp_at_succ
theorem info_int1 : (Tryd.prog.info? 3).map (fun i => (i.zero, i.size, i.bytes)) = some (some (.int .i64 0), 1, 8) := by kernel_rfl
theorem made200 : madeCells (Value.int .i64 0).cells (200 * 1) = arrC fun _ => 0 := by
  unfold madeCells arrC
  apply Array.ext
  · simp
  · intro i h1 h2
    simp [Value.cells, Nat.mod_one]
theorem make200 (w : World) : (Instr.makeSlice 33 (.int .i64 200) (.int .i64 200)).run Tryd.prog w = .ok (.slice (some ⟨w.heap.size, 0, none⟩) 200 200) (w.alloc (.cells (arrC fun _ => 0) 3)) := by
  obtain ⟨i0, hi, hz0, hz1, hz2⟩ := info_parts info_int1
  have h := run_make (P := Tryd.prog) w 33 3 i0 (.int .i64 0) Tryd.underlying33 hi hz0 .i64 .i64 200 200 (by omega) (by omega) (by rw [hz2]; omega) (by omega)
  rw [hz1, show (200 : Int).toNat = 200 from rfl, made200] at h
  exact h
/-- A slice of 200 ints in a block of its own. -/
def Arr2 (w : World) (b : Nat) (f : Nat → Int) : Prop := w.heap[b]? = some (.cells (arrC f) 3 (0, 0))
theorem Arr2.new (w : World) (f : Nat → Int) : Arr2 (w.alloc (.cells (arrC f) 3)) w.heap.size f := by
  show (w.heap.push _)[w.heap.size]? = _
  simp
theorem Arr2.cell {w : World} {b : Nat} {f : Nat → Int} (h : Arr2 w b f) {i : Nat} (hi : i < 200) : w.cell? ⟨b, i, none⟩ = some (.int .i64 (f i)) := by
  unfold Arr2 at h
  simp [World.cell?, h, arrC_get f i hi]
theorem Arr2.frozen {w : World} {b : Nat} {f : Nat → Int} (h : Arr2 w b f) (i : Nat) : w.frozen? ⟨b, i, none⟩ = false := frozen_of_row w b i _ _ h
theorem Arr2.set {w : World} {b : Nat} {f : Nat → Int} (h : Arr2 w b f) (i : Nat) (z : Int) : Arr2 (w.setCell ⟨b, i, none⟩ (.int .i64 z)) b fun j => if j = i then z else f j := by
  unfold Arr2 at h ⊢
  rw [heap_setCell_same w b i _ _ _ h, arrC_set]
theorem Arr2.lt {w : World} {b : Nat} {f : Nat → Int} (h : Arr2 w b f) : b < w.heap.size := (Array.getElem?_eq_some_iff.1 h).1
theorem Arr2.below {w w' : World} {b : Nat} {f : Nat → Int} (h : Arr2 w b f) (hb : Below w.heap.size w w') : Arr2 w' b f := (hb.block b h.lt).trans h
theorem Arr2.congr {w : World} {b : Nat} {f g : Nat → Int} (h : Arr2 w b f) (e : ∀ i, f i = g i) : Arr2 w b g := by
  have : f = g := funext e
  rw [← this]
  exact h
/-- What the document's Join hands back. -/
def JoinR (w : World) (ps : List Pt) (e : Ending) (w' : World) : Prop := e = .returned (.tuple #[.string (joinT ps), .int .i64 (joinE ps)]) ∧ Below w.heap.size w w'
theorem JoinR.bad {w w' : World} {ps : List Pt} {x : Int} (h : joinE ps = x ∧ joinT ps = ⟨#[]⟩) (hb : Below w.heap.size w w') : JoinR w ps (.returned (.tuple #[.string ⟨#[]⟩, .int .i64 x])) w' :=
  ⟨by rw [h.1, h.2], hb⟩
set_option maxRecDepth 100000 in
set_option maxHeartbeats 8000000 in
theorem refJoin_any (A : Option Addr) (n c : Nat) (ps : List Pt) (w : World) (hr : Rds w 3 A n (qc ps)) (hn : n ≤ maxLen) :
    Calls Tryd.prog 27 #[.slice A n c] w (JoinR w ps) := by
  obtain rfl : n = ps.length := hr.qlen
  unfold maxLen at hn
  by_cases h40 : 40 < ps.length
  · go_enter Tryd.func27, Tryd.ntmps27
    go_wp2
    go_ret2
    exact .bad (join_full h40) (Below.refl _ _)
  have hle : ps.length ≤ 40 := by omega
  have HR := Lib.hid hr
  have hmk := make200 w
  clear hn h40 hr
  go_enter Tryd.func27, Tryd.ntmps27
  go_wp2_with fail
  have HA0 : Hid (Arr2 (w.alloc (.cells (arrC fun _ => 0) 3)) w.heap.size (fun i => startF i + 1)) := Lib.hid ((Arr2.new w _).congr (fun i => rfl))
  have HB0 : Hid (Below w.heap.size w (w.alloc (.cells (arrC fun _ => 0) 3))) := Lib.hid ((Below.refl _ _).alloc (Nat.le_refl _) _)
  generalize w.alloc (.cells (arrC fun _ => 0) 3) = w1 at *
  clear hmk
  go_loopw [4, 6] (fun se v wr => ∃ (k : Nat) (e : Int) (f : Nat → Int), k ≤ ps.length ∧ v = .int .i64 k ∧ se = .int .i64 e ∧ Hid (runJ ps (-1) startF = runJ (ps.drop k) e f) ∧ Hid (InvJ e f) ∧ Hid (Arr2 wr w.heap.size (fun i => f i + 1)) ∧ Hid (Below w.heap.size w wr)) (fun _ v _ => ps.length - (intOf v).toNat)
  case atStart => exact ⟨0, -1, startF, Nat.zero_le _, rfl, rfl, Lib.hid rfl, Lib.hid InvJ.start, HA0, HB0⟩
  case round =>
    clear HA0 HB0
    obtain ⟨k, e, f, hk, rfl, rfl, HRU, HI, HA, HB⟩ := hrel
    have he0 := HI.out.e0
    have he1 := HI.out.e1
    by_cases hlt : k < ps.length
    · obtain ⟨b, off, hk', rfl, hx1, hx2, hx3⟩ := (HR.out.below HB.out).part hlt
      have HD : Hid (ps.drop k = ps[k] :: ps.drop (k + 1)) := Lib.hid (List.drop_eq_getElem_cons hk')
      obtain ⟨p, hP⟩ : ∃ p, ps[k] = p := ⟨_, rfl⟩
      rw [hP] at hx1 hx2 hx3 HD
      clear hP
      obtain ⟨a, m, s⟩ := p
      simp only at hx1 hx2 hx3
      have HRR : Hid (runJ ps (-1) startF = runJ ((a, m, s) :: ps.drop (k + 1)) e f) := Lib.hid (by rw [HRU.out, HD.out])
      have hd0 : Below wr.heap.size wr (wr.alloc (.cells #[.int .i64 a, .bool m, .string s] 50)) := (Below.refl _ _).alloc (Nat.le_refl _) _
      have HBX := Lib.hid (HB.out.trans (hd0.mono HB.out.size))
      have HAX := Lib.hid (HA.out.below hd0)
      have hp1 : (wr.alloc (.cells #[.int .i64 a, .bool m, .string s] 50)).cell? ⟨wr.heap.size, 0, none⟩ = some (.int .i64 a) := by simp
      have hp2 : (wr.alloc (.cells #[.int .i64 a, .bool m, .string s] 50)).cell? ⟨wr.heap.size, 1, none⟩ = some (.bool m) := by simp
      have hp3 : (wr.alloc (.cells #[.int .i64 a, .bool m, .string s] 50)).cell? ⟨wr.heap.size, 2, none⟩ = some (.string s) := by simp
      have HLT : Hid (w.heap.size < wr.heap.size) := Lib.hid HA.out.lt
      clear HD HRU HA HB hd0
      by_cases hok : okP (a, m, s)
      rotate_left
      · have HBAD := Lib.hid (join_bad hle HRR.out (step_not_ok hok) (by omega))
        have HNK := Lib.hid hok
        clear hok
        go_wp2_with fail
        (with_reducible refine (right_bad _ _ _ _ HNK.out).mono ?_)
        rintro e1 w2 ⟨rfl, hG⟩
        have HB2 := Lib.hid (below_call HBX.out hG.below)
        clear hG
        go_wp2
        go_ret2
        exact .bad HBAD.out HB2.out
      · have HOK := Lib.hid hok
        obtain ⟨o1, o2, o3⟩ := hok
        simp only at o1 o2 o3
        obtain ⟨an, rfl⟩ : ∃ an : Nat, a = (an : Int) := ⟨a.toNat, by omega⟩
        have HSP : Hid (∀ x, stepE e f ((an : Int), m, s) = x → x ≠ 0 → joinE ps = x ∧ joinT ps = ⟨#[]⟩) := Lib.hid (fun x hx h0 => join_bad hle HRR.out hx h0)
        have HSN : Hid (stepE e f ((an : Int), m, s) = 0 → runJ ps (-1) startF = runJ (ps.drop (k + 1)) (stepN e ((an : Int), m, s)) (stepF f ((an : Int), m, s))) := Lib.hid (fun hx => join_next HRR.out hx)
        have HIN := Lib.hid (HI.out.step HOK.out)
        have hwe : IntKind.i64.wrap ((an : Int) + (s.size : Int)) = (an : Int) + (s.size : Int) := IntWalk.i64_in _ (by constructor <;> omega)
        clear HRR
        go_wp2_with fail
        (with_reducible refine (right_ok _ _ _ _ HOK.out).mono ?_)
        rintro e1 w2 ⟨rfl, hG⟩
        have HAX2 := Lib.hid (HAX.out.below hG.below)
        replace hp1 := hG.cell (a := ⟨wr.heap.size, 0, none⟩) (by simp) hp1
        replace hp2 := hG.cell (a := ⟨wr.heap.size, 1, none⟩) (by simp) hp2
        replace hp3 := hG.cell (a := ⟨wr.heap.size, 2, none⟩) (by simp) hp3
        have HB1 := Lib.hid (below_call HBX.out hG.below)
        obtain ⟨pb, hpb⟩ : ∃ pb, wr.heap.size = pb := ⟨_, rfl⟩
        rw [hpb] at hp1 hp2 hp3 HLT
        rw [hpb]
        clear HBX HAX hx1 hx2 hx3 hG hpb
        rcases m with _ | _
        · by_cases hcl : 0 ≤ e ∧ e ≠ (an : Int) + (s.size : Int)
          · obtain ⟨c1, c2⟩ := hcl
            have hne : (e != (an : Int) + (s.size : Int)) = true := by rw [bne_iff_ne]; exact c2
            have HBAD := Lib.hid (HSP.out 6 (step_end HOK.out rfl c1 c2) (by omega))
            clear c2
            go_wp2
            go_ret2
            exact .bad HBAD.out HB1.out
          · have hne : ¬ (((an : Int), false, s).2.1 = false ∧ 0 ≤ e ∧ e ≠ endI ((an : Int), false, s)) := fun h => hcl h.2
            have hn2 : stepN e ((an : Int), false, s) = (an : Int) + (s.size : Int) := by unfold stepN endI; simp
            have HE0 : Hid (¬ clashF f an s s.size → runJ ps (-1) startF = runJ (ps.drop (k + 1)) ((an : Int) + (s.size : Int)) (putF f an s s.size) ∧ InvJ ((an : Int) + (s.size : Int)) (putF f an s s.size)) := Lib.hid (fun h => by
              have g0 := step_ok HOK.out hne (by simpa using h)
              have g1 := HSN.out g0
              have g2 := HIN.out
              rw [hn2] at g1 g2
              exact ⟨g1, g2⟩)
            have HE6 : Hid (clashF f an s s.size → joinE ps = 6 ∧ joinT ps = ⟨#[]⟩) := Lib.hid (fun h => HSP.out 6 (step_clash HOK.out hne (by simpa using h)) (by omega))
            clear hne hn2 HOK HSP HSN HIN
            by_cases hneg : e < 0
            · clear hcl
              go_wp2_with fail
              have HP1 := Lib.hid hp1
              have HP3 := Lib.hid hp3
              go_loopw [8] (fun v wq => ∃ j : Nat, j ≤ s.size ∧ v = .int .i64 j ∧ Hid (Arr2 wq w.heap.size (fun i => putF f an s j i + 1)) ∧ Hid (¬ clashF f an s j) ∧ Hid (OnlyAt w.heap.size w2 wq)) (fun v _ => s.size - (intOf v).toNat)
              case atStart => exact ⟨0, Nat.zero_le _, rfl, Lib.hid (by rw [putF_zero]; exact HAX2.out), Lib.hid (clash_zero _ _ _), Lib.hid (OnlyAt.refl _ _)⟩
              case round =>
                obtain ⟨j, hj, rfl, HAJ, HNC, HOA⟩ := hrel
                replace hp1 := HOA.out.cell (p := ⟨pb, 0, none⟩) (Nat.ne_of_gt HLT.out) HP1.out
                replace hp3 := HOA.out.cell (p := ⟨pb, 2, none⟩) (Nat.ne_of_gt HLT.out) HP3.out
                by_cases hjl : j < s.size
                · have hca := HAJ.out.cell (i := an + j) (by omega)
                  rw [putF_at] at hca
                  have hza := HAJ.out.frozen (an + j)
                  have HSET : Hid (Arr2 (wr.setCell ⟨w.heap.size, an + j, none⟩ (.int .i64 (byteI s j + 1))) w.heap.size (fun i => putF f an s (j + 1) i + 1)) := Lib.hid ((HAJ.out.set (an + j) (byteI s j + 1)).congr (fun i => by rw [putF_succ]; by_cases h : i = an + j <;> simp [h]))
                  have HO2 := Lib.hid (HOA.out.set (an + j) (.int .i64 (byteI s j + 1)))
                  obtain ⟨br0, br1⟩ := byteI_range s j
                  have hbyte : ((s[j]).toNat : Int) = byteI s j := (byteI_get s j hjl).symm
                  have HCS : Hid (¬ (0 ≤ f (an + j) ∧ f (an + j) ≠ byteI s j) → ¬ clashF f an s (j + 1)) := Lib.hid (fun h => clash_succ HNC.out h)
                  have HCX : Hid (0 ≤ f (an + j) ∧ f (an + j) ≠ byteI s j → joinE ps = 6 ∧ joinT ps = ⟨#[]⟩) := Lib.hid (fun h => HE6.out ⟨j, hjl, h⟩)
                  have hf0 := (HI.out.f0 (an + j)).1
                  generalize f (an + j) = x at *
                  generalize byteI s j = y at *
                  have hwi : IntKind.i64.wrap ((an : Int) + (j : Int)) = (an : Int) + (j : Int) := IntWalk.i64_in _ (by constructor <;> omega)
                  have hti : ((an : Int) + (j : Int)).toNat = an + j := by omega
                  have hi0 : (0 : Int) ≤ (an : Int) + (j : Int) := by omega
                  have hi1 : (an : Int) + (j : Int) < 200 := by omega
                  have hwy : IntKind.i64.wrap (y + 1) = y + 1 := IntWalk.i64_in _ (by constructor <;> omega)
                  by_cases hx : 0 ≤ x
                  · have hn0 : (x + 1 != 0) = true := by rw [bne_iff_ne]; omega
                    by_cases hxy : x = y
                    · have hn1 : (x + 1 != y + 1) = false := by rw [bne_eq_false_iff_eq]; omega
                      have HC := Lib.hid (HCS.out (fun h => h.2 hxy))
                      clear hxy
                      go_wp2
                      go_roundw
                      case rel => exact ⟨j + 1, by omega, by go_num, HSET, HC, HO2⟩
                      case measure => simp [intOf]; omega
                    · have hn1 : (x + 1 != y + 1) = true := by rw [bne_iff_ne]; omega
                      have HBAD := Lib.hid (HCX.out ⟨hx, hxy⟩)
                      clear hxy
                      go_wp2
                      go_ret2
                      exact .bad HBAD.out (HB1.out.trans (HOA.out.below (Nat.le_refl _) HB1.out.size))
                  · have hn0 : (x + 1 != 0) = false := by rw [bne_eq_false_iff_eq]; omega
                    have HC := Lib.hid (HCS.out (fun h => hx h.1))
                    go_wp2
                    go_roundw
                    case rel => exact ⟨j + 1, by omega, by go_num, HSET, HC, HO2⟩
                    case measure => simp [intOf]; omega
                · obtain rfl : j = s.size := by omega
                  have HF := Lib.hid (HE0.out HNC.out)
                  go_wp2_with fail
                  go_roundw
                  case rel => exact ⟨k + 1, _, _, by omega, by go_num, rfl, Lib.hid HF.out.1, Lib.hid HF.out.2, HAJ, Lib.hid (HB1.out.trans (HOA.out.below (Nat.le_refl _) HB1.out.size))⟩
                  case measure => simp [intOf]; omega
            · have heb : (e != (an : Int) + (s.size : Int)) = false := by rw [bne_eq_false_iff_eq]; exact Decidable.not_not.1 fun h => hcl ⟨by omega, h⟩
              clear hcl
              go_wp2_with fail
              have HP1 := Lib.hid hp1
              have HP3 := Lib.hid hp3
              go_loopw [8] (fun v wq => ∃ j : Nat, j ≤ s.size ∧ v = .int .i64 j ∧ Hid (Arr2 wq w.heap.size (fun i => putF f an s j i + 1)) ∧ Hid (¬ clashF f an s j) ∧ Hid (OnlyAt w.heap.size w2 wq)) (fun v _ => s.size - (intOf v).toNat)
              case atStart => exact ⟨0, Nat.zero_le _, rfl, Lib.hid (by rw [putF_zero]; exact HAX2.out), Lib.hid (clash_zero _ _ _), Lib.hid (OnlyAt.refl _ _)⟩
              case round =>
                obtain ⟨j, hj, rfl, HAJ, HNC, HOA⟩ := hrel
                replace hp1 := HOA.out.cell (p := ⟨pb, 0, none⟩) (Nat.ne_of_gt HLT.out) HP1.out
                replace hp3 := HOA.out.cell (p := ⟨pb, 2, none⟩) (Nat.ne_of_gt HLT.out) HP3.out
                by_cases hjl : j < s.size
                · have hca := HAJ.out.cell (i := an + j) (by omega)
                  rw [putF_at] at hca
                  have hza := HAJ.out.frozen (an + j)
                  have HSET : Hid (Arr2 (wr.setCell ⟨w.heap.size, an + j, none⟩ (.int .i64 (byteI s j + 1))) w.heap.size (fun i => putF f an s (j + 1) i + 1)) := Lib.hid ((HAJ.out.set (an + j) (byteI s j + 1)).congr (fun i => by rw [putF_succ]; by_cases h : i = an + j <;> simp [h]))
                  have HO2 := Lib.hid (HOA.out.set (an + j) (.int .i64 (byteI s j + 1)))
                  obtain ⟨br0, br1⟩ := byteI_range s j
                  have hbyte : ((s[j]).toNat : Int) = byteI s j := (byteI_get s j hjl).symm
                  have HCS : Hid (¬ (0 ≤ f (an + j) ∧ f (an + j) ≠ byteI s j) → ¬ clashF f an s (j + 1)) := Lib.hid (fun h => clash_succ HNC.out h)
                  have HCX : Hid (0 ≤ f (an + j) ∧ f (an + j) ≠ byteI s j → joinE ps = 6 ∧ joinT ps = ⟨#[]⟩) := Lib.hid (fun h => HE6.out ⟨j, hjl, h⟩)
                  have hf0 := (HI.out.f0 (an + j)).1
                  generalize f (an + j) = x at *
                  generalize byteI s j = y at *
                  have hwi : IntKind.i64.wrap ((an : Int) + (j : Int)) = (an : Int) + (j : Int) := IntWalk.i64_in _ (by constructor <;> omega)
                  have hti : ((an : Int) + (j : Int)).toNat = an + j := by omega
                  have hi0 : (0 : Int) ≤ (an : Int) + (j : Int) := by omega
                  have hi1 : (an : Int) + (j : Int) < 200 := by omega
                  have hwy : IntKind.i64.wrap (y + 1) = y + 1 := IntWalk.i64_in _ (by constructor <;> omega)
                  by_cases hx : 0 ≤ x
                  · have hn0 : (x + 1 != 0) = true := by rw [bne_iff_ne]; omega
                    by_cases hxy : x = y
                    · have hn1 : (x + 1 != y + 1) = false := by rw [bne_eq_false_iff_eq]; omega
                      have HC := Lib.hid (HCS.out (fun h => h.2 hxy))
                      clear hxy
                      go_wp2
                      go_roundw
                      case rel => exact ⟨j + 1, by omega, by go_num, HSET, HC, HO2⟩
                      case measure => simp [intOf]; omega
                    · have hn1 : (x + 1 != y + 1) = true := by rw [bne_iff_ne]; omega
                      have HBAD := Lib.hid (HCX.out ⟨hx, hxy⟩)
                      clear hxy
                      go_wp2
                      go_ret2
                      exact .bad HBAD.out (HB1.out.trans (HOA.out.below (Nat.le_refl _) HB1.out.size))
                  · have hn0 : (x + 1 != 0) = false := by rw [bne_eq_false_iff_eq]; omega
                    have HC := Lib.hid (HCS.out (fun h => hx h.1))
                    go_wp2
                    go_roundw
                    case rel => exact ⟨j + 1, by omega, by go_num, HSET, HC, HO2⟩
                    case measure => simp [intOf]; omega
                · obtain rfl : j = s.size := by omega
                  have HF := Lib.hid (HE0.out HNC.out)
                  go_wp2_with fail
                  go_roundw
                  case rel => exact ⟨k + 1, _, _, by omega, by go_num, rfl, Lib.hid HF.out.1, Lib.hid HF.out.2, HAJ, Lib.hid (HB1.out.trans (HOA.out.below (Nat.le_refl _) HB1.out.size))⟩
                  case measure => simp [intOf]; omega
        · have hne : ¬ (((an : Int), true, s).2.1 = false ∧ 0 ≤ e ∧ e ≠ endI ((an : Int), true, s)) := fun h => Bool.noConfusion h.1
          have hn2 : stepN e ((an : Int), true, s) = e := by unfold stepN; simp
          have HE0 : Hid (¬ clashF f an s s.size → runJ ps (-1) startF = runJ (ps.drop (k + 1)) e (putF f an s s.size) ∧ InvJ e (putF f an s s.size)) := Lib.hid (fun h => by
            have g0 := step_ok HOK.out hne (by simpa using h)
            have g1 := HSN.out g0
            have g2 := HIN.out
            rw [hn2] at g1 g2
            exact ⟨g1, g2⟩)
          have HE6 : Hid (clashF f an s s.size → joinE ps = 6 ∧ joinT ps = ⟨#[]⟩) := Lib.hid (fun h => HSP.out 6 (step_clash HOK.out hne (by simpa using h)) (by omega))
          clear hne hn2 HOK HSP HSN HIN
          go_wp2_with fail
          have HP1 := Lib.hid hp1
          have HP3 := Lib.hid hp3
          go_loopw [8] (fun v wq => ∃ j : Nat, j ≤ s.size ∧ v = .int .i64 j ∧ Hid (Arr2 wq w.heap.size (fun i => putF f an s j i + 1)) ∧ Hid (¬ clashF f an s j) ∧ Hid (OnlyAt w.heap.size w2 wq)) (fun v _ => s.size - (intOf v).toNat)
          case atStart => exact ⟨0, Nat.zero_le _, rfl, Lib.hid (by rw [putF_zero]; exact HAX2.out), Lib.hid (clash_zero _ _ _), Lib.hid (OnlyAt.refl _ _)⟩
          case round =>
            obtain ⟨j, hj, rfl, HAJ, HNC, HOA⟩ := hrel
            replace hp1 := HOA.out.cell (p := ⟨pb, 0, none⟩) (Nat.ne_of_gt HLT.out) HP1.out
            replace hp3 := HOA.out.cell (p := ⟨pb, 2, none⟩) (Nat.ne_of_gt HLT.out) HP3.out
            by_cases hjl : j < s.size
            · have hca := HAJ.out.cell (i := an + j) (by omega)
              rw [putF_at] at hca
              have hza := HAJ.out.frozen (an + j)
              have HSET : Hid (Arr2 (wr.setCell ⟨w.heap.size, an + j, none⟩ (.int .i64 (byteI s j + 1))) w.heap.size (fun i => putF f an s (j + 1) i + 1)) := Lib.hid ((HAJ.out.set (an + j) (byteI s j + 1)).congr (fun i => by rw [putF_succ]; by_cases h : i = an + j <;> simp [h]))
              have HO2 := Lib.hid (HOA.out.set (an + j) (.int .i64 (byteI s j + 1)))
              obtain ⟨br0, br1⟩ := byteI_range s j
              have hbyte : ((s[j]).toNat : Int) = byteI s j := (byteI_get s j hjl).symm
              have HCS : Hid (¬ (0 ≤ f (an + j) ∧ f (an + j) ≠ byteI s j) → ¬ clashF f an s (j + 1)) := Lib.hid (fun h => clash_succ HNC.out h)
              have HCX : Hid (0 ≤ f (an + j) ∧ f (an + j) ≠ byteI s j → joinE ps = 6 ∧ joinT ps = ⟨#[]⟩) := Lib.hid (fun h => HE6.out ⟨j, hjl, h⟩)
              have hf0 := (HI.out.f0 (an + j)).1
              generalize f (an + j) = x at *
              generalize byteI s j = y at *
              have hwi : IntKind.i64.wrap ((an : Int) + (j : Int)) = (an : Int) + (j : Int) := IntWalk.i64_in _ (by constructor <;> omega)
              have hti : ((an : Int) + (j : Int)).toNat = an + j := by omega
              have hi0 : (0 : Int) ≤ (an : Int) + (j : Int) := by omega
              have hi1 : (an : Int) + (j : Int) < 200 := by omega
              have hwy : IntKind.i64.wrap (y + 1) = y + 1 := IntWalk.i64_in _ (by constructor <;> omega)
              by_cases hx : 0 ≤ x
              · have hn0 : (x + 1 != 0) = true := by rw [bne_iff_ne]; omega
                by_cases hxy : x = y
                · have hn1 : (x + 1 != y + 1) = false := by rw [bne_eq_false_iff_eq]; omega
                  have HC := Lib.hid (HCS.out (fun h => h.2 hxy))
                  clear hxy
                  go_wp2
                  go_roundw
                  case rel => exact ⟨j + 1, by omega, by go_num, HSET, HC, HO2⟩
                  case measure => simp [intOf]; omega
                · have hn1 : (x + 1 != y + 1) = true := by rw [bne_iff_ne]; omega
                  have HBAD := Lib.hid (HCX.out ⟨hx, hxy⟩)
                  clear hxy
                  go_wp2
                  go_ret2
                  exact .bad HBAD.out (HB1.out.trans (HOA.out.below (Nat.le_refl _) HB1.out.size))
              · have hn0 : (x + 1 != 0) = false := by rw [bne_eq_false_iff_eq]; omega
                have HC := Lib.hid (HCS.out (fun h => hx h.1))
                go_wp2
                go_roundw
                case rel => exact ⟨j + 1, by omega, by go_num, HSET, HC, HO2⟩
                case measure => simp [intOf]; omega
            · obtain rfl : j = s.size := by omega
              have HF := Lib.hid (HE0.out HNC.out)
              go_wp2_with fail
              go_roundw
              case rel => exact ⟨k + 1, _, _, by omega, by go_num, rfl, Lib.hid HF.out.1, Lib.hid HF.out.2, HAJ, Lib.hid (HB1.out.trans (HOA.out.below (Nat.le_refl _) HB1.out.size))⟩
              case measure => simp [intOf]; omega
    · obtain rfl : k = ps.length := by omega
      rw [List.drop_length] at HRU
      have HE := Lib.hid (join_end hle HRU.out)
      clear hlt HRU
      by_cases hneg : e < 0
      · have HBAD : Hid (joinE ps = 5 ∧ joinT ps = ⟨#[]⟩) := Lib.hid (by
          have h5 : finE e f = 5 := by unfold finE; rw [if_pos (.inl hneg)]
          have h6 := HE.out
          rw [h5, if_neg (by omega)] at h6
          exact h6)
        go_wp2
        go_ret2
        exact .bad HBAD.out HB.out
      · obtain ⟨en, rfl⟩ : ∃ en : Nat, e = (en : Int) := ⟨e.toNat, by omega⟩
        have hen : en ≤ 200 := by omega
        obtain ⟨wo, rfl⟩ : ∃ wo : World, wo = wr := ⟨_, rfl⟩
        go_wp2_with fail
        go_loopw [10, 11] (fun so v wq => ∃ (j : Nat) (A3 : Option Addr) (c3 : Nat), j ≤ en ∧ v = .int .i64 j ∧ so = .slice A3 j c3 ∧ Hid (∀ i, i < j → 0 ≤ f i) ∧ OwnB wq wo.heap.size (.slice A3 j c3) (arrL f 0 j) ∧ Below wo.heap.size wo wq) (fun _ v _ => en - (intOf v).toNat)
        case atStart => exact ⟨0, none, 0, Nat.zero_le _, rfl, rfl, Lib.hid (fun i hi => absurd hi (Nat.not_lt_zero _)), OwnB.nil_ _ _, Below.refl _ _⟩
        case round =>
          obtain ⟨j, A3, c3, hj, rfl, rfl, HG, ho, hB2⟩ := hrel
          by_cases hjl : j < en
          · have hca := (HA.out.below hB2).cell (i := j) (by omega)
            obtain ⟨f0, f1⟩ := HI.out.f0 j
            have HAL : Hid (arrL f 0 (j + 1) = arrL f 0 j ++ [f j]) := Lib.hid (by
              unfold arrL
              rw [Nat.sub_zero, Nat.sub_zero, ← List.range_eq_range', ← List.range_eq_range', List.range_succ, List.map_append]
              rfl)
            have HTL : Hid ((arrL f 0 j).length = j) := Lib.hid (by rw [arrL_length]; omega)
            have HGAP : Hid (f j < 0 → gapP (en : Int) f) := Lib.hid (fun h => ⟨j, by rw [Int.toNat_natCast]; exact hjl, h⟩)
            have HPOS : Hid (0 ≤ f j → ∀ i, i < j + 1 → 0 ≤ f i) := Lib.hid (fun h i hi => by
              rcases Nat.lt_or_ge i j with h1 | h1
              · exact HG.out i h1
              · obtain rfl : i = j := by omega
                exact h)
            generalize f j = x at *
            generalize arrL f 0 j = T at *
            have hz1 : (0 : Int) ≤ (j : Int) ∧ (j : Int) < 200 := by omega
            by_cases hx : x < 0
            · have HBAD : Hid (joinE ps = 5 ∧ joinT ps = ⟨#[]⟩) := Lib.hid (by
                have h5 : finE (en : Int) f = 5 := by unfold finE; rw [if_pos (.inr (HGAP.out hx))]
                have h6 := HE.out
                rw [h5, if_neg (by omega)] at h6
                exact h6)
              have hx0 : (x + 1 == 0) = true := by rw [beq_iff_eq]; omega
              go_wp2
              go_ret2
              exact .bad HBAD.out (HB.out.trans (hB2.mono HB.out.size))
            · have hx0 : (x + 1 == 0) = false := by rw [beq_eq_false_iff_ne]; omega
              have hxs : x + 1 - 1 = x := by omega
              have hw8 : IntKind.u8.wrap x = x := by
                simp [IntKind.wrap, IntKind.signed, IntKind.bits]
                omega
              have HP := Lib.hid (HPOS.out (by omega))
              go_wp2_with (at_builtin; refine wp_append_byte wr rfl (.tmp 102) (.tmp 109) rfl wo wo.heap.size (.slice A3 j c3) T (by rfl) ho x rfl (by rw [HTL.out]; omega) hB2.size hB2 ?_; intro A4 c4 w4 ho4 hB4 _; rw [HTL.out] at ho4; rw [HTL.out])
              go_roundw
              case rel => exact ⟨j + 1, A4, c4, by omega, by go_num, rfl, HP, by rw [HAL.out]; exact ho4, hB4⟩
              case measure => simp [intOf]; omega
          · obtain rfl : j = en := by omega
            have HNG : Hid (¬ gapP (j : Int) f) := Lib.hid (fun h => by
              obtain ⟨i, hi, h1⟩ := h
              have := HG.out i (by rw [Int.toNat_natCast] at hi; exact hi)
              omega)
            have HA2 := Lib.hid (HA.out.below hB2)
            have HB2 := Lib.hid (HB.out.trans (hB2.mono HB.out.size))
            have HLEN : Hid ((arrL f 0 j).length = j) := Lib.hid (by rw [arrL_length]; omega)
            have HRNG : Hid (∀ x ∈ arrL f 0 j, 0 ≤ x ∧ x ≤ 255) := Lib.hid (fun x hx => by
              obtain ⟨i, _, h2, rfl⟩ := arrL_mem.1 hx
              exact ⟨HG.out i h2, (HI.out.f0 i).2⟩)
            have hors := ho.rds
            rw [HLEN.out] at hors
            have HCS := Lib.hid (conv_str wr A3 j c3 (arrL f 0 j) hors HRNG.out)
            clear hors ho hB2 hjl
            go_wp2_with fail
            go_loopw [12] (fun v wq => ∃ i : Nat, j ≤ i ∧ i ≤ 200 ∧ v = .int .i64 i ∧ Hid (∀ x, j ≤ x → x < i → f x < 0) ∧ wr = wq) (fun v _ => 200 - (intOf v).toNat)
            case atStart => exact ⟨j, Nat.le_refl _, hen, rfl, Lib.hid (fun x h1 h2 => by omega), rfl⟩
            case round =>
              obtain ⟨i, hji, hi2, rfl, HNO, rfl⟩ := hrel
              by_cases hil : i < 200
              · have hca := HA2.out.cell (i := i) hil
                obtain ⟨f0, f1⟩ := HI.out.f0 i
                have HOV : Hid (0 ≤ f i → overP (j : Int) f) := Lib.hid (fun h => ⟨i, hil, by omega, h⟩)
                have HNX : Hid (f i < 0 → ∀ x, j ≤ x → x < i + 1 → f x < 0) := Lib.hid (fun h x h1 h2 => by
                  rcases Nat.lt_or_ge x i with h3 | h3
                  · exact HNO.out x h1 h3
                  · obtain rfl : x = i := by omega
                    exact h)
                generalize f i = x at *
                have hz1 : (0 : Int) ≤ (i : Int) ∧ (i : Int) < 200 := by omega
                by_cases hx : x < 0
                · have hx0 : (x + 1 != 0) = false := by rw [bne_eq_false_iff_eq]; omega
                  have HN2 := Lib.hid (HNX.out hx)
                  go_wp2
                  go_roundw
                  case rel => exact ⟨i + 1, by omega, by omega, by go_num, HN2, by first | trivial | rfl⟩
                  case measure => simp [intOf]; omega
                · have hx0 : (x + 1 != 0) = true := by rw [bne_iff_ne]; omega
                  have HBAD : Hid (joinE ps = 6 ∧ joinT ps = ⟨#[]⟩) := Lib.hid (by
                    have h5 : finE (j : Int) f = 6 := by unfold finE; rw [if_neg (fun h => h.elim (fun h => by omega) HNG.out), if_pos (HOV.out (by omega))]
                    have h6 := HE.out
                    rw [h5, if_neg (by omega)] at h6
                    exact h6)
                  go_wp2
                  go_ret2
                  exact .bad HBAD.out HB2.out
              · have HFIN : Hid (joinE ps = 0 ∧ joinT ps = outJ (j : Int) f) := Lib.hid (by
                  have h5 : finE (j : Int) f = 0 := by
                    unfold finE
                    rw [if_neg (fun h => h.elim (fun h => by omega) HNG.out), if_neg (fun h => by
                      obtain ⟨x, h1, h2, h3⟩ := h
                      have := HNO.out x (by omega) (by omega)
                      omega)]
                  have h6 := HE.out
                  rw [h5, if_pos rfl] at h6
                  exact h6)
                have hcs := HCS.out
                go_wp2
                go_ret2
                refine ⟨?_, HB2.out⟩
                show Ending.returned (.tuple #[.string (strB (arrL f 0 j)), .int .i64 0]) = _
                rw [HFIN.out.1, HFIN.out.2, strB_out]
end Go.Proofs.YtbmajajndckfoaaDoor
