/- The contract of frag.Join. -/
import Derived.Test.YtbmajajndckfoaaDoorJoinPlain
import Derived.Test.YtbmajajndckfoaaDoorIdx
import Derived.Test.YtbmajajndckfoaaDoorArr
import Derived.Test.YtbmajajndckfoaaDoorBRow
import Derived.Test.YtbmajajndckfoaaDoorErrW
import Derived.Test.YtbmajajndckfoaaDoorFragCut
import Derived.Outline
import Derived.Deep.DeepCutAuto
import Derived.Deep.CutRange
import Derived.Deep.CutBlock
import Derived.Laws.IdiomStrings
import Derived.Deep.DrawnRows
import Derived.Deep.RegionLaw
namespace Go.Proofs.YtbmajajndckfoaaDoor
open Go.RowKit
attribute [local go_sem ↓] Go.wp_at_zero Go.wp_at_succ
attribute [local go_sem] zero200 arrC_size arrC_ne conv_bytes
theorem one_bad (a : Int) (m : Bool) (s : ByteArray) (w : World) (h : ¬ okP (a, m, s)) :
    Calls Tryd.prog 30 #[.agg #[.int .i64 a, .bool m, .string s]] w fun e w' => e = .returned (.iface 60 (.int .i64 1)) ∧ Grew w w' := by
  rcases hin : inB a 0 200 with _ | _
  · go_enter Tryd.func30, Tryd.ntmps30
    go_wp2_with ((go_at_call 29; (with_reducible refine (within_any _ _ _ _).mono ?_); rintro e w' ⟨rfl, rfl⟩); rw [hin])
    go_ret
    exact ⟨rfl, (Grew.refl w).alloc _⟩
  · obtain ⟨h0, h1⟩ := inB_true.1 hin
    have h2 : ¬ (s.size : Int) ≤ 200 - a := fun h3 => h ⟨h0, h1, h3⟩
    have hw200 : IntKind.i64.wrap (200 - a) = 200 - a := IntWalk.i64_in _ (by constructor <;> omega)
    clear h
    go_enter Tryd.func30, Tryd.ntmps30
    go_wp2_with ((go_at_call 29; (with_reducible refine (within_any _ _ _ _).mono ?_); rintro e w' ⟨rfl, rfl⟩); rw [hin])
    go_ret
    exact ⟨rfl, (Grew.refl w).alloc _⟩
theorem arrL_mem {f : Nat → Int} {a b : Nat} {x : Int} : x ∈ arrL f a b ↔ ∃ i, a ≤ i ∧ i < b ∧ f i = x := by
  simp only [arrL, List.mem_map, List.mem_range'_1]
  constructor
  · rintro ⟨i, ⟨h1, h2⟩, rfl⟩; exact ⟨i, h1, by omega, rfl⟩
  · rintro ⟨i, h1, h2, rfl⟩; exact ⟨i, ⟨h1, by omega⟩, rfl⟩
theorem gap_mem {e : Int} {f : Nat → Int} {en : Nat} (h : InvJ e f) (he : e = (en : Int)) : (-1 : Int) ∈ arrL f 0 en ↔ gapP e f := by
  rw [arrL_mem]
  unfold gapP
  rw [he, Int.toNat_natCast]
  constructor
  · rintro ⟨i, _, h2, h3⟩; exact ⟨i, h2, by omega⟩
  · rintro ⟨i, h1, h2⟩; exact ⟨i, Nat.zero_le _, h1, by have := (h.f0 i).1; omega⟩
theorem over_any {f : Nat → Int} {en : Nat} : (arrL f en 200).any (fun x => decide (0 ≤ x)) = true ↔ overP (en : Int) f := by
  rw [List.any_eq_true]
  unfold overP
  constructor
  · rintro ⟨x, hx, h0⟩
    obtain ⟨i, h1, h2, rfl⟩ := arrL_mem.1 hx
    exact ⟨i, h2, by omega, by simpa using h0⟩
  · rintro ⟨i, h1, h2, h3⟩
    exact ⟨f i, arrL_mem.2 ⟨i, by omega, h1, rfl⟩, by simpa using h3⟩
theorem strB_out {f : Nat → Int} {en : Nat} : strB (arrL f 0 en) = outJ (en : Int) f := by
  unfold strB outJ arrL
  rw [Int.toNat_natCast, Nat.sub_zero, ← List.range_eq_range', List.map_map]
  rfl
theorem arrL_length (f : Nat → Int) (a b : Nat) : (arrL f a b).length = b - a := by simp [arrL]
/-- What Join hands back. -/
def JoinPost (w : World) (ps : List Pt) (e : Ending) (w' : World) : Prop := e = .returned (.tuple #[.string (joinT ps), errV (joinE ps)]) ∧ Below w.heap.size w w'
theorem JoinPost.bad {w w' : World} {ps : List Pt} {x : Int} (h : joinE ps = x ∧ joinT ps = ⟨#[]⟩) (h0 : x ≠ 0) (hb : Below w.heap.size w w') : JoinPost w ps (.returned (.tuple #[.string ⟨#[]⟩, .iface 60 (.int .i64 x)])) w' :=
  ⟨by rw [h.1, h.2, errV_ne h0], hb⟩
set_option maxRecDepth 100000 in
set_option maxHeartbeats 4000000 in
theorem join_any (A : Option Addr) (n c : Nat) (ps : List Pt) (w : World) (hr : Rds w 3 A n (qc ps)) (hn : n ≤ maxLen) :
    Calls Tryd.prog 9 #[.slice A n c] w (JoinPost w ps) := by
  obtain rfl : n = ps.length := hr.qlen
  unfold maxLen at hn
  by_cases h40 : 40 < ps.length
  · go_enter Tryd.func9, Tryd.ntmps9
    go_wp2
    go_ret2
    exact .bad (join_full h40) (by omega) (Below.refl _ _)
  have hle : ps.length ≤ 40 := by omega
  clear hn h40
  go_enter Tryd.func9, Tryd.ntmps9
  go_wp2_with fail
  go_loopw [20] (fun v wr => ∃ k : Nat, k ≤ 200 ∧ v = .int .i64 k ∧ Arr wr w.heap.size (fun i => if i < k then -1 else 0) ∧ Below w.heap.size w wr) (fun v _ => 200 - (intOf v).toNat)
  case atStart => exact ⟨0, Nat.zero_le _, rfl, (Arr.new' w (f := fun _ => 0) (by first | rfl | kernel_rfl)).congr (fun i _ => by simp), (Below.refl _ _).alloc (Nat.le_refl _) _⟩
  case round =>
    obtain ⟨k, hk, rfl, ha, hB⟩ := hrel
    by_cases hlt : k < 200
    · have hc := ha.cell hlt
      have hz := ha.frozen k
      go_wp2
      go_roundw
      case rel =>
        refine ⟨k + 1, by omega, by go_num, (ha.set k (-1)).congr (fun i _ => ?_), hB.setCell (p := ⟨w.heap.size, k, none⟩) (Nat.le_refl _) _⟩
        by_cases e : i = k
        · subst e; simp
        · rw [if_neg e]
          by_cases h : i < k
          · rw [if_pos h, if_pos (by omega)]
          · rw [if_neg h, if_neg (by omega)]
      case measure => simp [intOf]; omega
    · have ha2 : Arr wr w.heap.size startF := ha.congr (fun i hi => by rw [if_pos (by omega)]; rfl)
      clear ha
      have HB0 := Lib.hid hB
      have HA0 := Lib.hid ha2
      clear ha2 hB
      go_wp2_with fail
      clear hk hlt
      go_loopw [4, 28] (fun se v wq => ∃ (k : Nat) (e : Int) (f : Nat → Int), k ≤ ps.length ∧ v = .int .i64 k ∧ se = .int .i64 e ∧ runJ ps (-1) startF = runJ (ps.drop k) e f ∧ InvJ e f ∧ Arr wq w.heap.size f ∧ Below w.heap.size w wq) (fun _ v _ => ps.length - (intOf v).toNat)
      case atStart => exact ⟨0, -1, startF, Nat.zero_le _, rfl, rfl, rfl, InvJ.start, HA0.out, HB0.out⟩
      case round =>
        clear HB0 HA0
        obtain ⟨k, e, f, hk, rfl, rfl, hrun, hinv, ha, hB⟩ := hrel
        have he0 := hinv.e0
        have he1 := hinv.e1
        have HI := Lib.hid hinv
        have HRU := Lib.hid hrun
        clear hinv hrun
        by_cases hlt : k < ps.length
        · obtain ⟨b, off, hk', rfl, hx1, hx2, hx3⟩ := (hr.below hB).part hlt
          have HD : Hid (ps.drop k = ps[k] :: ps.drop (k + 1)) := Lib.hid (List.drop_eq_getElem_cons hk')
          obtain ⟨p, hP⟩ : ∃ p, ps[k] = p := ⟨_, rfl⟩
          rw [hP] at hx1 hx2 hx3 HD
          clear hP
          obtain ⟨a, m, s⟩ := p
          simp only at hx1 hx2 hx3
          have HRR : Hid (runJ ps (-1) startF = runJ ((a, m, s) :: ps.drop (k + 1)) e f) := Lib.hid (by rw [HRU.out, HD.out])
          clear HD HRU
          have hBx : Below w.heap.size w (wr.alloc (.cells #[.int .i64 a, .bool m, .string s] 50)) := hB.alloc hB.size _
          have hax : Arr (wr.alloc (.cells #[.int .i64 a, .bool m, .string s] 50)) w.heap.size f := ha.below ((Below.refl _ _).alloc (Nat.le_refl _) _)
          have hp1 : (wr.alloc (.cells #[.int .i64 a, .bool m, .string s] 50)).cell? ⟨wr.heap.size, 0, none⟩ = some (.int .i64 a) := by simp
          have hp2 : (wr.alloc (.cells #[.int .i64 a, .bool m, .string s] 50)).cell? ⟨wr.heap.size, 1, none⟩ = some (.bool m) := by simp
          have hp3 : (wr.alloc (.cells #[.int .i64 a, .bool m, .string s] 50)).cell? ⟨wr.heap.size, 2, none⟩ = some (.string s) := by simp
          have HLT := Lib.hid ha.lt
          clear ha
          by_cases hok : okP (a, m, s)
          rotate_left
          · have HBAD := Lib.hid (join_bad hle HRR.out (step_not_ok hok) (by omega))
            go_wp2_with fail
            (with_reducible refine (one_bad _ _ _ _ hok).mono ?_)
            rintro e1 w1 ⟨rfl, hG⟩
            go_wp2
            go_ret2
            exact .bad HBAD.out (by omega) (below_call hBx hG.below)
          · have HOK := Lib.hid hok
            obtain ⟨o1, o2, o3⟩ := hok
            simp only at o1 o2 o3
            obtain ⟨an, rfl⟩ : ∃ an : Nat, a = (an : Int) := ⟨a.toNat, by omega⟩
            have HSP : Hid (∀ x, stepE e f ((an : Int), m, s) = x → x ≠ 0 → joinE ps = x ∧ joinT ps = ⟨#[]⟩) := Lib.hid (fun x hx h0 => join_bad hle HRR.out hx h0)
            have HSN : Hid (stepE e f ((an : Int), m, s) = 0 → runJ ps (-1) startF = runJ (ps.drop (k + 1)) (stepN e ((an : Int), m, s)) (stepF f ((an : Int), m, s))) := Lib.hid (fun hx => join_next HRR.out hx)
            have HIN := Lib.hid (HI.out.step HOK.out)
            have hwe : IntKind.i64.wrap ((an : Int) + (s.size : Int)) = (an : Int) + (s.size : Int) := IntWalk.i64_in _ (by constructor <;> omega)
            clear HRR
            go_wp2_with fail
            (with_reducible refine (one_ok _ _ _ _ o1 (by omega)).mono ?_)
            rintro e1 w1 ⟨rfl, hG⟩
            replace hax := hax.below hG.below
            replace hp1 := hG.cell (a := ⟨wr.heap.size, 0, none⟩) (by simp) hp1
            replace hp2 := hG.cell (a := ⟨wr.heap.size, 1, none⟩) (by simp) hp2
            replace hp3 := hG.cell (a := ⟨wr.heap.size, 2, none⟩) (by simp) hp3
            have hB1 := below_call hBx hG.below
            clear hBx hB hx1 hx2 hx3 hG
            rcases m with _ | _
            · by_cases hcl : 0 ≤ e ∧ e ≠ (an : Int) + (s.size : Int)
              · obtain ⟨c1, c2⟩ := hcl
                have hne : (e != (an : Int) + (s.size : Int)) = true := by rw [bne_iff_ne]; exact c2
                have HBAD := Lib.hid (HSP.out 6 (step_end HOK.out rfl c1 c2) (by omega))
                clear c2
                go_wp2
                go_ret2
                exact .bad HBAD.out (by omega) hB1
              · by_cases hneg : e < 0
                · have hne : ¬ (((an : Int), false, s).2.1 = false ∧ 0 ≤ e ∧ e ≠ endI ((an : Int), false, s)) := fun h => hcl h.2
                  have hn2 : stepN e ((an : Int), false, s) = (an : Int) + (s.size : Int) := by unfold stepN endI; simp
                  clear hcl
                  have HE0 : Hid (¬ clashF f an s s.size → runJ ps (-1) startF = runJ (ps.drop (k + 1)) ((an : Int) + (s.size : Int)) (putF f an s s.size) ∧ InvJ ((an : Int) + (s.size : Int)) (putF f an s s.size)) := Lib.hid (fun h => by
                    have g0 := step_ok HOK.out hne (by simpa using h)
                    have g1 := HSN.out g0
                    have g2 := HIN.out
                    rw [hn2] at g1 g2
                    exact ⟨g1, g2⟩)
                  have HE6 : Hid (clashF f an s s.size → joinE ps = 6 ∧ joinT ps = ⟨#[]⟩) := Lib.hid (fun h => HSP.out 6 (step_clash HOK.out hne (by simpa using h)) (by omega))
                  have hd1 : Below w1.heap.size w1 (w1.alloc (.cells (bytesRow s (grownCap w1 s.size 0 5)) 5 ((bytesRow s (grownCap w1 s.size 0 5)).size, (bytesRow s (grownCap w1 s.size 0 5)).size + 1))).drew := ((Below.refl _ _).alloc (Nat.le_refl _) _).drew
                  have hby : ∀ j, j < s.size → (w1.alloc (.cells (bytesRow s (grownCap w1 s.size 0 5)) 5 ((bytesRow s (grownCap w1 s.size 0 5)).size, (bytesRow s (grownCap w1 s.size 0 5)).size + 1))).drew.cell? ⟨w1.heap.size, j, none⟩ = some (.int .u8 (byteI s j)) := fun j hj => bytes_cell w1 s _ _ _ hj
                  have hB2 := below_call hB1 hd1
                  replace hax := hax.below hd1
                  have hq1 := (hd1.cell (p := ⟨wr.heap.size, 0, none⟩) (cell_lt hp1)).trans hp1
                  have HWL : Hid (w.heap.size < w1.heap.size) := Lib.hid (Nat.lt_of_lt_of_le HLT.out (by have := cell_lt hp2; exact Nat.le_of_lt this))
                  have HB2 := Lib.hid hB2
                  have HBY := Lib.hid hby
                  have HP1 := Lib.hid hq1
                  have HAX := Lib.hid hax
                  clear hne hn2 HOK HSP HSN HIN hB1 hd1 hB2 hby hax hq1
                  go_wp2_with fail
                  clear hp1 hp2 hp3
                  generalize hw2 : (w1.alloc (.cells (bytesRow s (grownCap w1 s.size 0 5)) 5 ((bytesRow s (grownCap w1 s.size 0 5)).size, (bytesRow s (grownCap w1 s.size 0 5)).size + 1))).drew = w2 at *
                  generalize grownCap w1 s.size 0 5 = cap at *
                  obtain ⟨wo, rfl⟩ : ∃ wo : World, wo = wr := ⟨_, rfl⟩
                  go_loopw [63] (fun v wq => ∃ j : Nat, j ≤ s.size ∧ v = .int .i64 j ∧ Arr wq w.heap.size (putF f an s j) ∧ ¬ clashF f an s j ∧ OnlyAt w.heap.size w2 wq) (fun v _ => s.size - (intOf v).toNat)
                  case atStart => exact ⟨0, Nat.zero_le _, rfl, by rw [putF_zero]; exact HAX.out, clash_zero _ _ _, OnlyAt.refl _ _⟩
                  case round =>
                    obtain ⟨j, hj, rfl, haj, hncl, hO⟩ := hrel
                    have HNC := Lib.hid hncl
                    clear hncl
                    by_cases hjl : j < s.size
                    · have hcb := hO.cell (p := ⟨w1.heap.size, j, none⟩) (Nat.ne_of_gt HWL.out) (HBY.out j hjl)
                      have hcp := hO.cell (p := ⟨wo.heap.size, 0, none⟩) (Nat.ne_of_gt HLT.out) HP1.out
                      have hca := haj.cell (i := an + j) (by omega)
                      rw [putF_at] at hca
                      have hza := haj.frozen (an + j)
                      have hset := haj.set (an + j) (byteI s j)
                      rw [← putF_succ] at hset
                      have HSET := Lib.hid hset
                      have HO2 := Lib.hid (hO.set (an + j) (.int .i64 (byteI s j)))
                      have hbr := byteI_range s j
                      obtain ⟨br0, br1⟩ := hbr
                      have HCS : Hid (¬ (0 ≤ f (an + j) ∧ f (an + j) ≠ byteI s j) → ¬ clashF f an s (j + 1)) := Lib.hid (fun h => clash_succ HNC.out h)
                      have HCX : Hid (0 ≤ f (an + j) ∧ f (an + j) ≠ byteI s j → joinE ps = 6 ∧ joinT ps = ⟨#[]⟩) := Lib.hid (fun h => HE6.out ⟨j, hjl, h⟩)
                      clear hset haj
                      generalize byteI s j = y at *
                      generalize f (an + j) = x at *
                      have hwb : IntKind.i64.wrap y = y := IntWalk.i64_in _ (by constructor <;> omega)
                      have hwi : IntKind.i64.wrap ((an : Int) + (j : Int)) = (an : Int) + (j : Int) := IntWalk.i64_in _ (by constructor <;> omega)
                      have hti : ((an : Int) + (j : Int)).toNat = an + j := by omega
                      have hi0 : (0 : Int) ≤ (an : Int) + (j : Int) := by omega
                      have hi1 : (an : Int) + (j : Int) < 200 := by omega
                      by_cases hx : 0 ≤ x
                      · by_cases hxy : x = y
                        · subst hxy
                          have hxx : (x != x) = false := by simp
                          go_wp2
                          go_roundw
                          case rel => exact ⟨j + 1, by omega, by go_num, HSET.out, HCS.out (fun h => h.2 rfl), HO2.out⟩
                          case measure => simp [intOf]; omega
                        · have hxx : (x != y) = true := by rw [bne_iff_ne]; exact hxy
                          have HBAD := Lib.hid (HCX.out ⟨hx, hxy⟩)
                          clear hxy
                          go_wp2
                          go_ret2
                          exact .bad HBAD.out (by omega) (HB2.out.trans (hO.below (Nat.le_refl _) HB2.out.size))
                      · go_wp2
                        go_roundw
                        case rel => exact ⟨j + 1, by omega, by go_num, HSET.out, HCS.out (fun h => hx h.1), HO2.out⟩
                        case measure => simp [intOf]; omega
                    · obtain rfl : j = s.size := by omega
                      have hfin := HE0.out HNC.out
                      have HF := Lib.hid hfin
                      clear hfin
                      go_wp2_with fail
                      go_roundw
                      case rel => exact ⟨k + 1, _, _, by omega, by go_num, rfl, HF.out.1, HF.out.2, haj, HB2.out.trans (hO.below (Nat.le_refl _) HB2.out.size)⟩
                      case measure => simp [intOf]; omega
                · have heq : e = (an : Int) + (s.size : Int) := Decidable.not_not.1 fun h => hcl ⟨by omega, h⟩
                  have hne : ¬ (((an : Int), false, s).2.1 = false ∧ 0 ≤ e ∧ e ≠ endI ((an : Int), false, s)) := fun h => hcl h.2
                  have heb : (e != (an : Int) + (s.size : Int)) = false := by simpa using heq
                  have hn2 : stepN e ((an : Int), false, s) = (an : Int) + (s.size : Int) := by unfold stepN endI; simp
                  have HEQ := Lib.hid heq
                  clear hcl heq
                  have HE0 : Hid (¬ clashF f an s s.size → runJ ps (-1) startF = runJ (ps.drop (k + 1)) ((an : Int) + (s.size : Int)) (putF f an s s.size) ∧ InvJ ((an : Int) + (s.size : Int)) (putF f an s s.size)) := Lib.hid (fun h => by
                    have g0 := step_ok HOK.out hne (by simpa using h)
                    have g1 := HSN.out g0
                    have g2 := HIN.out
                    rw [hn2] at g1 g2
                    exact ⟨g1, g2⟩)
                  have HE6 : Hid (clashF f an s s.size → joinE ps = 6 ∧ joinT ps = ⟨#[]⟩) := Lib.hid (fun h => HSP.out 6 (step_clash HOK.out hne (by simpa using h)) (by omega))
                  have hd1 : Below w1.heap.size w1 (w1.alloc (.cells (bytesRow s (grownCap w1 s.size 0 5)) 5 ((bytesRow s (grownCap w1 s.size 0 5)).size, (bytesRow s (grownCap w1 s.size 0 5)).size + 1))).drew := ((Below.refl _ _).alloc (Nat.le_refl _) _).drew
                  have hby : ∀ j, j < s.size → (w1.alloc (.cells (bytesRow s (grownCap w1 s.size 0 5)) 5 ((bytesRow s (grownCap w1 s.size 0 5)).size, (bytesRow s (grownCap w1 s.size 0 5)).size + 1))).drew.cell? ⟨w1.heap.size, j, none⟩ = some (.int .u8 (byteI s j)) := fun j hj => bytes_cell w1 s _ _ _ hj
                  have hB2 := below_call hB1 hd1
                  replace hax := hax.below hd1
                  have hq1 := (hd1.cell (p := ⟨wr.heap.size, 0, none⟩) (cell_lt hp1)).trans hp1
                  have HWL : Hid (w.heap.size < w1.heap.size) := Lib.hid (Nat.lt_of_lt_of_le HLT.out (by have := cell_lt hp2; exact Nat.le_of_lt this))
                  have HB2 := Lib.hid hB2
                  have HBY := Lib.hid hby
                  have HP1 := Lib.hid hq1
                  have HAX := Lib.hid hax
                  clear hne hn2 HOK HSP HSN HIN hB1 hd1 hB2 hby hax hq1
                  go_wp2_with fail
                  clear hp1 hp2 hp3
                  generalize hw2 : (w1.alloc (.cells (bytesRow s (grownCap w1 s.size 0 5)) 5 ((bytesRow s (grownCap w1 s.size 0 5)).size, (bytesRow s (grownCap w1 s.size 0 5)).size + 1))).drew = w2 at *
                  generalize grownCap w1 s.size 0 5 = cap at *
                  obtain ⟨wo, rfl⟩ : ∃ wo : World, wo = wr := ⟨_, rfl⟩
                  go_loopw [63] (fun v wq => ∃ j : Nat, j ≤ s.size ∧ v = .int .i64 j ∧ Arr wq w.heap.size (putF f an s j) ∧ ¬ clashF f an s j ∧ OnlyAt w.heap.size w2 wq) (fun v _ => s.size - (intOf v).toNat)
                  case atStart => exact ⟨0, Nat.zero_le _, rfl, by rw [putF_zero]; exact HAX.out, clash_zero _ _ _, OnlyAt.refl _ _⟩
                  case round =>
                    obtain ⟨j, hj, rfl, haj, hncl, hO⟩ := hrel
                    have HNC := Lib.hid hncl
                    clear hncl
                    by_cases hjl : j < s.size
                    · have hcb := hO.cell (p := ⟨w1.heap.size, j, none⟩) (Nat.ne_of_gt HWL.out) (HBY.out j hjl)
                      have hcp := hO.cell (p := ⟨wo.heap.size, 0, none⟩) (Nat.ne_of_gt HLT.out) HP1.out
                      have hca := haj.cell (i := an + j) (by omega)
                      rw [putF_at] at hca
                      have hza := haj.frozen (an + j)
                      have hset := haj.set (an + j) (byteI s j)
                      rw [← putF_succ] at hset
                      have HSET := Lib.hid hset
                      have HO2 := Lib.hid (hO.set (an + j) (.int .i64 (byteI s j)))
                      have hbr := byteI_range s j
                      obtain ⟨br0, br1⟩ := hbr
                      have HCS : Hid (¬ (0 ≤ f (an + j) ∧ f (an + j) ≠ byteI s j) → ¬ clashF f an s (j + 1)) := Lib.hid (fun h => clash_succ HNC.out h)
                      have HCX : Hid (0 ≤ f (an + j) ∧ f (an + j) ≠ byteI s j → joinE ps = 6 ∧ joinT ps = ⟨#[]⟩) := Lib.hid (fun h => HE6.out ⟨j, hjl, h⟩)
                      clear hset haj
                      generalize byteI s j = y at *
                      generalize f (an + j) = x at *
                      have hwb : IntKind.i64.wrap y = y := IntWalk.i64_in _ (by constructor <;> omega)
                      have hwi : IntKind.i64.wrap ((an : Int) + (j : Int)) = (an : Int) + (j : Int) := IntWalk.i64_in _ (by constructor <;> omega)
                      have hti : ((an : Int) + (j : Int)).toNat = an + j := by omega
                      have hi0 : (0 : Int) ≤ (an : Int) + (j : Int) := by omega
                      have hi1 : (an : Int) + (j : Int) < 200 := by omega
                      by_cases hx : 0 ≤ x
                      · by_cases hxy : x = y
                        · subst hxy
                          have hxx : (x != x) = false := by simp
                          go_wp2
                          go_roundw
                          case rel => exact ⟨j + 1, by omega, by go_num, HSET.out, HCS.out (fun h => h.2 rfl), HO2.out⟩
                          case measure => simp [intOf]; omega
                        · have hxx : (x != y) = true := by rw [bne_iff_ne]; exact hxy
                          have HBAD := Lib.hid (HCX.out ⟨hx, hxy⟩)
                          clear hxy
                          go_wp2
                          go_ret2
                          exact .bad HBAD.out (by omega) (HB2.out.trans (hO.below (Nat.le_refl _) HB2.out.size))
                      · go_wp2
                        go_roundw
                        case rel => exact ⟨j + 1, by omega, by go_num, HSET.out, HCS.out (fun h => hx h.1), HO2.out⟩
                        case measure => simp [intOf]; omega
                    · obtain rfl : j = s.size := by omega
                      have hfin := HE0.out HNC.out
                      have HF := Lib.hid hfin
                      clear hfin
                      go_wp2_with fail
                      go_roundw
                      case rel => exact ⟨k + 1, _, _, by omega, by go_num, rfl, HF.out.1, HF.out.2, haj, HB2.out.trans (hO.below (Nat.le_refl _) HB2.out.size)⟩
                      case measure => simp [intOf]; omega
            · have hne : ¬ (((an : Int), true, s).2.1 = false ∧ 0 ≤ e ∧ e ≠ endI ((an : Int), true, s)) := fun h => by cases h.1
              have hn2 : stepN e ((an : Int), true, s) = e := by unfold stepN; simp
              have HE0 : Hid (¬ clashF f an s s.size → runJ ps (-1) startF = runJ (ps.drop (k + 1)) e (putF f an s s.size) ∧ InvJ e (putF f an s s.size)) := Lib.hid (fun h => by
                have g0 := step_ok HOK.out hne (by simpa using h)
                have g1 := HSN.out g0
                have g2 := HIN.out
                rw [hn2] at g1 g2
                exact ⟨g1, g2⟩)
              have HE6 : Hid (clashF f an s s.size → joinE ps = 6 ∧ joinT ps = ⟨#[]⟩) := Lib.hid (fun h => HSP.out 6 (step_clash HOK.out hne (by simpa using h)) (by omega))
              have hd1 : Below w1.heap.size w1 (w1.alloc (.cells (bytesRow s (grownCap w1 s.size 0 5)) 5 ((bytesRow s (grownCap w1 s.size 0 5)).size, (bytesRow s (grownCap w1 s.size 0 5)).size + 1))).drew := ((Below.refl _ _).alloc (Nat.le_refl _) _).drew
              have hby : ∀ j, j < s.size → (w1.alloc (.cells (bytesRow s (grownCap w1 s.size 0 5)) 5 ((bytesRow s (grownCap w1 s.size 0 5)).size, (bytesRow s (grownCap w1 s.size 0 5)).size + 1))).drew.cell? ⟨w1.heap.size, j, none⟩ = some (.int .u8 (byteI s j)) := fun j hj => bytes_cell w1 s _ _ _ hj
              have hB2 := below_call hB1 hd1
              replace hax := hax.below hd1
              have hq1 := (hd1.cell (p := ⟨wr.heap.size, 0, none⟩) (cell_lt hp1)).trans hp1
              have HWL : Hid (w.heap.size < w1.heap.size) := Lib.hid (Nat.lt_of_lt_of_le HLT.out (by have := cell_lt hp2; exact Nat.le_of_lt this))
              have HB2 := Lib.hid hB2
              have HBY := Lib.hid hby
              have HP1 := Lib.hid hq1
              have HAX := Lib.hid hax
              clear hne hn2 HOK HSP HSN HIN hB1 hd1 hB2 hby hax hq1
              go_wp2_with fail
              clear hp1 hp2 hp3
              generalize hw2 : (w1.alloc (.cells (bytesRow s (grownCap w1 s.size 0 5)) 5 ((bytesRow s (grownCap w1 s.size 0 5)).size, (bytesRow s (grownCap w1 s.size 0 5)).size + 1))).drew = w2 at *
              generalize grownCap w1 s.size 0 5 = cap at *
              obtain ⟨wo, rfl⟩ : ∃ wo : World, wo = wr := ⟨_, rfl⟩
              go_loopw [63] (fun v wq => ∃ j : Nat, j ≤ s.size ∧ v = .int .i64 j ∧ Arr wq w.heap.size (putF f an s j) ∧ ¬ clashF f an s j ∧ OnlyAt w.heap.size w2 wq) (fun v _ => s.size - (intOf v).toNat)
              case atStart => exact ⟨0, Nat.zero_le _, rfl, by rw [putF_zero]; exact HAX.out, clash_zero _ _ _, OnlyAt.refl _ _⟩
              case round =>
                obtain ⟨j, hj, rfl, haj, hncl, hO⟩ := hrel
                have HNC := Lib.hid hncl
                clear hncl
                by_cases hjl : j < s.size
                · have hcb := hO.cell (p := ⟨w1.heap.size, j, none⟩) (Nat.ne_of_gt HWL.out) (HBY.out j hjl)
                  have hcp := hO.cell (p := ⟨wo.heap.size, 0, none⟩) (Nat.ne_of_gt HLT.out) HP1.out
                  have hca := haj.cell (i := an + j) (by omega)
                  rw [putF_at] at hca
                  have hza := haj.frozen (an + j)
                  have hset := haj.set (an + j) (byteI s j)
                  rw [← putF_succ] at hset
                  have HSET := Lib.hid hset
                  have HO2 := Lib.hid (hO.set (an + j) (.int .i64 (byteI s j)))
                  have hbr := byteI_range s j
                  obtain ⟨br0, br1⟩ := hbr
                  have HCS : Hid (¬ (0 ≤ f (an + j) ∧ f (an + j) ≠ byteI s j) → ¬ clashF f an s (j + 1)) := Lib.hid (fun h => clash_succ HNC.out h)
                  have HCX : Hid (0 ≤ f (an + j) ∧ f (an + j) ≠ byteI s j → joinE ps = 6 ∧ joinT ps = ⟨#[]⟩) := Lib.hid (fun h => HE6.out ⟨j, hjl, h⟩)
                  clear hset haj
                  generalize byteI s j = y at *
                  generalize f (an + j) = x at *
                  have hwb : IntKind.i64.wrap y = y := IntWalk.i64_in _ (by constructor <;> omega)
                  have hwi : IntKind.i64.wrap ((an : Int) + (j : Int)) = (an : Int) + (j : Int) := IntWalk.i64_in _ (by constructor <;> omega)
                  have hti : ((an : Int) + (j : Int)).toNat = an + j := by omega
                  have hi0 : (0 : Int) ≤ (an : Int) + (j : Int) := by omega
                  have hi1 : (an : Int) + (j : Int) < 200 := by omega
                  by_cases hx : 0 ≤ x
                  · by_cases hxy : x = y
                    · subst hxy
                      have hxx : (x != x) = false := by simp
                      go_wp2
                      go_roundw
                      case rel => exact ⟨j + 1, by omega, by go_num, HSET.out, HCS.out (fun h => h.2 rfl), HO2.out⟩
                      case measure => simp [intOf]; omega
                    · have hxx : (x != y) = true := by rw [bne_iff_ne]; exact hxy
                      have HBAD := Lib.hid (HCX.out ⟨hx, hxy⟩)
                      clear hxy
                      go_wp2
                      go_ret2
                      exact .bad HBAD.out (by omega) (HB2.out.trans (hO.below (Nat.le_refl _) HB2.out.size))
                  · go_wp2
                    go_roundw
                    case rel => exact ⟨j + 1, by omega, by go_num, HSET.out, HCS.out (fun h => hx h.1), HO2.out⟩
                    case measure => simp [intOf]; omega
                · obtain rfl : j = s.size := by omega
                  have hfin := HE0.out HNC.out
                  have HF := Lib.hid hfin
                  clear hfin
                  go_wp2_with fail
                  go_roundw
                  case rel => exact ⟨k + 1, _, _, by omega, by go_num, rfl, HF.out.1, HF.out.2, haj, HB2.out.trans (hO.below (Nat.le_refl _) HB2.out.size)⟩
                  case measure => simp [intOf]; omega
        · obtain rfl : k = ps.length := by omega
          have HR0 : Hid (runJ ps (-1) startF = runJ [] e f) := Lib.hid (by rw [HRU.out, List.drop_length])
          have HE := Lib.hid (join_end hle HR0.out)
          clear HRU HR0
          by_cases hneg : e < 0
          · have HBAD : Hid (joinE ps = 5 ∧ joinT ps = ⟨#[]⟩) := Lib.hid (by
              have h5 : finE e f = 5 := by unfold finE; rw [if_pos (.inl hneg)]
              have h6 := HE.out
              rw [h5, if_neg (by omega)] at h6
              exact h6)
            go_wp2
            go_ret2
            exact .bad HBAD.out (by omega) hB
          · obtain ⟨en, rfl⟩ : ∃ en : Nat, e = (en : Int) := ⟨e.toNat, by omega⟩
            have hen : en ≤ 200 := by omega
            have hrd := ha.rds (i := 0) (j := en) hen
            rw [Nat.sub_zero] at hrd
            have HRD := Lib.hid hrd
            have HAR := Lib.hid ha
            clear hrd ha
            go_wp2_with fail
            have hm200 : en ≤ maxLen := by unfold maxLen; omega
            (with_reducible refine (contains_any _ _ _ _ _ _ HRD.out hm200).mono ?_)
            rintro e1 w1 ⟨rfl, rfl⟩
            by_cases hgap : gapP (en : Int) f
            · have hd : decide ((-1 : Int) ∈ arrL f 0 en) = true := decide_eq_true ((gap_mem HI.out rfl).2 hgap)
              have HBAD : Hid (joinE ps = 5 ∧ joinT ps = ⟨#[]⟩) := Lib.hid (by
                have h5 : finE (en : Int) f = 5 := by unfold finE; rw [if_pos (.inr hgap)]
                have h6 := HE.out
                rw [h5, if_neg (by omega)] at h6
                exact h6)
              rw [hd]
              clear hd hgap
              go_wp2
              go_ret2
              exact .bad HBAD.out (by omega) hB
            · have hd : decide ((-1 : Int) ∈ arrL f 0 en) = false := decide_eq_false (fun h => hgap ((gap_mem HI.out rfl).1 h))
              have HG := Lib.hid hgap
              have HR2 := Lib.hid (HAR.out.rds (i := en) (j := 200) (Nat.le_refl _))
              rw [hd]
              have HR3 : Hid (200 = en → Rds wr 1 (some ⟨w.heap.size, 0, none⟩) 0 (ic (arrL f en 200))) := Lib.hid (fun h => by
                subst h
                refine ⟨by simp [arrL, ic], fun hp => ?_⟩
                simp [arrL, ic] at hp)
              have HSTR : Hid (strB (arrL f 0 en) = outJ (en : Int) f) := Lib.hid strB_out
              have HLEN : Hid ((arrL f 0 en).length = en) := Lib.hid (by rw [arrL_length]; omega)
              have HRNG : Hid (∀ x ∈ arrL f 0 en, 0 ≤ x ∧ x ≤ 255) := Lib.hid (fun x hx => by
                obtain ⟨i, _, h2, rfl⟩ := arrL_mem.1 hx
                have h3 := HI.out.f0 i
                have h4 : ¬ f i < 0 := fun h => HG.out ⟨i, by omega, h⟩
                omega)
              have HOV : Hid ((arrL f en 200).any (fun x => decide (0 ≤ x)) = true → joinE ps = 6 ∧ joinT ps = ⟨#[]⟩) := Lib.hid (fun ho => by
                have h5 : finE (en : Int) f = 6 := by unfold finE; rw [if_neg (fun h => h.elim (fun h => by omega) HG.out), if_pos (over_any.1 ho)]
                have h6 := HE.out
                rw [h5, if_neg (by omega)] at h6
                exact h6)
              have HGD : Hid ((arrL f en 200).any (fun x => decide (0 ≤ x)) = false → joinE ps = 0 ∧ joinT ps = outJ (en : Int) f) := Lib.hid (fun ho => by
                have h5 : finE (en : Int) f = 0 := by
                  unfold finE
                  rw [if_neg (fun h => h.elim (fun h => by omega) HG.out), if_neg (fun h => by rw [over_any.2 h] at ho; cases ho)]
                have h6 := HE.out
                rw [h5, if_pos rfl] at h6
                exact h6)
              clear hd hgap HE HG HAR
              go_wp2_with fail
              all_goals (first | (with_reducible refine (containsFunc_any _ _ _ (arrL f en 200) _ HR2.out (by unfold maxLen; omega)).mono ?_) | (with_reducible refine (containsFunc_any _ _ _ (arrL f en 200) _ (HR3.out (by assumption)) (by unfold maxLen; omega)).mono ?_))
              all_goals
                rintro e1 w1 ⟨rfl, rfl⟩
                rcases hov : (arrL f en 200).any (fun x => decide (0 ≤ x)) with _ | _
                · have HFIN := Lib.hid (HGD.out hov)
                  clear hov HOV HGD HR2 HR3
                  generalize arrL f 0 en = xs at *
                  have HB := Lib.hid hB
                  clear hB
                  obtain ⟨wo, rfl⟩ : ∃ wo : World, wo = wr := ⟨_, rfl⟩
                  go_wp2_with fail
                  go_loopw [13, 107] (fun so v wq => ∃ (j : Nat) (A3 : Option Addr) (c3 : Nat), j ≤ en ∧ v = .int .i64 j ∧ so = .slice A3 j c3 ∧ OwnB wq wo.heap.size (.slice A3 j c3) (xs.take j) ∧ Below wo.heap.size wo wq) (fun _ v _ => en - (intOf v).toNat)
                  case atStart => exact ⟨0, none, 0, Nat.zero_le _, rfl, rfl, OwnB.nil_ _ _, Below.refl _ _⟩
                  case round =>
                    obtain ⟨j, A3, c3, hj, rfl, rfl, ho, hB2⟩ := hrel
                    have hxl := HLEN.out
                    by_cases hjl : j < en
                    · obtain ⟨b2, off2, hk2, eA, hcell⟩ := (HRD.out.below hB2).int (k := j) hjl
                      cases eA
                      rw [Nat.zero_add] at hcell
                      have hrg := HRNG.out _ (List.getElem_mem hk2)
                      obtain ⟨r0, r1⟩ := hrg
                      have HTK : Hid (xs.take (j + 1) = xs.take j ++ [xs[j]]) := Lib.hid (List.take_succ_eq_append_getElem hk2)
                      have HTL : Hid ((xs.take j).length = j) := Lib.hid (by rw [List.length_take]; omega)
                      obtain ⟨x, hX⟩ : ∃ x, xs[j] = x := ⟨_, rfl⟩
                      rw [hX] at hcell r0 r1 HTK
                      have hw8 : IntKind.u8.wrap x = x := by
                        simp [IntKind.wrap, IntKind.signed, IntKind.bits]
                        omega
                      obtain ⟨T, hT⟩ : ∃ T, xs.take j = T := ⟨_, rfl⟩
                      rw [hT] at ho HTK HTL
                      clear hX hT hxl
                      go_wp2_with (at_builtin; refine wp_append_byte wr rfl (.tmp 111) (.tmp 114) rfl wo wo.heap.size (.slice A3 j c3) T (by rfl) ho x rfl (by rw [HTL.out]; omega) hB2.size hB2 ?_; intro A4 c4 w4 ho4 hB4 _; rw [HTL.out] at ho4; rw [HTL.out])
                      go_roundw
                      case rel => exact ⟨j + 1, A4, c4, by omega, by go_num, rfl, by rw [HTK.out]; exact ho4, hB4⟩
                      case measure => simp [intOf]; omega
                    · obtain rfl : j = en := by omega
                      have hto : xs.take j = xs := List.take_of_length_le (by omega)
                      rw [hto] at ho
                      have hors := ho.rds
                      rw [hxl] at hors
                      have hcs := conv_str wr A3 j c3 xs hors HRNG.out
                      clear hors hto hxl
                      go_wp2
                      go_ret2
                      refine ⟨?_, HB.out.trans (hB2.mono HB.out.size)⟩
                      show Ending.returned (.tuple #[.string (strB xs), .nilIface]) = _
                      rw [HFIN.out.1, HFIN.out.2, errV_zero, HSTR.out]
                · have HBAD := Lib.hid (HOV.out hov)
                  go_wp2
                  go_ret2
                  exact .bad HBAD.out (by omega) hB
end Go.Proofs.YtbmajajndckfoaaDoor
