/- The contract of frag.Again: the parts of a part, that stand where it stands. -/
import Derived.Test.YtbmajajndckfoaaDoorFragUse
import Derived.Test.YtbmajajndckfoaaDoorJoin
import Derived.Deep.RegionHeld3
import Derived.Deep.QuietTactic
import Derived.BigQuiet
import Derived.RegionTactic
import Derived.ChangeAlike
import Derived.BigRegion
namespace Go.Proofs.YtbmajajndckfoaaDoor
open Go.RowKit
attribute [local go_sem ↓] Go.wp_at_zero Go.wp_at_succ
def againE (p : Pt) (size : Int) : Int := if okP p then cutE p.2.2 size else 1
def againV (p : Pt) (size : Int) : List Pt := if againE p size = 0 then (cutV p.2.2 size).map (shift p) else []
/-- The first k parts shifted, the others not yet. -/
def mixQ (p : Pt) (L : List Pt) (k : Nat) : List Pt := L.mapIdx fun i q => if i < k then shift p q else q
theorem mixQ_length (p : Pt) (L : List Pt) (k : Nat) : (mixQ p L k).length = L.length := by simp [mixQ]
theorem mixQ_get (p : Pt) (L : List Pt) (k i : Nat) (h : i < (mixQ p L k).length) (h2 : i < L.length) : (mixQ p L k)[i] = if i < k then shift p L[i] else L[i] := by simp [mixQ]
theorem mixQ_zero (p : Pt) (L : List Pt) : mixQ p L 0 = L := by
  refine List.ext_getElem (mixQ_length _ _ _) fun i h1 h2 => ?_
  rw [mixQ_get _ _ _ _ h1 h2, if_neg (by omega)]
theorem mixQ_all (p : Pt) (L : List Pt) : mixQ p L L.length = L.map (shift p) := by
  refine List.ext_getElem (by rw [mixQ_length, List.length_map]) fun i h1 h2 => ?_
  have h3 : i < L.length := by rw [mixQ_length] at h1; exact h1
  rw [mixQ_get _ _ _ _ h1 h3, if_pos h3, List.getElem_map]
theorem mixQ_succ (p : Pt) (L : List Pt) (k : Nat) (h : k < L.length) : mixQ p L (k + 1) = (mixQ p L k).set k (shift p L[k]) := by
  refine List.ext_getElem (by rw [List.length_set, mixQ_length, mixQ_length]) fun i h1 h2 => ?_
  have h3 : i < L.length := by rw [mixQ_length] at h1; exact h1
  rw [mixQ_get _ _ _ _ h1 h3, List.getElem_set]
  by_cases e : k = i
  · subst e; rw [if_pos (by omega), if_pos rfl]
  · rw [if_neg e, mixQ_get _ _ _ _ (by rw [mixQ_length]; exact h3) h3]
    by_cases hlt : i < k
    · rw [if_pos hlt, if_pos (by omega)]
    · rw [if_neg hlt, if_neg (by omega)]
theorem qc_set (xs : List Pt) : ∀ (k : Nat) (h : k < xs.length) (a : Int) (m : Bool), qc (xs.set k (a, m, xs[k].2.2)) = ((qc xs).set (k * 3) (.int .i64 a)).set (k * 3 + 1) (.bool m) := by
  induction xs with
  | nil => intro k h; simp at h
  | cons x t ih =>
    intro k h a m
    cases k with
    | zero => simp [qc_cons]
    | succ k =>
      have := ih k (by simpa using h) a m
      rw [List.set_cons_succ, qc_cons, qc_cons, show (k + 1) * 3 = k * 3 + 1 + 1 + 1 from by omega]
      simp only [List.getElem_cons_succ, List.set_cons_succ]
      rw [this]
/-- The row's two cells of an element are stored anew. -/
theorem OwnQ.put2 {w : World} {base g c n k : Nat} {xs : List Pt} (h : OwnQ w base (.slice (some ⟨g, 0, none⟩) n c) xs) (hk : k < xs.length) (a : Int) (m : Bool) :
    OwnQ ((w.setCell ⟨g, k * 3, none⟩ (.int .i64 a)).setCell ⟨g, k * 3 + 1, none⟩ (.bool m)) base (.slice (some ⟨g, 0, none⟩) n c) (xs.set k (a, m, xs[k].2.2)) := by
  have hn : n = xs.length := by obtain ⟨A', c', e, _⟩ := h.shape; cases e; rfl
  subst hn
  unfold OwnQ at h ⊢
  rw [List.length_set, qc_set xs k hk]
  exact (World.ownsRow.stored (World.ownsRow.stored h (k * 3) (.int .i64 a)).1 (k * 3 + 1) (.bool m)).1
theorem OwnQ.mono {w : World} {base base' : Nat} {v : Value} {xs : List Pt} (h : OwnQ w base v xs) (hb : base' ≤ base) : OwnQ w base' v xs := by
  refine ⟨h.1, ?_⟩
  rcases h.2 with h0 | ⟨g, cap, cur, e, hg, h3⟩
  · exact .inl h0
  · exact .inr ⟨g, cap, cur, e, Nat.le_trans hb hg, h3⟩
theorem OwnQ.block {w : World} {base n c : Nat} {A : Option Addr} {xs : List Pt} (h : OwnQ w base (.slice A n c) xs) (h0 : 0 < n) : ∃ g, A = some ⟨g, 0, none⟩ ∧ base ≤ g ∧ g < w.heap.size ∧ ∀ j, w.frozen? ⟨g, j, none⟩ = false := by
  have hn : n = xs.length := by obtain ⟨A', c', e, _⟩ := h.shape; cases e; rfl
  subst hn
  rcases h.2 with ⟨e, h1⟩ | ⟨g, cap, cur, e, hg, hh, _⟩
  · omega
  · cases e
    exact ⟨g, rfl, hg, (Array.getElem?_eq_some_iff.1 hh).1, fun j => frozen_of_row w g j cur _ hh⟩
set_option maxRecDepth 100000 in
set_option maxHeartbeats 4000000 in
theorem again_law (p : Pt) (size : Int) (w : World) (hm : p.2.2.size ≤ maxLen) :
    Calls Tryd.prog 26 #[.agg #[.int .i64 p.1, .bool p.2.1, .string p.2.2], .int .i64 size] w (RetQ w (againV p size) (errV (againE p size))) := by
  obtain ⟨a, m, s⟩ := p
  simp only at hm
  have HM := Lib.hid hm
  have hB : Below w.heap.size w (w.alloc (.cells #[.int .i64 a, .bool m, .string s] 50)) := (Below.refl _ _).alloc (Nat.le_refl _) _
  have hp1 : (w.alloc (.cells #[.int .i64 a, .bool m, .string s] 50)).cell? ⟨w.heap.size, 0, none⟩ = some (.int .i64 a) := by simp
  have hp2 : (w.alloc (.cells #[.int .i64 a, .bool m, .string s] 50)).cell? ⟨w.heap.size, 1, none⟩ = some (.bool m) := by simp
  have hp3 : (w.alloc (.cells #[.int .i64 a, .bool m, .string s] 50)).cell? ⟨w.heap.size, 2, none⟩ = some (.string s) := by simp
  clear hm
  simp only
  by_cases hok : okP (a, m, s)
  rotate_left
  · have HV : Hid (againE (a, m, s) size = 1 ∧ againV (a, m, s) size = []) := Lib.hid (by
      have h1 : againE (a, m, s) size = 1 := by unfold againE; rw [if_neg hok]
      exact ⟨h1, by unfold againV; rw [h1, if_neg (by omega)]⟩)
    have HOK := Lib.hid hok
    clear hok
    go_enter Tryd.func26, Tryd.ntmps26
    go_wp2_with fail
    (with_reducible refine (one_bad _ _ _ _ HOK.out).mono ?_)
    rintro e w1 ⟨rfl, hG⟩
    go_wp2
    go_ret2
    rw [HV.out.1, HV.out.2, errV_ne (by omega)]
    exact ⟨none, 0, rfl, OwnQ.nil_ _ _, below_call hB hG.below⟩
  obtain ⟨o1, o2, o3⟩ := hok
  simp only at o1 o2 o3
  have HAE : Hid (againE (a, m, s) size = cutE s size) := Lib.hid (by unfold againE; rw [if_pos ⟨o1, o2, o3⟩])
  by_cases hce : cutE s size = 0
  rotate_left
  · have HV : Hid (againV (a, m, s) size = [] ∧ cutV s size = [] ∧ errV (cutE s size) = .iface 60 (.int .i64 (cutE s size))) := Lib.hid ⟨by unfold againV; rw [HAE.out, if_neg hce], cutV_bad hce, errV_ne hce⟩
    clear hce
    go_enter Tryd.func26, Tryd.ntmps26
    go_wp2_with fail
    (with_reducible refine (one_ok _ _ _ _ o1 (by omega)).mono ?_)
    rintro e w1 ⟨rfl, hG⟩
    replace hp3 := hG.cell (a := ⟨w.heap.size, 2, none⟩) (cell_lt hp3) hp3
    replace hB := below_call hB hG.below
    clear hp1 hp2 hG
    go_wp2_with fail
    (with_reducible refine (cut_law _ _ _ HM.out).mono ?_)
    rw [HV.out.2.1, HV.out.2.2]
    rintro e w2 ⟨A1, c1, rfl, _, hb⟩
    replace hB := below_call hB hb
    clear hb hp3
    go_wp2
    go_ret2
    rw [HAE.out, HV.out.1, HV.out.2.2]
    exact ⟨none, 0, rfl, OwnQ.nil_ _ _, hB⟩
  obtain ⟨sz, rfl, s1, s2, ht, hM, hV, hC⟩ := cutE_ok hce
  have HV := Lib.hid hV
  have HC := Lib.hid hC
  have HE := Lib.hid hce
  have HAV : Hid (againV (a, m, s) (sz : Int) = (partsL s sz (cutM s sz)).map (shift (a, m, s))) := Lib.hid (by unfold againV; rw [HAE.out, if_pos hce, hV])
  obtain ⟨M, hMM⟩ : ∃ M, cutM s sz = M := ⟨_, rfl⟩
  rw [hMM] at hM hV HV hC HC HAV
  have HL : Hid ((partsL s sz M).length = M) := Lib.hid (partsL_len _ _ _)
  have HG0 : Hid (∀ q ∈ partsL s sz M, 0 ≤ q.1 ∧ q.1 ≤ 200) := Lib.hid (fun q hq => by
    have h1 := cut_of hC q hq
    have h2 := h1.p0
    have h3 := h1.le
    omega)
  clear hce hV hC hMM
  go_enter Tryd.func26, Tryd.ntmps26
  go_wp2_with fail
  (with_reducible refine (one_ok _ _ _ _ o1 (by omega)).mono ?_)
  rintro e w1 ⟨rfl, hG⟩
  replace hp1 := hG.cell (a := ⟨w.heap.size, 0, none⟩) (cell_lt hp1) hp1
  replace hp2 := hG.cell (a := ⟨w.heap.size, 1, none⟩) (cell_lt hp2) hp2
  replace hp3 := hG.cell (a := ⟨w.heap.size, 2, none⟩) (cell_lt hp3) hp3
  replace hB := below_call hB hG.below
  clear hG
  go_wp2_with fail
  (with_reducible refine (cut_law _ _ _ HM.out).mono ?_)
  rw [HV.out, HE.out, errV_zero]
  rintro e w2 ⟨A1, c1, rfl, ho, hb⟩
  have hPl := cell_lt hp1
  have HHS := Lib.hid hb.size
  replace hp1 := (hb.cell (p := ⟨w.heap.size, 0, none⟩) hPl).trans hp1
  replace hp2 := (hb.cell (p := ⟨w.heap.size, 1, none⟩) hPl).trans hp2
  replace hB := below_call hB hb
  rw [HL.out] at ho ⊢
  generalize partsL s sz M = L at *
  have HP1 := Lib.hid hp1
  have HP2 := Lib.hid hp2
  have HPL := Lib.hid hPl
  have HB := Lib.hid hB
  have HO := Lib.hid ho
  clear hp1 hp2 hp3 hPl hB ho hb
  obtain ⟨wo, rfl⟩ : ∃ wo : World, wo = w2 := ⟨_, rfl⟩
  have hM1 := HC.out.one
  obtain ⟨g, rfl, hg1, hg2, _⟩ := HO.out.block (by omega)
  go_wp2_with fail
  go_loopw [27] (fun v wr => ∃ k : Nat, k ≤ M ∧ v = .int .i64 k ∧ OwnQ wr w1.heap.size (.slice (some ⟨g, 0, none⟩) M c1) (mixQ (a, m, s) L k) ∧ Below w1.heap.size wo wr) (fun v _ => M - (intOf v).toNat)
  case atStart => exact ⟨0, Nat.zero_le _, rfl, by rw [mixQ_zero]; exact HO.out, Below.refl _ _⟩
  case round =>
    obtain ⟨k, hk, rfl, ho, hBr⟩ := hrel
    by_cases hlt : k < M
    · have hp1 := (hBr.cell (p := ⟨w.heap.size, 0, none⟩) HPL.out).trans HP1.out
      have hp2 := (hBr.cell (p := ⟨w.heap.size, 1, none⟩) HPL.out).trans HP2.out
      have hkL : k < L.length := by have := HL.out; omega
      have hkX : k < (mixQ (a, m, s) L k).length := by rw [mixQ_length]; exact hkL
      obtain ⟨b2, off2, hk2, eA, hq1, hq2, hq3⟩ := ho.rds.part (k := k) hlt
      cases eA
      rw [mixQ_get _ _ _ _ hkX hkL, if_neg (Nat.lt_irrefl k)] at hq1 hq2 hq3
      simp only [Nat.zero_add] at hq1 hq2 hq3
      have HPUT := Lib.hid (fun a' m' => ho.put2 hkX a' m')
      rw [mixQ_get _ _ _ _ hkX hkL, if_neg (Nat.lt_irrefl k)] at HPUT
      have HSUC := Lib.hid (mixQ_succ (a, m, s) L k hkL)
      obtain ⟨g', e', _, hg4, hz⟩ := ho.block (by omega)
      cases e'
      have hr := HG0.out _ (List.getElem_mem hkL)
      obtain ⟨q, hQ⟩ : ∃ q, L[k] = q := ⟨_, rfl⟩
      rw [hQ] at hq1 hq2 hq3 HPUT HSUC hr
      obtain ⟨qa, qm, qd⟩ := q
      obtain ⟨r0, r1⟩ := hr
      simp only at hq1 hq2 hq3 r0 r1
      have hz0 := hz (k * 3)
      have hz1 := hz (k * 3 + 1)
      have hww : IntKind.i64.wrap (qa + a) = qa + a := IntWalk.i64_in _ (by constructor <;> omega)
      clear hQ hk2 hz hkX
      rcases qm with _ | _
      all_goals
        have HNX := Lib.hid (HPUT.out (qa + a) _ |> fun h => (HSUC.out ▸ h : OwnQ _ w1.heap.size (.slice (some ⟨g, 0, none⟩) M c1) (mixQ (a, m, s) L (k + 1))))
        go_wp2_with fail
        go_region
        go_wp2_with fail
        go_roundw
        case rel => exact ⟨k + 1, by omega, by go_num, HNX.out, ((hBr.setCell (p := ⟨g, k * 3, none⟩) hg1 _).setCell (p := ⟨g, k * 3 + 1, none⟩) hg1 _).drew⟩
        case measure => simp [intOf]; omega
    · obtain rfl : k = M := by omega
      go_wp2
      go_ret2
      have hfin : mixQ (a, m, s) L k = againV (a, m, s) (sz : Int) := by
        have := HL.out
        rw [HAV.out, ← this, mixQ_all]
      have hfl : (againV (a, m, s) (sz : Int)).length = k := by rw [← hfin, mixQ_length]; exact HL.out
      rw [HAE.out, HE.out, errV_zero, RetQ, hfl, ← hfin]
      refine ⟨_, c1, rfl, ?_, HB.out.trans (hBr.mono (Nat.le_trans (Nat.le_of_lt HPL.out) (Nat.le_refl _)))⟩
      exact OwnQ.mono ho (Nat.le_of_lt HPL.out)
end Go.Proofs.YtbmajajndckfoaaDoor
