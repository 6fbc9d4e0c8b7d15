/- The document's table of routes: Drop. -/
import Derived.Test.YtfgpppgehbpblaaDoorRefSet
namespace Go.Proofs.YtfgpppgehbpblaaDoor
open Go.RowKit Lp
attribute [local go_sem ↓] Go.wp_at_zero Go.wp_at_succ
set_option maxRecDepth 100000 in
set_option maxHeartbeats 8000000 in
theorem refDrop_any (xs : List Rt) (A : Option Addr) (c base : Nat) (a l : Int) (w : World) (ho : OwnT w base (.slice A xs.length c) xs) (hbase : base ≤ w.heap.size) (hl : xs.length ≤ 1000) (hs : xs.Pairwise LtR) :
    Calls Tryd.prog 27 #[.agg #[.slice A xs.length c], .agg #[.int .i64 a, .int .i64 l]] w (RefPost base w A (if dropR xs a l = 0 then dropL xs a l else xs) (dropR xs a l)) := by
  have hB0 : Below w.heap.size w (((w.alloc (.cells #[.slice A xs.length c] 59)).alloc (.cells #[.int .i64 a, .int .i64 l] 23)).alloc (.cells #[.slice none 0 0] 59)) := (((Below.refl _ _).alloc (Nat.le_refl _) _).alloc (by simp) _).alloc (by simp; omega) _
  have hp0 : (((w.alloc (.cells #[.slice A xs.length c] 59)).alloc (.cells #[.int .i64 a, .int .i64 l] 23)).alloc (.cells #[.slice none 0 0] 59)).cell? ⟨w.heap.size, 0, none⟩ = some (.slice A xs.length c) := by rw [World.cell?_alloc_past _ _ _ (by simp; omega)]; simp
  have hp1 : (((w.alloc (.cells #[.slice A xs.length c] 59)).alloc (.cells #[.int .i64 a, .int .i64 l] 23)).alloc (.cells #[.slice none 0 0] 59)).cell? ⟨w.heap.size + 1, 0, none⟩ = some (.int .i64 a) := by rw [World.cell?_alloc_past _ _ _ (by simp)]; simp
  have hp2 : (((w.alloc (.cells #[.slice A xs.length c] 59)).alloc (.cells #[.int .i64 a, .int .i64 l] 23)).alloc (.cells #[.slice none 0 0] 59)).cell? ⟨w.heap.size + 1, 1, none⟩ = some (.int .i64 l) := by rw [World.cell?_alloc_past _ _ _ (by simp)]; simp
  have hp4 : (((w.alloc (.cells #[.slice A xs.length c] 59)).alloc (.cells #[.int .i64 a, .int .i64 l] 23)).alloc (.cells #[.slice none 0 0] 59)).cell? ⟨w.heap.size + 1 + 1, 0, none⟩ = some (.slice none 0 0) := by rw [World.cell?_alloc_at _ _ _ _ (by simp)]; rfl
  have hfz : (((w.alloc (.cells #[.slice A xs.length c] 59)).alloc (.cells #[.int .i64 a, .int .i64 l] 23)).alloc (.cells #[.slice none 0 0] 59)).frozen? ⟨w.heap.size + 1 + 1, 0, none⟩ = false := by go_simp
  have hsz : (((w.alloc (.cells #[.slice A xs.length c] 59)).alloc (.cells #[.int .i64 a, .int .i64 l] 23)).alloc (.cells #[.slice none 0 0] 59)).heap.size = w.heap.size + 1 + 1 + 1 := by simp
  have HO := Lib.hid (ho.keep hB0)
  have HS := Lib.hid hs
  have HB0 := Lib.hid hB0
  have hcap := ho.cap
  obtain ⟨E, hE⟩ : ∃ E, dropR xs a l = E := ⟨_, rfl⟩
  obtain ⟨ys, hys⟩ : ∃ ys, (if E = 0 then dropL xs a l else xs) = ys := ⟨_, rfl⟩
  rw [hE, hys]
  have HSE := Lib.hid hE
  have HYS := Lib.hid hys
  clear hE hys
  have HLT : Hid (∀ b off, A = some ⟨b, off, none⟩ → base ≤ b ∧ b < w.heap.size) := Lib.hid (fun b off e => by subst e; exact ho.at_)
  clear ho hs hB0
  go_enter Tryd.func27, Tryd.ntmps27
  obtain ⟨w1, hw1⟩ : ∃ w1, (((w.alloc (.cells #[.slice A xs.length c] 59)).alloc (.cells #[.int .i64 a, .int .i64 l] 23)).alloc (.cells #[.slice none 0 0] 59)) = w1 := ⟨_, rfl⟩
  rw [hw1] at HO hp0 hp1 hp2 hp4 hfz hsz HB0
  go_wp2_with fail
  clear hw1
  obtain ⟨b0, hb0⟩ : ∃ b0, w.heap.size = b0 := ⟨_, rfl⟩
  have HB : Hid (w.heap.size = b0) := Lib.hid hb0
  rw [hb0] at hp0 hp1 hp2 hp4 hfz hsz ⊢
  clear hb0
  (with_reducible refine (refPrefix_any _ _ _).mono ?_)
  rintro e w2 ⟨rfl, g2⟩
  replace hp0 := g2.cell (cell_lt hp0) hp0
  replace hp1 := g2.cell (cell_lt hp1) hp1
  replace hp2 := g2.cell (cell_lt hp2) hp2
  replace hfz := g2.frozen (cell_lt hp4) hfz
  replace hp4 := g2.cell (cell_lt hp4) hp4
  have G2 := Lib.hid g2
  clear g2
  obtain ⟨ce, hce⟩ : ∃ ce, checkE a l = ce := ⟨_, rfl⟩
  rw [hce]
  have HCE := Lib.hid hce
  clear hce
  by_cases hc0 : ce = 0
  rotate_left
  · have HE : Hid (E = ce ∧ ys = xs) := Lib.hid (by
      have e : E = ce := by rw [← HSE.out]; unfold dropR; rw [HCE.out, if_pos hc0]
      refine ⟨e, ?_⟩
      rw [← HYS.out, e, if_neg hc0])
    have hc1 : (ce != 0) = true := by rw [bne_iff_ne]; exact hc0
    clear hc0
    go_wp2
    (try simp only [Exit.inBlock, Exit.then]); refine bodyPost_ret (v := .tuple #[.agg #[.slice A xs.length c], .int .i64 ce]) (by rw [results_cell_tmp rfl]; go_simp) rfl ?_
    rw [HE.out.1, HE.out.2]
    refine ⟨A, c, rfl, ((HO.out.mono G2.out).setCell _ _ fun b off e => ?_), fun _ _ _ => .inl rfl, ((HB0.out.trans (G2.out.below.mono HB0.out.size)).setCell (p := ⟨b0 + 1 + 1, 0, none⟩) (by show w.heap.size ≤ b0 + 1 + 1; have := HB.out; omega) _)⟩; show b ≠ b0 + 1 + 1; have := (HLT.out b off e).2; have := HB.out; omega
  subst hc0
  go_wp2_with fail
  (with_reducible refine (refAt_any xs A c a l w2 (HO.out.mono G2.out).rds (by omega) HS.out).mono ?_)
  rintro e w3 ⟨i, rfl, hi, hlf, hgf, hlt, g3⟩
  obtain ⟨hd, HHD⟩ : ∃ hd, Hid (hadB xs a l = hd) := ⟨_, Lib.hid rfl⟩
  rw [HHD.out] at hgf hlt ⊢
  replace hp0 := g3.cell (cell_lt hp0) hp0
  replace hp1 := g3.cell (cell_lt hp1) hp1
  replace hp2 := g3.cell (cell_lt hp2) hp2
  replace hfz := g3.frozen (cell_lt hp4) hfz
  replace hp4 := g3.cell (cell_lt hp4) hp4
  have G3 := Lib.hid (G2.out.trans' g3)
  have HR3 := Lib.hid (HO.out.mono G3.out).rds
  have HSZ3 : Hid (w1.heap.size ≤ w3.heap.size) := Lib.hid G3.out.size
  have HLF := Lib.hid hlf
  have HGF := Lib.hid hgf
  have hq0 : b0 < w1.heap.size := by omega
  have hq1 : b0 + 1 < w1.heap.size := by omega
  have hq2 : b0 + 1 + 1 < w1.heap.size := by omega
  have hic : (i : Int) ≤ (c : Int) := by omega
  have hilen : (i : Int) ≤ (xs.length : Int) := by omega
  have hi0 : (0 : Int) ≤ (i : Int) := by omega
  clear g3 hlf hgf
  rcases hd with _ | _
  · have HE : Hid (E = 5 ∧ ys = xs) := Lib.hid (by
      have e : E = 5 := by rw [← HSE.out]; unfold dropR; rw [HCE.out, if_neg (by simp), if_neg (by rw [HHD.out]; simp)]
      refine ⟨e, ?_⟩
      rw [← HYS.out, e, if_neg (by decide)])
    go_wp2
    (try simp only [Exit.inBlock, Exit.then]); refine bodyPost_ret (v := .tuple #[.agg #[.slice A xs.length c], .int .i64 5]) (by rw [results_cell_tmp rfl]; go_simp) rfl ?_
    rw [HE.out.1, HE.out.2]
    refine ⟨A, c, rfl, ((HO.out.mono G3.out).setCell _ _ fun b off e => ?_), fun _ _ _ => .inl rfl, ((HB0.out.trans (G3.out.below.mono HB0.out.size)).setCell (p := ⟨b0 + 1 + 1, 0, none⟩) (by show w.heap.size ≤ b0 + 1 + 1; have := HB.out; omega) _)⟩; show b ≠ b0 + 1 + 1; have := (HLT.out b off e).2; have := HB.out; omega
  · have hix := hlt rfl
    clear hlt
    have HE : Hid (E = 0 ∧ ys = xs.take i ++ xs.drop (i + 1)) := Lib.hid (by
      have e : E = 0 := by rw [← HSE.out]; unfold dropR; rw [HCE.out, if_neg (by simp), if_pos HHD.out]
      refine ⟨e, ?_⟩
      rw [← HYS.out, e, if_pos rfl, dropL, HLF.out, HGF.out]
      rfl)
    rcases A with _ | p
    · have := (hcap.2.2.1 rfl).1
      omega
    · obtain ⟨g, rfl⟩ := hcap.2.2.2 p rfl
      have hmin : (xs.take i).length = i := by rw [List.length_take]; omega
      have hi1 : (i : Int) + 1 ≤ (xs.length : Int) := by omega
      have hi1c : (i : Int) + 1 ≤ (c : Int) := by omega
      have hiw : IntKind.i64.wrap ((i : Int) + 1) = (i : Int) + 1 := IntWalk.i64_in _ (by constructor <;> omega)
      by_cases hcc : c = i + 1
      all_goals
        go_wp2_with (first | (at_builtin; refine wp_append_rtes w3 rfl (.tmp 25) (.tmp 29) rfl w1.heap.size (.slice none 0 0) [] (by rfl) (OwnT.nil_ _ _) _ i _ (xs.take i) rfl (HR3.out.rtake hi) (by simp only [List.length_nil]; omega) HSZ3.out ?_; intro A5 c5 w5 ho5 hB5; simp only [List.length_nil, Nat.zero_add, List.nil_append] at ho5 ⊢; have hs5 := Nat.le_trans HSZ3.out hB5.size; (replace hp0 := (hB5.cell (p := ⟨b0, 0, none⟩) hq0).trans hp0); (replace hp1 := (hB5.cell (p := ⟨b0 + 1, 0, none⟩) hq1).trans hp1); (replace hp2 := (hB5.cell (p := ⟨b0 + 1, 1, none⟩) hq1).trans hp2); (replace hp4 := (hB5.cell (p := ⟨b0 + 1 + 1, 0, none⟩) hq2).trans hp4); (replace hfz := (hB5.frozen (p := ⟨b0 + 1 + 1, 0, none⟩) hq2).trans hfz); have HR7 := (HO.out.keep (G3.out.below.trans hB5)).rds) | (at_builtin; refine wp_append_rtes w5 rfl (.tmp 31) (.tmp 36) rfl w1.heap.size _ (xs.take i) (by rfl) ho5 _ (xs.length - (i + 1)) _ (xs.drop (i + 1)) rfl (HR7.rdrop (k := i + 1) hix _ (fun h => by first | rfl | omega | (rw [Option.map_some, Go.WideShapes.add_plain, Nat.zero_add]))) (by rw [hmin]; omega) hs5 ?_; intro A7 c7 w7 ho7 hB7; (replace hp0 := (hB7.cell (p := ⟨b0, 0, none⟩) hq0).trans hp0); (replace hp1 := (hB7.cell (p := ⟨b0 + 1, 0, none⟩) hq1).trans hp1); (replace hp2 := (hB7.cell (p := ⟨b0 + 1, 1, none⟩) hq1).trans hp2); (replace hp4 := (hB7.cell (p := ⟨b0 + 1 + 1, 0, none⟩) hq2).trans hp4); (replace hfz := (hB7.frozen (p := ⟨b0 + 1 + 1, 0, none⟩) hq2).trans hfz); have hlen7 : ((xs.take i)).length + (xs.length - (i + 1)) = ((xs.take i) ++ (xs.drop (i + 1))).length := (by first | (rw [len_app ((xs.take i)) ((xs.drop (i + 1))), List.length_drop]) | exact (len_app ((xs.take i)) ((xs.drop (i + 1)))).symm); rw [hlen7] at ho7 ⊢; clear hlen7; generalize (xs.take i) ++ (xs.drop (i + 1)) = Q at *))
        ((try simp only [Exit.inBlock, Exit.then]); refine bodyPost_ret (v := .tuple #[.agg #[.slice A7 Q.length c7], .int .i64 0]) (by rw [results_cell_tmp rfl]; go_simp) rfl ?_); (rw [HE.out.1, HE.out.2]); (refine ⟨A7, c7, rfl, ((ho7.base (base' := base) (by have := HB.out; omega)).setCell _ _ fun b off e => ?_), fun b off e => .inr ?_, (((HB0.out.trans (G3.out.below.mono HB0.out.size)).trans (hB5.mono HB0.out.size)).trans (hB7.mono HB0.out.size)).setCell (p := ⟨b0 + 1 + 1, 0, none⟩) (by show w.heap.size ≤ b0 + 1 + 1; have := HB.out; omega) _⟩); (focus (show b ≠ b0 + 1 + 1; subst e; have h9 := ho7.at_; omega)); (focus (subst e; have h9 := ho7.at_; have := HB.out; omega))
end Go.Proofs.YtfgpppgehbpblaaDoor
