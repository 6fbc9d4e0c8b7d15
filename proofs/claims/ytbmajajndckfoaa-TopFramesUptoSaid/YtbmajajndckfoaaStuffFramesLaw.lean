/- The walk of the law StuffFrames. -/
import Derived.Test.YtbmajajndckfoaaFrames
import Derived.Test.YtbmajajndckfoaaStuffLaws
namespace Go.Proofs.Ytbmajajndckfoaa
open Go.RowKit
theorem encL_len (t : List (List Int)) (r : List Int) (hb : Bits r) (hl : r.length ≤ 200) (h : (encL t).length ≤ 8 + 248 * t.length) : (encL (t ++ [r])).length ≤ 8 + 248 * (t.length + 1) := by
  have h1 := (stuffL_len r hb).2
  have h2 := (stuffL_len r hb).1
  have h8 : flagL.length = 8 := rfl
  rw [encL_snoc, List.length_append, List.length_append, h8]
  omega
theorem bits_encL (rows : List (List Int)) (hb : ∀ r ∈ rows, Bits r) : Bits (encL rows) := by
  have hf : Bits flagL := by intro b hb; simp [flagL] at hb; omega
  intro b h
  unfold encL restL at h
  rcases List.mem_append.1 h with h | h
  · exact hf b h
  · obtain ⟨r, hr, h⟩ := List.mem_flatMap.1 h
    rcases List.mem_append.1 h with h | h
    · exact (stuffed r (hb r hr)).bits b h
    · exact hf b h
set_option maxRecDepth 100000 in
set_option maxHeartbeats 4000000 in
theorem stuffFrames_any (A : Option Addr) (n c : Nat) (xss : List (List Int)) (w : World) (hr : RowsW w A n xss) (hn : n ≤ 2000000) :
    Calls Try.prog 5 #[.slice A n c] w fun e w' => e = .returned (.bool true) ∧ Below w.heap.size w w' := by
  have hB := Below.refl w.heap.size w
  obtain ⟨rfl, _⟩ := id hr
  go_enter Try.func5, Try.ntmps5
  go_wp2_with fail
  (with_reducible refine (stuffFact_any _).mono ?_)
  rintro e w1 ⟨rfl, hb⟩
  replace hB := below_call hB hb
  clear hb
  go_wp2_with (go_at_call 15; (with_reducible refine (refFlag_any _).mono ?_); rintro e w' ⟨rfl, rfl⟩)
  have hB2 := hB.alloc hB.size (.cells #[.int .i64 0, .int .i64 1, .int .i64 1, .int .i64 1, .int .i64 1, .int .i64 1, .int .i64 1, .int .i64 0] 3)
  have HF0 := Lib.hid (own_flag w1 w.heap.size hB.size)
  have HR0 := Lib.hid (OwnRowsP.nil_ (fun b => b < w.heap.size) (w1.alloc (.cells #[.int .i64 0, .int .i64 1, .int .i64 1, .int .i64 1, .int .i64 1, .int .i64 1, .int .i64 1, .int .i64 0] 3)) w.heap.size)
  have HB2 := Lib.hid hB2
  have hSep0 : Sep (.slice (some ⟨w1.heap.size, 0, none⟩) 8 8) (.slice none 0 0) := fun b _ h => by simp [Value.ownBlock] at h
  have HS0 := Lib.hid hSep0
  clear hB hB2 hSep0
  go_loopw [4, 5, 6] (fun bv wv i wr => ∃ (k : Nat) (E F : List Int) (A1 : Option Addr) (c1 : Nat) (A2 : Option Addr) (c2 : Nat) (G : List (List Int)), k ≤ xss.length ∧ i = .int .i64 k ∧ bv = .slice A1 E.length c1 ∧ wv = .slice A2 G.length c2 ∧ E = encL (xss.take k) ∧ G = fullL (xss.take k) ∧ F = [] ∧ Own wr w.heap.size (.slice A1 E.length c1) E ∧ E.length ≤ c1 ∧ c1 ≤ maxLen ∧ OwnRowsP (fun b => b < w.heap.size) wr w.heap.size (.slice A2 G.length c2) G ∧ E.length ≤ 8 + 248 * k ∧ G.length ≤ k ∧ (∀ r ∈ xss.take k, Bits r) ∧ Sep (.slice A1 E.length c1) (.slice A2 G.length c2) ∧ Below w.heap.size w wr) (fun _ _ i _ => xss.length - (intOf i).toNat)
  case atStart => exact ⟨0, flagL, [], _, _, none, 0, [], Nat.zero_le _, rfl, rfl, rfl, rfl, rfl, rfl, HF0.out, by decide, by unfold maxLen; omega, HR0.out, by decide, by simp, by simp, HS0.out, HB2.out⟩
  case round =>
    obtain ⟨k, E, F, A1, c1, A2, c2, G, hk, rfl, rfl, rfl, hE, hG, _, hbo, hbc1, hbc2, hwo, hlen, hgl, hbits, hsep, hB⟩ := hrel
    have HE := Lib.hid hE
    have HG := Lib.hid hG
    have HBT := Lib.hid hbits
    have HSP := Lib.hid hsep
    clear hE hG hbits hsep
    by_cases hlt : k < xss.length
    · obtain ⟨b, off, C, cc, rfl, hcell0, hrd0, h1, h2⟩ := hr.2 k hlt
      have hbl := cell_lt hcell0
      have hcell := (hB.cell (p := ⟨b, off + k, none⟩) hbl).trans hcell0
      have HT := Lib.hid (List.take_succ_eq_append_getElem hlt)
      have HEN := Lib.hid (encL_snoc (xss.take k) xss[k])
      have HGN := Lib.hid (fullL_snoc (xss.take k) xss[k])
      obtain ⟨r, hR⟩ : ∃ r, xss[k] = r := ⟨_, rfl⟩
      rw [hR] at hcell hrd0 h1 HT HEN HGN
      have hlow : 0 < r.length → ∀ a, C = some a → a.block < w.heap.size := fun h0 a ha => hrd0.lt h0 ha
      have HLOW := Lib.hid hlow
      have HRD0 := Lib.hid hrd0
      have hrd := hrd0.below hB
      have h2' := h2
      clear hR hcell0 hlow hrd0
      by_cases hbE : bitsE r = 0
      · obtain ⟨hbr, hl200⟩ := bits_of_ok hbE
        have HBE := Lib.hid hbE
        have HBR := Lib.hid hbr
        have hs5 := (stuffL_len r hbr).2
        have hs1 := (stuffL_len r hbr).1
        have h8 : flagL.length = 8 := rfl
        clear hbE hbr
        go_wp2_with fail
        (with_reducible refine (stuff_ok _ _ _ r _ hrd (Nat.le_trans h1 h2') HBE.out).mono ?_)
        rintro e w2 ⟨B, d, rfl, hol, hd1, hd2, hb⟩
        have hB2 := below_call hB hb
        have hbo2 := hbo.below hb
        have hwo2 := hwo.below hb
        have hcell2 := (hb.cell (p := ⟨b, off + k, none⟩) (cell_lt hcell)).trans hcell
        have hrd2 := hrd.below hb
        have hlr := hol.rds
        clear hol hb hbo hwo hcell hrd
        generalize hS : stuffL r = s at *
        have HSS := Lib.hid hS
        clear hS
        go_wp2_with (at_builtin; refine wp_append_ints w2 rfl (.tmp 34) (.tmp 35) rfl w w.heap.size (.slice A1 E.length c1) E rfl hbo2 B s.length d s rfl hlr (by omega) hB2.size hB2 ?_; intro A4 c4 w4 ho4 hc3 hc4 hB4 hg4 hk4)
        have hge : ∀ b', (Value.slice A1 E.length c1).ownBlock = some b' → w.heap.size ≤ b' := fun b' hb' => (own_lt hbo2 hb').1
        have hwo4 := hwo2.far hg4 HSP.out.symm (fun b' hb' e => by have := hge b' e; omega)
        have hsp4 : Sep (.slice A4 (E.length + s.length) c4) (.slice A2 G.length c2) := (Sep.grown HSP.out.symm hwo2.row_lt (Nat.le_refl _) hk4).symm
        have hb4 := hB4.size
        have hcell4 := (hB4.cell (p := ⟨b, off + k, none⟩) hbl).trans ((hB2.cell (p := ⟨b, off + k, none⟩) hbl).symm.trans hcell2)
        have HS4 := Lib.hid hsp4
        have hE4 : (E ++ s).length = E.length + s.length := List.length_append
        rw [← hE4] at ho4 hc3 HS4 ⊢
        have hl4 : (E ++ s).length ≤ 8 + 248 * k + 240 := by rw [List.length_append]; omega
        clear hE4 hge hsp4 hk4 hg4 hbo2 hwo2 hcell2 hrd2 hlr hB2 hB
        generalize hE2 : E ++ s = E2 at *
        have HE2 := Lib.hid hE2
        clear hE2
        have hB5 := hB4.alloc hB4.size (.cells #[.int .i64 0, .int .i64 1, .int .i64 1, .int .i64 1, .int .i64 1, .int .i64 1, .int .i64 1, .int .i64 0] 3)
        have ho5 := ho4.below ((Below.refl _ _).alloc (Nat.le_refl _) (.cells #[.int .i64 0, .int .i64 1, .int .i64 1, .int .i64 1, .int .i64 1, .int .i64 1, .int .i64 1, .int .i64 0] 3))
        have hwo5 := hwo4.below ((Below.refl _ _).alloc (Nat.le_refl _) (.cells #[.int .i64 0, .int .i64 1, .int .i64 1, .int .i64 1, .int .i64 1, .int .i64 1, .int .i64 1, .int .i64 0] 3))
        have HWL := Lib.hid hwo5.row_lt
        have hge : ∀ b', (Value.slice A4 E2.length c4).ownBlock = some b' → w.heap.size ≤ b' := fun b' hb' => (own_lt ho5 hb').1
        have HGE := Lib.hid hge
        clear hge
        have hdor : (0 < r.length ∧ decide (0 < r.length) = true) ∨ (¬ 0 < r.length ∧ decide (0 < r.length) = false) := by
          by_cases h0 : 0 < r.length
          · exact .inl ⟨h0, decide_eq_true h0⟩
          · exact .inr ⟨h0, decide_eq_false h0⟩
        have hGe : ∀ b', (Value.slice A2 G.length c2).ownBlock = some b' → w.heap.size ≤ b' := hwo5.row_ge
        have HWG := Lib.hid hGe
        clear hGe
        rcases hdor with ⟨h0, hd0⟩ | ⟨h0, hd0⟩
        · go_wp2_with (first | (go_at_call 15; (with_reducible refine (refFlag_any _).mono ?_); rintro e w' ⟨rfl, rfl⟩) | (at_builtin; refine wp_append_ints (w4.alloc (.cells #[.int .i64 0, .int .i64 1, .int .i64 1, .int .i64 1, .int .i64 1, .int .i64 1, .int .i64 1, .int .i64 0] 3)) rfl (.tmp 37) (.tmp 38) rfl w w.heap.size (.slice A4 E2.length c4) E2 rfl ho5 _ 8 8 flagL rfl (rds_flag w4) (by rw [h8]; omega) hB5.size hB5 ?_; intro A6 c6 w6 ho6 hc5 hc6 hB6 hg6 hk6; have hwo6 := hwo5.far hg6 HS4.out.symm (fun b' hb' e => by have := HGE.out b' e; omega); have hsp6 : Sep (.slice A6 (E2.length + 8) c6) (.slice A2 G.length c2) := (Sep.grown HS4.out.symm HWL.out (Nat.le_refl _) hk6).symm; have hcell6 := (hB6.cell (p := ⟨b, off + k, none⟩) hbl).trans ((hB4.cell (p := ⟨b, off + k, none⟩) hbl).symm.trans hcell4)) | (at_builtin; refine wp_append_row (P := fun b => b < w.heap.size) w6 rfl (.tmp 46) _ rfl w w.heap.size (.slice A2 G.length c2) G rfl hwo6 C cc r rfl (HRD0.out.below hB6) h1 h2' (fun h0 a ha => ⟨HLOW.out h0 a ha, fun e => by have h9 := HWG.out _ e; have h10 := HLOW.out h0 a ha; omega⟩) (by omega) hB6.size hB6 ?_; intro A7 c7 w7 hwo7 hB7 hg7 hk7))
          (have hE6 : (E2 ++ flagL).length = E2.length + 8 := by rw [List.length_append, h8]); (have hl6 : (E2 ++ flagL).length ≤ 8 + 248 * (k + 1) := by rw [hE6]; omega); (have HHE : Hid (E2 ++ flagL = encL (xss.take (k + 1))) := Lib.hid (by rw [HT.out, HEN.out, ← HE.out, HE2.out])); (have HHB : Hid (∀ r' ∈ xss.take (k + 1), Bits r') := Lib.hid (by rw [HT.out]; intro r' hr'; (rcases List.mem_append.1 hr' with h | h); (exact HBT.out r' h); (rw [List.mem_singleton.1 h]; exact HBR.out))); rw [← hE6] at ho6 hc5 hsp6; (have HS6 := Lib.hid hsp6); (have HC6 := Lib.hid hc5); (have HHG : Hid ((if 0 < r.length then G ++ [r] else G) = fullL (xss.take (k + 1))) := Lib.hid (by rw [HT.out, HGN.out, ← HG.out])); (have HL6 := Lib.hid hE6); clear hE6 hsp6 hc5
          rw [if_pos h0] at HHG
          go_roundw
          case rel =>
            refine ⟨k + 1, E2 ++ flagL, [], A6, c6, A7, c7, G ++ [r], by omega, by go_num, by rw [HL6.out], by simp, HHE.out, HHG.out, rfl, ho6.far hg7 HS6.out, HC6.out, hc6, by simpa using hwo7, hl6, by simp; omega, HHB.out, ?_, hB7⟩
            have := Sep.grown HS6.out (fun b' hb' => (own_lt ho6 hb').2) (Nat.le_succ _) hk7
            simpa using this
          case measure => simp [intOf]; omega
        · go_wp2_with (first | (go_at_call 15; (with_reducible refine (refFlag_any _).mono ?_); rintro e w' ⟨rfl, rfl⟩) | (at_builtin; refine wp_append_ints (w4.alloc (.cells #[.int .i64 0, .int .i64 1, .int .i64 1, .int .i64 1, .int .i64 1, .int .i64 1, .int .i64 1, .int .i64 0] 3)) rfl (.tmp 37) (.tmp 38) rfl w w.heap.size (.slice A4 E2.length c4) E2 rfl ho5 _ 8 8 flagL rfl (rds_flag w4) (by rw [h8]; omega) hB5.size hB5 ?_; intro A6 c6 w6 ho6 hc5 hc6 hB6 hg6 hk6; have hwo6 := hwo5.far hg6 HS4.out.symm (fun b' hb' e => by have := HGE.out b' e; omega); have hsp6 : Sep (.slice A6 (E2.length + 8) c6) (.slice A2 G.length c2) := (Sep.grown HS4.out.symm HWL.out (Nat.le_refl _) hk6).symm; have hcell6 := (hB6.cell (p := ⟨b, off + k, none⟩) hbl).trans ((hB4.cell (p := ⟨b, off + k, none⟩) hbl).symm.trans hcell4)))
          (have hE6 : (E2 ++ flagL).length = E2.length + 8 := by rw [List.length_append, h8]); (have hl6 : (E2 ++ flagL).length ≤ 8 + 248 * (k + 1) := by rw [hE6]; omega); (have HHE : Hid (E2 ++ flagL = encL (xss.take (k + 1))) := Lib.hid (by rw [HT.out, HEN.out, ← HE.out, HE2.out])); (have HHB : Hid (∀ r' ∈ xss.take (k + 1), Bits r') := Lib.hid (by rw [HT.out]; intro r' hr'; (rcases List.mem_append.1 hr' with h | h); (exact HBT.out r' h); (rw [List.mem_singleton.1 h]; exact HBR.out))); rw [← hE6] at ho6 hc5 hsp6; (have HS6 := Lib.hid hsp6); (have HC6 := Lib.hid hc5); (have HHG : Hid ((if 0 < r.length then G ++ [r] else G) = fullL (xss.take (k + 1))) := Lib.hid (by rw [HT.out, HGN.out, ← HG.out])); (have HL6 := Lib.hid hE6); clear hE6 hsp6 hc5
          rw [if_neg h0] at HHG
          go_roundw
          case rel => exact ⟨k + 1, E2 ++ flagL, [], A6, c6, A2, c2, G, by omega, by go_num, by rw [HL6.out], rfl, HHE.out, HHG.out, rfl, ho6, HC6.out, hc6, hwo6, hl6, by omega, HHB.out, HS6.out, hB6⟩
          case measure => simp [intOf]; omega
      · have HBE := Lib.hid hbE
        clear hbE
        go_wp2_with fail
        (with_reducible refine (stuff_err _ _ _ r _ _ hrd (Nat.le_trans h1 h2') rfl HBE.out).mono ?_)
        rintro e w' ⟨rfl, rfl⟩
        go_wp2
        go_ret
        exact ⟨rfl, hB⟩
    · obtain rfl : k = xss.length := by omega
      rw [List.take_length] at *
      have hEb : Bits E := by rw [HE.out]; exact bits_encL _ HBT.out
      have hFr : framesL E = G := by rw [HE.out, HG.out]; exact frames_enc _ HBT.out
      have HFR := Lib.hid hFr
      have HEB := Lib.hid hEb
      have hrE := hbo.rds
      have hml : E.length ≤ maxLen := Nat.le_trans hbc1 hbc2
      have HML := Lib.hid hml
      have HBC := Lib.hid hbc1
      have HBC2 := Lib.hid hbc2
      clear hFr hEb hml
      by_cases h200 : E.length ≤ 200
      · have HE0 := Lib.hid (bitsE_ok HEB.out h200)
        go_wp2_with fail
        (with_reducible refine (frames_ok _ _ _ E _ hrE HBC.out HBC2.out HE0.out).mono ?_)
        rw [HFR.out]
        rintro e w2 ⟨A3, c3, rfl, ho3, hb⟩
        have hB2 := below_call hB hb
        have hwo2 := hwo.below hb
        go_wp2_with fail
        (with_reducible refine (rows_any _ _ _ _ _ _ G G _ ho3.rows hwo2.rows (by unfold maxLen; omega)).mono ?_)
        rintro e w3 ⟨rfl, q, rfl⟩
        go_wp2
        go_ret
        exact ⟨by simp, below_drewN hB2 q⟩
      · have HE4 : Hid (bitsE E = 4) := Lib.hid (by unfold bitsE; rw [if_pos (by omega)])
        go_wp2_with fail
        (with_reducible refine (frames_err _ _ _ E _ _ hrE HML.out HE4.out (by decide)).mono ?_)
        rintro e w' ⟨rfl, rfl⟩
        go_wp2
        go_ret
        exact ⟨by simp; omega, hB⟩
end Go.Proofs.Ytbmajajndckfoaa
