/- Contracts of package cobs: Write and Read. -/
import Derived.Test.YtalehbhimnhnjaaDoorCobsPlain
import Derived.Deep.RegionLaw
namespace Go.Proofs.YtalehbhimnhnjaaDoor
open Go.RowKit

/-- 's = s[k:]; s = s[1:]', as the walk spells the address. -/
theorem rds_drop_next {w : World} {A : Option Addr} {n k c : Nat} {xs : List Int} (h : Rds w 1 A n (ic xs)) (hk : k < n) (hc : n ≤ c) :
    Rds w 1 (if c - k = 1 then Option.map (fun x => x.add k) A else Option.map ((fun x => { block := x.block, off := x.off + 1 }) ∘ fun x => x.add k) A) (xs.drop (k + 1)).length (ic (xs.drop (k + 1))) := by
  have hl := h.len_int
  refine ⟨by rw [ic_length]; omega, fun hp => ?_⟩
  rw [ic_length, List.length_drop] at hp
  obtain ⟨b, off, rfl, hcell⟩ := h.2 (by rw [ic_length]; omega)
  rw [if_neg (by omega)]
  refine ⟨b, off + k + 1, by simp [Go.WideShapes.add_plain], fun j hj => ?_⟩
  rw [ic_length, List.length_drop] at hj
  rw [show off + k + 1 + j = off + (k + 1 + j) from by omega, hcell (k + 1 + j) (by rw [ic_length]; omega), ic_drop, List.getElem?_drop]
/-- 's = s[254:]'. -/
theorem rds_drop_254 {w : World} {A : Option Addr} {n : Nat} {xs : List Int} (h : Rds w 1 A n (ic xs)) (hk : 254 < n) :
    Rds w 1 (Option.map (fun x => { block := x.block, off := x.off + 254 }) A) (xs.drop 254).length (ic (xs.drop 254)) := by
  have hl := h.len_int
  refine ⟨by rw [ic_length]; omega, fun hp => ?_⟩
  rw [ic_length, List.length_drop] at hp
  obtain ⟨b, off, rfl, hcell⟩ := h.2 (by rw [ic_length]; omega)
  refine ⟨b, off + 254, rfl, fun j hj => ?_⟩
  rw [ic_length, List.length_drop] at hj
  rw [show off + 254 + j = off + (254 + j) from by omega, hcell (254 + j) (by rw [ic_length]; omega), ic_drop, List.getElem?_drop]
def lenOf : Value → Nat
  | .slice _ n _ => n
  | _ => 0

set_option maxHeartbeats 2000000 in
set_option maxRecDepth 100000 in
theorem write_ok (A : Option Addr) (n c : Nat) (xs : List Int) (w : World) (hr : Rds w 1 A n (ic xs)) (hn : n ≤ maxLen) (hnc : n ≤ c) (h : bytesE xs 600 = 0) :
    Calls Tryd.prog 19 #[.slice A n c] w (RetOwn w (cobsL xs) .nilIface) := by
  have HL := Lib.hid hr.len_int
  have HE := Lib.hid h
  have hl600 : n ≤ 600 := by have := (bytes_of_ok h).2; rw [HL.out]; omega
  have HN := Lib.hid hn
  clear h hn
  have HR := Lib.hid (Own.nil_ w w.heap.size)
  have HB := Lib.hid (Below.refl w.heap.size w)
  obtain rfl : n = xs.length := HL.out
  go_enter Tryd.func19, Tryd.ntmps19
  go_wp2_with (go_at_call 38; refine (bytes_ok _ _ _ _ _ _ hr HN.out HE.out).mono ?_; rintro e w' ⟨rfl, rfl⟩)
  go_loopw [5, 6, 7] (fun v rv _ wr => ∃ (o r : List Int) (A1 A2 : Option Addr) (c1 c2 : Nat), v = .slice A1 o.length c1 ∧ rv = .slice A2 r.length c2 ∧ o ++ cobsL r = cobsL xs ∧ Own wr w.heap.size (.slice A1 o.length c1) o ∧ o.length ≤ c1 ∧ c1 ≤ maxLen ∧ Rds w 1 A2 r.length (ic r) ∧ r.length ≤ c2 ∧ o.length + 2 * r.length ≤ 1200 ∧ Below w.heap.size w wr) (fun _ rv _ _ => lenOf rv)
  case atStart => exact ⟨[], xs, none, A, 0, c, rfl, rfl, rfl, HR.out, by simp, by unfold maxLen; omega, hr, hnc, by simp; omega, HB.out⟩
  case round =>
    obtain ⟨o, r, A1, A2, c1, c2, rfl, rfl, heq, hown, hc1, hc2, hrr, hc3, hlen, hB⟩ := hrel
    have HQ := Lib.hid heq
    have hrn : r.length ≤ maxLen := by unfold maxLen; omega
    have HRN := Lib.hid hrn
    clear heq hrn
    by_cases hi : idx 0 r < r.length
    · by_cases h254 : idx 0 r < 254
      · have hN : Hid (cobsN r = idx 0 r) := Lib.hid (by unfold cobsN; omega)
        have HI := Lib.hid (show idxI 0 r = (idx 0 r : Int) from by unfold idxI; rw [if_pos hi])
        generalize idx 0 r = k at *
        have hrr' := hrr.below hB
        go_wp2_with (go_at_call 37; refine (index_any _ _ _ _ _ _ hrr' HRN.out).mono ?_; rintro e w' ⟨rfl, rfl⟩; rw [HI.out])
        have hwr : IntKind.i64.wrap ((k : Int) + 1) = (k : Int) + 1 := IntWalk.i64_in _ (by omega)
        have hkc : k ≤ c2 := by omega
        go_region_law (first | (refine step_append_ints _ rfl (.tmp 22) (.tmp 25) rfl w w.heap.size (.slice A1 o.length c1) o rfl (own_below hown (((Below.refl _ _).alloc (Nat.le_refl _) _).drew)) (some ⟨wr.heap.size, 0, none⟩) 1 1 [(k : Int) + 1] rfl (Rds.drew (rds_one wr _ _)) (by simp; omega) (by have := hB.size; simp; omega) ((hB.alloc hB.size _).drew) ?_; intro A3 c3 w1 ho1 hc5 hc6 hB1 _ _) | (refine step_append_ints _ rfl (.tmp 26) (.tmp 29) rfl w w.heap.size (.slice A3 (o.length + 1) c3) (o ++ [(k : Int) + 1]) rfl ho1 A2 k c2 (r.take k) rfl ((hrr.below hB1).take (by omega)) (by simp; omega) hB1.size hB1 ?_; intro A4 c4 w2 ho2 hc7 hc8 hB2 _ _))
        all_goals clear hwr
        all_goals go_wp2
        all_goals go_roundw
        case rel =>
          have h1 := HQ.out
          rw [cobsL_short r (by rw [hN.out]; exact hi) (by rw [hN.out]; exact h254), hN.out] at h1
          refine ⟨o ++ [(k : Int) + 1] ++ r.take k, r.drop (k + 1), A4, _, c4, _, slice_eq (by simp; omega), slice_eq (by simp; omega), ?_, ?_, ?_, hc8, ?_, ?_, ?_, hB2⟩
          · rw [← h1]; simp
          · exact ho2.self
          · simp at hc7 ⊢; omega
          · exact rds_drop_next hrr hi hc3
          · simp; omega
          · simp; omega
        case measure => simp [lenOf]; omega
      · have HI := Lib.hid (show idxI 0 r = (idx 0 r : Int) from by unfold idxI; rw [if_pos hi])
        have hN : cobsN r = 254 := by unfold cobsN; omega
        have HQF := Lib.hid (show o ++ (255 :: r.take 254 ++ cobsL (r.drop 254)) = cobsL xs from by rw [← HQ.out, cobsL_full r (by omega) hN])
        have hrr' := hrr.below hB
        have hkc : 254 ≤ c2 := by omega
        have hkl : 254 < r.length := by omega
        have h254' : 254 ≤ idx 0 r := by omega
        have hkc' : (254 : Int) ≤ (c2 : Int) := by omega
        generalize idx 0 r = k at *
        clear hN h254
        by_cases hk : k = 254
        · subst hk
          go_wp2_with (go_at_call 37; refine (index_any _ _ _ _ _ _ hrr' HRN.out).mono ?_; rintro e w' ⟨rfl, rfl⟩; rw [HI.out]); go_region_law (first | (refine step_append_ints _ rfl (.tmp 22) (.tmp 25) rfl w w.heap.size (.slice A1 o.length c1) o rfl (own_below hown (((Below.refl _ _).alloc (Nat.le_refl _) _).drew)) (some ⟨wr.heap.size, 0, none⟩) 1 1 [255] rfl (Rds.drew (rds_one wr _ _)) (by simp; omega) (by have := hB.size; simp; omega) ((hB.alloc hB.size _).drew) ?_; intro A3 c3 w1 ho1 hc5 hc6 hB1 _ _) | (refine step_append_ints _ rfl (.tmp 26) (.tmp 29) rfl w w.heap.size (.slice A3 (o.length + 1) c3) (o ++ [255]) rfl ho1 A2 254 c2 (r.take 254) rfl ((hrr.below hB1).take (by omega)) (by simp; omega) hB1.size hB1 ?_; intro A4 c4 w2 ho2 hc7 hc8 hB2 _ _)); all_goals go_wp2; all_goals go_roundw; case rel => refine ⟨o ++ [255] ++ r.take 254, r.drop 254, A4, _, c4, _, slice_eq (by simp; omega), slice_eq (by simp), by rw [← HQF.out]; simp, ho2.self, by simp at hc7 ⊢; omega, hc8, rds_drop_254 hrr hkl, by simp; omega, by simp; omega, hB2⟩
          case measure => simp [lenOf]; omega
        · have hk' : 254 < k := by omega
          clear hk
          go_wp2_with (go_at_call 37; refine (index_any _ _ _ _ _ _ hrr' HRN.out).mono ?_; rintro e w' ⟨rfl, rfl⟩; rw [HI.out]); go_region_law (first | (refine step_append_ints _ rfl (.tmp 22) (.tmp 25) rfl w w.heap.size (.slice A1 o.length c1) o rfl (own_below hown (((Below.refl _ _).alloc (Nat.le_refl _) _).drew)) (some ⟨wr.heap.size, 0, none⟩) 1 1 [255] rfl (Rds.drew (rds_one wr _ _)) (by simp; omega) (by have := hB.size; simp; omega) ((hB.alloc hB.size _).drew) ?_; intro A3 c3 w1 ho1 hc5 hc6 hB1 _ _) | (refine step_append_ints _ rfl (.tmp 26) (.tmp 29) rfl w w.heap.size (.slice A3 (o.length + 1) c3) (o ++ [255]) rfl ho1 A2 254 c2 (r.take 254) rfl ((hrr.below hB1).take (by omega)) (by simp; omega) hB1.size hB1 ?_; intro A4 c4 w2 ho2 hc7 hc8 hB2 _ _)); all_goals go_wp2; all_goals go_roundw; case rel => refine ⟨o ++ [255] ++ r.take 254, r.drop 254, A4, _, c4, _, slice_eq (by simp; omega), slice_eq (by simp), by rw [← HQF.out]; simp, ho2.self, by simp at hc7 ⊢; omega, hc8, rds_drop_254 hrr hkl, by simp; omega, by simp; omega, hB2⟩
          case measure => simp [lenOf]; omega
    · have HI := Lib.hid (show idxI 0 r = -1 from by unfold idxI; rw [if_neg hi])
      have hie : idx 0 r = r.length := by have := idx_le 0 r; omega
      have hrr' := hrr.below hB
      by_cases hkl : 254 < r.length
      · have hN : cobsN r = 254 := by unfold cobsN; omega
        have HQF := Lib.hid (show o ++ (255 :: r.take 254 ++ cobsL (r.drop 254)) = cobsL xs from by rw [← HQ.out, cobsL_full r (by omega) hN])
        have hkc : 254 ≤ c2 := by omega
        have hkc' : (254 : Int) ≤ (c2 : Int) := by omega
        clear hN hie hi
        go_wp2_with (go_at_call 37; refine (index_any _ _ _ _ _ _ hrr' HRN.out).mono ?_; rintro e w' ⟨rfl, rfl⟩; rw [HI.out]); go_region_law (first | (refine step_append_ints _ rfl (.tmp 22) (.tmp 25) rfl w w.heap.size (.slice A1 o.length c1) o rfl (own_below hown (((Below.refl _ _).alloc (Nat.le_refl _) _).drew)) (some ⟨wr.heap.size, 0, none⟩) 1 1 [255] rfl (Rds.drew (rds_one wr _ _)) (by simp; omega) (by have := hB.size; simp; omega) ((hB.alloc hB.size _).drew) ?_; intro A3 c3 w1 ho1 hc5 hc6 hB1 _ _) | (refine step_append_ints _ rfl (.tmp 26) (.tmp 29) rfl w w.heap.size (.slice A3 (o.length + 1) c3) (o ++ [255]) rfl ho1 A2 254 c2 (r.take 254) rfl ((hrr.below hB1).take (by omega)) (by simp; omega) hB1.size hB1 ?_; intro A4 c4 w2 ho2 hc7 hc8 hB2 _ _)); all_goals go_wp2; all_goals go_roundw; case rel => refine ⟨o ++ [255] ++ r.take 254, r.drop 254, A4, _, c4, _, slice_eq (by simp; omega), slice_eq (by simp), by rw [← HQF.out]; simp, ho2.self, by simp at hc7 ⊢; omega, hc8, rds_drop_254 hrr hkl, by simp; omega, by simp; omega, hB2⟩
        case measure => simp [lenOf]; omega
      · have HQF := Lib.hid (show o ++ (((r.length : Int) + 1) :: r) = cobsL xs from by rw [← HQ.out, cobsL_last r (by unfold cobsN; omega)])
        have hwr : IntKind.i64.wrap ((r.length : Int) + 1) = (r.length : Int) + 1 := IntWalk.i64_in _ (by omega)
        clear hie hi
        go_wp2_with (go_at_call 37; refine (index_any _ _ _ _ _ _ hrr' HRN.out).mono ?_; rintro e w' ⟨rfl, rfl⟩; rw [HI.out])
        go_region_law (first | (refine step_append_ints _ rfl (.tmp 22) (.tmp 25) rfl w w.heap.size (.slice A1 o.length c1) o rfl (own_below hown (((Below.refl _ _).alloc (Nat.le_refl _) _).drew)) (some ⟨wr.heap.size, 0, none⟩) 1 1 [(r.length : Int) + 1] rfl (Rds.drew (rds_one wr _ _)) (by simp; omega) (by have := hB.size; simp; omega) ((hB.alloc hB.size _).drew) ?_; intro A3 c3 w1 ho1 hc5 hc6 hB1 _ _) | (refine step_append_ints _ rfl (.tmp 26) (.tmp 29) rfl w w.heap.size (.slice A3 (o.length + 1) c3) (o ++ [(r.length : Int) + 1]) rfl ho1 A2 r.length c2 (r.take r.length) rfl ((hrr.below hB1).take (by omega)) (by simp; omega) hB1.size hB1 ?_; intro A4 c4 w2 ho2 hc7 hc8 hB2 _ _))
        all_goals go_wp2
        all_goals go_ret2
        all_goals rw [RetOwn, ← HQF.out, show o ++ (((r.length : Int) + 1) :: r) = o ++ [(r.length : Int) + 1] ++ r.take r.length from by simp]
        all_goals exact ⟨A4, c4, ret_slice2 (by simp; omega), ho2.self, by simp at hc7 ⊢; omega, hc8, hB2⟩
end Go.Proofs.YtalehbhimnhnjaaDoor
