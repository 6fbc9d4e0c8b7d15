/- Contracts of package cobs: Write where its bytes are wrong; Read for all arguments. -/
import Derived.Test.YtalehbhimnhnjaaDoorCobs
namespace Go.Proofs.YtalehbhimnhnjaaDoor
open Go.RowKit

theorem write_err (A : Option Addr) (n c : Nat) (xs : List Int) (k : Int) (w : World) (hr : Rds w 1 A n (ic xs)) (hn : n ≤ maxLen) (h : bytesE xs 600 = k) (hk : k ≠ 0) :
    Calls Tryd.prog 19 #[.slice A n c] w fun e w' => e = .returned (.tuple #[.slice none 0 0, .iface 47 (.int .i64 k)]) ∧ w = w' := by
  have HN := Lib.hid hn
  have HE := Lib.hid h
  have HK := Lib.hid hk
  clear hn h hk
  go_enter Tryd.func19, Tryd.ntmps19
  go_wp2_with (go_at_call 38; refine (bytes_err _ _ _ _ _ _ _ hr HN.out HE.out HK.out).mono ?_; rintro e w' ⟨rfl, rfl⟩)
  go_ret2
  exact ⟨rfl, rfl⟩

/-- 's[1:m]'. -/
theorem rds_mid {w : World} {A : Option Addr} {n m c : Nat} {xs : List Int} (h : Rds w 1 A n (ic xs)) (h1 : 1 ≤ m) (hm : m ≤ n) (hc : n ≤ c) :
    Rds w 1 (if c = 1 then A else Option.map (fun x => { block := x.block, off := x.off + 1 }) A) (m - 1) (ic ((xs.drop 1).take (m - 1))) := by
  have hl := h.len_int
  refine ⟨by rw [ic_length, List.length_take, List.length_drop]; omega, fun hp => ?_⟩
  rw [ic_length, List.length_take, List.length_drop] at hp
  obtain ⟨b, off, rfl, hcell⟩ := h.2 (by rw [ic_length]; omega)
  rw [if_neg (by omega)]
  refine ⟨b, off + 1, rfl, fun j hj => ?_⟩
  rw [ic_length, List.length_take, List.length_drop] at hj
  rw [show off + 1 + j = off + (1 + j) from by omega, hcell (1 + j) (by rw [ic_length]; omega), ic_take, List.getElem?_take, if_pos (by omega), ic_drop, List.getElem?_drop]
theorem rds_from {w : World} {A : Option Addr} {n k c : Nat} {xs : List Int} (h : Rds w 1 A n (ic xs)) (hk : k ≤ n) (hc : n ≤ c) :
    Rds w 1 (if c = k then A else Option.map (fun x => x.add k) A) (xs.drop k).length (ic (xs.drop k)) := by
  have h1 := h.drop (k := k) (c := c) (by omega) hc
  rwa [show n - k = (xs.drop k).length from by have := h.len_int; simp; omega] at h1

theorem rds_mid_at {w : World} {b off n m c : Nat} {xs : List Int} (h : Rds w 1 (some ⟨b, off, none⟩) n (ic xs)) (h1 : 1 ≤ m) (hm : m ≤ n) (hc : n ≤ c) :
    Rds w 1 (if c = 1 then some ⟨b, off, none⟩ else some ⟨b, off + 1, none⟩) (m - 1) (ic ((xs.drop 1).take (m - 1))) := rds_mid h h1 hm hc
theorem rds_from_at {w : World} {b off n k c : Nat} {xs : List Int} (h : Rds w 1 (some ⟨b, off, none⟩) n (ic xs)) (hk : k ≤ n) (hc : n ≤ c) :
    Rds w 1 (if c = k then some ⟨b, off, none⟩ else some ⟨b, off + k, none⟩) (xs.drop k).length (ic (xs.drop k)) := by
  have h1 := rds_from h hk hc
  simpa only [Option.map_some, Go.WideShapes.add_plain] using h1

/-- What Read hands back. -/
def ReadPost (W : World) (xs : List Int) (e : Ending) (w' : World) : Prop :=
  (∀ o, readR xs = (0, o) → RetOwn W o .nilIface e w') ∧ (∀ k, (readR xs).1 = k → k ≠ 0 → e = .returned (.tuple #[.slice none 0 0, .iface 47 (.int .i64 k)]) ∧ Below W.heap.size W w')

theorem readPost_err {W : World} {xs : List Int} {k : Int} {w' : World} (h : (readR xs).1 = k) (hk : k ≠ 0) (hB : Below W.heap.size W w') : ReadPost W xs (.returned (.tuple #[.slice none 0 0, .iface 47 (.int .i64 k)])) w' := by
  refine ⟨fun o ho => ?_, fun k' hk' _ => ?_⟩
  · rw [ho] at h; exact absurd h.symm hk
  · rw [h] at hk'; subst hk'; exact ⟨rfl, hB⟩

theorem Rds.empty {w : World} (A : Option Addr) (size : Nat) : Rds w size A 0 [] := ⟨by simp, fun h => absurd h (by simp)⟩
set_option maxHeartbeats 2000000 in
set_option maxRecDepth 100000 in
theorem read_any (A : Option Addr) (n c : Nat) (xs : List Int) (w : World) (hr : Rds w 1 A n (ic xs)) (hn : n ≤ maxLen) (hnc : n ≤ c) :
    Calls Tryd.prog 21 #[.slice A n c] w (ReadPost w xs) := by
  have HL := Lib.hid hr.len_int
  have HN := Lib.hid hn
  have HR := Lib.hid (Own.nil_ w w.heap.size)
  have HB := Lib.hid (Below.refl w.heap.size w)
  clear hn
  by_cases hE : bytesE xs 1200 = 0
  · have hl1200 : n ≤ 1200 := by have := (bytes_of_ok hE).2; rw [HL.out]; omega
    have HBy := Lib.hid (byte_range (bytes_of_ok hE).1)
    have HE := Lib.hid hE
    clear hE
    by_cases h0 : n = 0
    · have hx : xs = [] := List.eq_nil_of_length_eq_zero (by rw [← HL.out]; exact h0)
      have HP := Lib.hid (show (readR xs).1 = 5 from by unfold readR; rw [HE.out, hx]; rfl)
      subst h0
      clear hx
      go_enter Tryd.func21, Tryd.ntmps21
      go_wp2_with (go_at_call 38; refine (bytes_ok _ _ _ _ _ _ hr HN.out HE.out).mono ?_; rintro e w' ⟨rfl, rfl⟩)
      go_ret2
      exact readPost_err HP.out (by decide) HB.out
    · have h0' : ((n : Int) == 0) = false := by rw [beq_eq_false_iff_ne]; omega
      have hx : xs ≠ [] := by rintro rfl; exact h0 HL.out
      have HP := Lib.hid (show readR xs = readM (uncL xs) from by unfold readR; rw [HE.out, if_neg (by simp), if_neg hx])
      clear h0 hx
      obtain rfl : n = xs.length := HL.out
      go_enter Tryd.func21, Tryd.ntmps21
      go_wp2_with (go_at_call 38; refine (bytes_ok _ _ _ _ _ _ hr HN.out HE.out).mono ?_; rintro e w' ⟨rfl, rfl⟩)
      go_loopw [0, 5, 6] (fun rv v _ wr => ∃ (o r : List Int) (A1 A2 : Option Addr) (c1 c2 : Nat), v = .slice A1 o.length c1 ∧ rv = .slice A2 r.length c2 ∧ (uncL r).map (o ++ ·) = uncL xs ∧ (∀ x ∈ r, 0 ≤ x ∧ x ≤ 255) ∧ Own wr w.heap.size (.slice A1 o.length c1) o ∧ o.length ≤ c1 ∧ c1 ≤ maxLen ∧ Rds w 1 A2 r.length (ic r) ∧ r.length ≤ c2 ∧ o.length + r.length ≤ 1200 ∧ Below w.heap.size w wr) (fun rv _ _ _ => lenOf rv)
      case atStart => exact ⟨[], xs, none, A, 0, c, rfl, rfl, by simp, HBy.out, HR.out, by simp, by unfold maxLen; omega, hr, hnc, by simp; omega, HB.out⟩
      case round =>
        obtain ⟨o, r, A1, A2, c1, c2, rfl, rfl, heq, hby, hown, hc1, hc2, hrr, hc3, hlen, hB⟩ := hrel
        have hrr' := hrr.below hB
        match r, heq, hby, hrr, hrr', hc3, hlen with
        | [], heq, _, _, _, _, hlen =>
          have he : uncL xs = some o := by rw [← heq, uncL_nil]; simp
          have HQ := Lib.hid he
          clear he heq
          by_cases h600 : 600 < o.length
          · go_wp2
            go_ret2
            exact readPost_err (by rw [HP.out, HQ.out]; simp [readM, h600]) (by decide) hB
          · go_wp2
            go_ret2
            refine ⟨fun o' ho' => ?_, fun k hk hk0 => ?_⟩
            · rw [HP.out, HQ.out] at ho'
              simp only [readM, h600, if_false] at ho'
              injection ho' with _ ho'
              subst ho'
              exact ⟨A1, c1, rfl, hown, hc1, hc2, hB⟩
            · rw [HP.out, HQ.out] at hk
              simp [readM, h600] at hk
              exact absurd hk.symm hk0
        | z :: t, heq, hby, hrr, hrr', hc3, hlen =>
          have hz := hby z (by simp)
          obtain ⟨m, rfl⟩ := Int.eq_ofNat_of_zero_le hz.1
          obtain ⟨b, off, _, hA2, hcell⟩ := hrr'.int (k := 0) (by simp)
          subst hA2
          simp only [List.getElem_cons_zero, Nat.add_zero, List.length_cons] at hcell hlen hc3
          have hm255 : m ≤ 255 := by omega
          have hu := uncL_cons (m : Int) t
          have hbt : ∀ x ∈ t, 0 ≤ x ∧ x ≤ 255 := fun x hx => hby x (by simp [hx])
          have HBT := Lib.hid hbt
          clear hbt hby hz
          rw [Int.toNat_natCast] at hu
          by_cases hm0 : m = 0
          · subst hm0
            rw [if_pos (by simp)] at hu
            have HQ := Lib.hid (show uncL xs = none from by rw [← heq, hu]; rfl)
            clear heq hu
            go_wp2
            go_ret2
            exact readPost_err (by rw [HP.out, HQ.out]; rfl) (by decide) hB
          · have hmz : ((m : Int) == 0) = false := by rw [beq_eq_false_iff_ne]; omega
            have hmp : 1 ≤ m := by omega
            clear hm0
            by_cases hml : t.length + 1 < m
            · rw [if_pos (by right; left; omega)] at hu
              have HQ := Lib.hid (show uncL xs = none from by rw [← heq, hu]; rfl)
              have hml' : (t.length : Int) + 1 < (m : Int) := by omega
              clear heq hu
              go_wp2
              go_ret2
              exact readPost_err (by rw [HP.out, HQ.out]; rfl) (by decide) hB
            · have hml' : (m : Int) ≤ (t.length : Int) + 1 := by omega
              have hmn : m ≤ t.length + 1 := by omega
              have hmc : m ≤ c2 := by omega
              have hmp' : (1 : Int) ≤ (m : Int) := by omega
              have HML := Lib.hid (show m - 1 ≤ maxLen from by unfold maxLen; omega)
              have hm0' := rds_mid_at hrr' hmp (by simpa using hmn) (by simpa using hc3)
              by_cases hc21 : c2 = 1
              · have hm1 : m = 1 := by omega
                have ht0 : t = [] := List.eq_nil_of_length_eq_zero (by omega)
                subst hc21
                subst hm1
                subst ht0
                rw [if_neg (by simp), show List.drop (1 - 1) ([] : List Int) = [] from rfl, uncL_nil] at hu
                have HQ := Lib.hid (show (uncL []).map ((o ++ []) ++ ·) = uncL xs from by rw [← heq, hu, uncL_nil]; simp)
                rw [if_pos rfl] at hm0'
                have HM' := Lib.hid hm0'
                have HMem := Lib.hid (show decide ((0 : Int) ∈ ((([((1 : Nat) : Int)]).drop 1).take (1 - 1))) = false from by simp)
                clear heq hu hm0' hml
                go_wp2_with (first
                  | (go_at_call 41; refine (contains_any _ _ _ _ _ _ HM'.out HML.out).mono ?_; rintro e w' ⟨rfl, rfl⟩; rw [HMem.out])
                  | (at_builtin; refine wp_append_ints wr rfl (.tmp 37) _ rfl w w.heap.size (.slice A1 o.length c1) o rfl hown _ 0 0 [] rfl HM'.out (by simp; omega) hB.size hB ?_; intro A3 c3 w1 ho1 hc5 hc6 hB1 _ _))
                go_roundw
                case rel => exact ⟨o ++ [], [], A3, _, c3, _, slice_eq (by simp), rfl, HQ.out, by simp, ho1.self, by simpa using hc5, hc6, Rds.empty _ _, by simp, by simp; omega, hB1⟩
                case measure => simp [lenOf]
              · rw [if_neg hc21] at hm0'
                have HM' := Lib.hid hm0'
                clear hm0'
                by_cases hmem : (0 : Int) ∈ t.take (m - 1)
                · rw [if_pos (by right; right; exact hmem)] at hu
                  have HQ := Lib.hid (show uncL xs = none from by rw [← heq, hu]; rfl)
                  have HMem := Lib.hid (show decide ((0 : Int) ∈ ((((m : Int) :: t).drop 1).take (m - 1))) = true from by simpa using hmem)
                  clear heq hu hmem hml
                  go_wp2_with (go_at_call 41; refine (contains_any _ _ _ _ _ _ HM'.out HML.out).mono ?_; rintro e w' ⟨rfl, rfl⟩; rw [HMem.out])
                  go_ret2
                  exact readPost_err (by rw [HP.out, HQ.out]; rfl) (by decide) hB
                · rw [if_neg (by simp only [not_or]; exact ⟨by omega, by omega, hmem⟩)] at hu
                  have HMem := Lib.hid (show decide ((0 : Int) ∈ ((((m : Int) :: t).drop 1).take (m - 1))) = false from by simpa using hmem)
                  have HH := Lib.hid heq
                  have HU := Lib.hid hu
                  have htl : (t.take (m - 1)).length = m - 1 := by rw [List.length_take]; omega
                  clear heq hu hmem hml
                  by_cases hrest : m < t.length + 1
                  · have hF := rds_from_at hrr (k := m) (by simpa using hmn) (by simpa using hc3)
                    rw [if_neg (by omega)] at hF
                    have HF := Lib.hid (show Rds w 1 (some ⟨b, off + m, none⟩) (t.drop (m - 1)).length (ic (t.drop (m - 1))) from by
                      obtain ⟨j, rfl⟩ : ∃ j, m = j + 1 := ⟨m - 1, by omega⟩
                      exact hF)
                    have hne : t.drop (m - 1) ≠ [] := by rw [ne_eq, List.drop_eq_nil_iff]; omega
                    have HNE := Lib.hid hne
                    have hcm : ¬ c2 = m := by omega
                    clear hF hne
                    by_cases hc254 : m ≤ 254
                    · have HQ := Lib.hid (show (uncL (t.drop (m - 1))).map ((o ++ t.take (m - 1) ++ [0]) ++ ·) = uncL xs from by
                        rw [← HH.out, HU.out, if_pos ⟨by omega, HNE.out⟩, Option.map_map]
                        congr 1; funext x; simp)
                      go_wp2_with (first
                        | (go_at_call 41; refine (contains_any _ _ _ _ _ _ HM'.out HML.out).mono ?_; rintro e w' ⟨rfl, rfl⟩; rw [HMem.out])
                        | (at_builtin; refine wp_append_ints wr rfl (.tmp 37) _ rfl w w.heap.size (.slice A1 o.length c1) o rfl hown _ (m - 1) (c2 - 1) (t.take (m - 1)) rfl HM'.out (by simp; omega) hB.size hB ?_; intro A3 c3 w1 ho1 hc5 hc6 hB1 _ _)
                        | (at_builtin; refine wp_append_int w1 rfl (.tmp 52) _ rfl w w.heap.size (.slice A3 (o.length + (m - 1)) c3) (o ++ t.take (m - 1)) (by first | rfl | (simp [htl])) (by simpa [htl] using ho1.self) 0 rfl (by simp; omega) hB1.size hB1 ?_; intro A4 c4 w2 ho2 hc7 hc8 hB2 _ _))
                      go_roundw
                      case rel => exact ⟨o ++ t.take (m - 1) ++ [0], t.drop (m - 1), A4, _, c4, _, slice_eq (by first | (simp [htl]; done) | (simp [htl]; omega)), slice_eq (by simp; omega), HQ.out, fun x hx => HBT.out x (List.mem_of_mem_drop hx), ho2.self, by simp [htl] at hc7 ⊢; omega, hc8, HF.out, by simp; omega, by simp; omega, hB2⟩
                      case measure => simp [lenOf]; omega
                    · have hcd : decide ((m : Int) ≤ 254) = false := decide_eq_false (by omega)
                      have HQ := Lib.hid (show (uncL (t.drop (m - 1))).map ((o ++ t.take (m - 1)) ++ ·) = uncL xs from by
                        rw [← HH.out, HU.out, if_neg (by omega), Option.map_map]
                        congr 1; funext x; simp)
                      go_wp2_with (first
                        | (go_at_call 41; refine (contains_any _ _ _ _ _ _ HM'.out HML.out).mono ?_; rintro e w' ⟨rfl, rfl⟩; rw [HMem.out])
                        | (at_builtin; refine wp_append_ints wr rfl (.tmp 37) _ rfl w w.heap.size (.slice A1 o.length c1) o rfl hown _ (m - 1) (c2 - 1) (t.take (m - 1)) rfl HM'.out (by simp; omega) hB.size hB ?_; intro A3 c3 w1 ho1 hc5 hc6 hB1 _ _))
                      go_roundw
                      case rel => exact ⟨o ++ t.take (m - 1), t.drop (m - 1), A3, _, c3, _, slice_eq (by first | (simp [htl]; done) | (simp [htl]; omega)), slice_eq (by simp; omega), HQ.out, fun x hx => HBT.out x (List.mem_of_mem_drop hx), ho1.self, by simp [htl] at hc5 ⊢; omega, hc6, HF.out, by simp; omega, by simp; omega, hB1⟩
                      case measure => simp [lenOf]; omega
                  · obtain rfl : m = t.length + 1 := by omega
                    have HQ := Lib.hid (show (uncL []).map ((o ++ t) ++ ·) = uncL xs from by
                      rw [← HH.out, HU.out]
                      simp [uncL_nil])
                    have hmz2 : ((t.length : Int) + 1 == 0) = false := by rw [beq_eq_false_iff_ne]; omega
                    have HM2 : Hid (Rds wr 1 (some ⟨b, off + 1, none⟩) t.length (ic t)) := Lib.hid (by have := HM'.out; simpa using this)
                    have HML2 : Hid (t.length ≤ maxLen) := Lib.hid (by unfold maxLen; omega)
                    have HMem2 : Hid (decide ((0 : Int) ∈ t) = false) := Lib.hid (by have := HMem.out; simpa using this)
                    by_cases hc254 : t.length + 1 ≤ 254
                    all_goals
                      go_wp2_with (first
                        | (go_at_call 41; refine (contains_any _ _ _ _ _ _ HM2.out HML2.out).mono ?_; rintro e w' ⟨rfl, rfl⟩; rw [HMem2.out])
                        | (at_builtin; refine wp_append_ints wr rfl (.tmp 37) _ rfl w w.heap.size (.slice A1 o.length c1) o rfl hown _ t.length _ t rfl HM2.out (by omega) hB.size hB ?_; intro A3 c3 w1 ho1 hc5 hc6 hB1 _ _))
                      go_roundw
                      case rel => exact ⟨o ++ t, [], A3, _, c3, _, slice_eq (by simp), rfl, HQ.out, by simp, ho1.self, by simpa using hc5, hc6, Rds.empty _ _, by simp, by simp; omega, hB1⟩
                      case measure => simp [lenOf]
  · have HE := Lib.hid hE
    have HP := Lib.hid (show (readR xs).1 = bytesE xs 1200 from by unfold readR; rw [if_pos hE])
    clear hE
    go_enter Tryd.func21, Tryd.ntmps21
    go_wp2_with (go_at_call 38; refine (bytes_err _ _ _ _ _ _ _ hr HN.out rfl HE.out).mono ?_; rintro e w' ⟨rfl, rfl⟩)
    go_ret2
    exact readPost_err HP.out HE.out HB.out
end Go.Proofs.YtalehbhimnhnjaaDoor
