/- The document's Cobs and Uncobs: for all bytes they give what the program gives. -/
import Derived.Test.YtalehbhimnhnjaaDoorCobsRead
import Derived.Test.YtalehbhimnhnjaaDoorRefBytes
import Derived.Test.YtalehbhimnhnjaaDoorLawHelp
namespace Go.Proofs.YtalehbhimnhnjaaDoor
open Go.RowKit

/-! ### Uncobs -/
def UncPost (W : World) (xs : List Int) (e : Ending) (w' : World) : Prop :=
  (∀ o, readR xs = (0, o) → RetOwn W o (.int .i64 0) e w') ∧ (∀ k, (readR xs).1 = k → k ≠ 0 → e = .returned (.tuple #[.slice none 0 0, .int .i64 k]) ∧ Below W.heap.size W w')
theorem uncPost_err {W : World} {xs : List Int} {k : Int} {w' : World} (h : (readR xs).1 = k) (hk : k ≠ 0) (hB : Below W.heap.size W w') : UncPost W xs (.returned (.tuple #[.slice none 0 0, .int .i64 k])) w' := by
  refine ⟨fun o ho => ?_, fun k' hk' _ => ?_⟩
  · rw [ho] at h; exact absurd h.symm hk
  · rw [h] at hk'; subst hk'; exact ⟨rfl, hB⟩

set_option maxRecDepth 100000 in
set_option maxHeartbeats 4000000 in
theorem uncobs_any (A : Option Addr) (n c : Nat) (xs : List Int) (w : World) (hr : Rds w 1 A n (ic xs)) (hn : n ≤ maxLen) :
    Calls Tryd.prog 30 #[.slice A n c] w (UncPost w xs) := by
  have HL := Lib.hid hr.len_int
  have HN := Lib.hid hn
  have HB := Lib.hid (Below.refl w.heap.size w)
  clear hn
  by_cases hE : bytesE xs 1200 = 0
  · have hl1200 : n ≤ 1200 := by have := (bytes_of_ok hE).2; rw [HL.out]; omega
    have HBy := Lib.hid (byte_range (bytes_of_ok hE).1)
    have HE := Lib.hid hE
    clear hE
    by_cases h0 : n = 0
    · have hx : xs = [] := List.eq_nil_of_length_eq_zero (by rw [← HL.out]; exact h0)
      have HP := Lib.hid (show (readR xs).1 = 5 from by unfold readR; rw [HE.out, hx]; rfl)
      subst h0
      clear hx
      go_enter Tryd.func30, Tryd.ntmps30
      go_wp2_with (go_at_call 23; refine (refBytes_any _ _ _ _ _ _ hr HN.out).mono ?_; rintro e w' ⟨rfl, rfl⟩; rw [HE.out])
      go_ret2
      exact uncPost_err HP.out (by decide) HB.out
    · have h0' : ((n : Int) == 0) = false := by rw [beq_eq_false_iff_ne]; omega
      have hx : xs ≠ [] := by rintro rfl; exact h0 HL.out
      have HP := Lib.hid (show readR xs = readM (uncL xs) from by unfold readR; rw [HE.out, if_neg (by simp), if_neg hx])
      clear h0 hx
      obtain rfl : n = xs.length := HL.out
      go_enter Tryd.func30, Tryd.ntmps30
      go_wp2_with (go_at_call 23; refine (refBytes_any _ _ _ _ _ _ hr HN.out).mono ?_; rintro e w' ⟨rfl, rfl⟩; rw [HE.out])
      go_loopw [5, 6, 7, 8] (fun v a _ _ wr => ∃ (o : List Int) (f : Nat) (A1 : Option Addr) (c1 : Nat), v = .slice A1 o.length c1 ∧ a = .int .i64 f ∧ f ≤ xs.length ∧ (uncL (xs.drop f)).map (o ++ ·) = uncL xs ∧ Own wr w.heap.size (.slice A1 o.length c1) o ∧ o.length ≤ c1 ∧ c1 ≤ maxLen ∧ o.length ≤ f ∧ Below w.heap.size w wr) (fun _ a _ _ _ => xs.length - (intOf a).toNat)
      case atStart => exact ⟨[], 0, none, 0, rfl, rfl, by omega, by simp, Own.nil_ _ _, by simp, by unfold maxLen; omega, by simp, HB.out⟩
      case round =>
        obtain ⟨o, f, A1, c1, rfl, rfl, hf, heq, hown, hc1, hc2, hof, hB⟩ := hrel
        have hrr := hr.below hB
        by_cases hlt : f < xs.length
        · have hd := List.drop_eq_getElem_cons hlt
          obtain ⟨b, off, _, rfl, hcell⟩ := hrr.int hlt
          have hz := HBy.out _ (List.getElem_mem hlt)
          have htl : (xs.drop (f + 1)).length = xs.length - (f + 1) := by simp
          generalize hx0 : xs[f] = x at *
          obtain ⟨m, rfl⟩ := Int.eq_ofNat_of_zero_le hz.1
          have hm255 : m ≤ 255 := by omega
          rw [hd, uncL_cons, Int.toNat_natCast] at heq
          have HT := Lib.hid (show xs.drop (f + 1) = xs.drop (f + 1) from rfl)
          generalize ht : xs.drop (f + 1) = t at *
          have HTT := Lib.hid ht
          have HTL := Lib.hid htl
          clear hd hz HT ht htl hx0
          by_cases hm0 : m = 0
          · subst hm0
            rw [if_pos (by simp)] at heq
            have HQ := Lib.hid (show uncL xs = none from by rw [← heq]; rfl)
            clear heq
            go_wp2
            go_ret2
            exact uncPost_err (by rw [HP.out, HQ.out]; rfl) (by decide) hB
          · have hmz : ((m : Int) == 0) = false := by rw [beq_eq_false_iff_ne]; omega
            have hmp : 1 ≤ m := by omega
            clear hm0
            by_cases hml : xs.length < f + m
            · rw [if_pos (by right; left; have := HTL.out; omega)] at heq
              have HQ := Lib.hid (show uncL xs = none from by rw [← heq]; rfl)
              have hml' : (xs.length : Int) < (f : Int) + (m : Int) := by omega
              clear heq hml
              go_wp2
              go_ret2
              exact uncPost_err (by rw [HP.out, HQ.out]; rfl) (by decide) hB
            · have hmn : f + m ≤ xs.length := by omega
              have hml' : (f : Int) + (m : Int) ≤ (xs.length : Int) := by omega
              have HEQ := Lib.hid heq
              have HOWN := Lib.hid hown
              clear heq hml
              go_wp2_with fail
              obtain ⟨wo, rfl⟩ : ∃ wo : World, wo = wr := ⟨_, rfl⟩
              go_loopw [5, 8] (fun v i wr => ∃ (j g : Nat) (A2 : Option Addr) (c2 : Nat), j + 1 ≤ m ∧ g = f + 1 + j ∧ i = .int .i64 g ∧ v = .slice A2 (o.length + j) c2 ∧ (0 : Int) ∉ t.take j ∧ Own wr w.heap.size (.slice A2 (o.length + j) c2) (o ++ t.take j) ∧ o.length + j ≤ c2 ∧ c2 ≤ maxLen ∧ Below w.heap.size w wr) (fun _ i _ => (f + m) - (intOf i).toNat)
              case atStart => exact ⟨0, f + 1, A1, c1, by omega, by omega, by go_num, rfl, by simp, by simpa using HOWN.out, hc1, hc2, hB⟩
              case round =>
                obtain ⟨j, g, A2, c2, hj, hg, rfl, rfl, hnz, hown, hc3, hc4, hB⟩ := hrel
                have hrr := hr.below hB
                have HG := Lib.hid hg
                by_cases hjm : j + 1 < m
                · have hgl : g < xs.length := by omega
                  obtain ⟨b2, off2, _, hA, hcell2⟩ := hrr.int hgl
                  obtain ⟨rfl, rfl⟩ : b = b2 ∧ off = off2 := by simpa using hA
                  have htj : t[j]? = some xs[g] := by rw [← HTT.out, List.getElem?_drop, ← hg, List.getElem?_eq_getElem hgl]
                  have hjt : j < t.length := (List.getElem?_eq_some_iff.1 htj).1
                  rw [List.getElem?_eq_getElem hjt] at htj
                  have HTJ := Lib.hid (Option.some.inj htj)
                  generalize xs[g] = y at *
                  have hgm : (g : Int) < (f : Int) + (m : Int) := by omega
                  have HNZ := Lib.hid hnz
                  clear hA htj hnz hg
                  by_cases hy : y = 0
                  · subst hy
                    have HQ := Lib.hid (show uncL xs = none from by
                      rw [← HEQ.out, if_pos]
                      · rfl
                      · right; right
                        have h1 : t[j] ∈ t.take (m - 1) := by
                          rw [List.mem_take_iff_getElem]
                          exact ⟨j, by omega, rfl⟩
                        rwa [HTJ.out] at h1)
                    go_wp2
                    go_ret2
                    exact uncPost_err (by rw [HP.out, HQ.out]; rfl) (by decide) hB
                  · have hy0 : (y == 0) = false := by rw [beq_eq_false_iff_ne]; exact hy
                    have HY := Lib.hid hy
                    have HTS : Hid (t.take (j + 1) = t.take j ++ [y]) := Lib.hid (by rw [List.take_succ_eq_append_getElem hjt, HTJ.out])
                    have HTK : Hid ((o ++ t.take j).length = o.length + j) := Lib.hid (by rw [List.length_append, List.length_take]; omega)
                    clear hy
                    go_wp2_with (at_builtin; refine wp_append_int wr rfl (.tmp 49) _ rfl w w.heap.size (.slice A2 (o.length + j) c2) (o ++ t.take j) rfl hown y rfl (by have := HTK.out; omega) hB.size hB ?_; intro A3 c3 w3 ho3 hc5 hc6 hB3 _ _)
                    go_roundw
                    case rel => exact ⟨j + 1, g + 1, A3, c3, by omega, by have := HG.out; omega, by go_num, slice_eq (by have := HTK.out; omega), by rw [HTS.out, List.mem_append, List.mem_singleton]; exact fun h => h.elim HNZ.out (fun e => HY.out e.symm), by have := HTK.out; rw [HTS.out, ← List.append_assoc, ← Nat.add_assoc, ← this]; exact ho3, by have := HTK.out; omega, hc6, hB3⟩
                    case measure => simp [intOf]; omega
                · obtain rfl : m = j + 1 := by omega
                  have HNZ := Lib.hid hnz
                  have hgm : ¬ (g : Int) < (f : Int) + ((j + 1 : Nat) : Int) := by omega
                  have HTK : Hid ((o ++ t.take j).length = o.length + j) := Lib.hid (by rw [List.length_append, List.length_take]; have := HTL.out; omega)
                  have hdr : t.drop j = xs.drop (f + (j + 1)) := by rw [← HTT.out, List.drop_drop]; congr 1; omega
                  have hq := HEQ.out
                  rw [if_neg (by simp only [not_or]; exact ⟨by omega, by have := HTL.out; omega, by simpa using hnz⟩), Nat.add_sub_cancel, hdr] at hq
                  have HQ := Lib.hid hq
                  have hfl : f + (j + 1) ≤ xs.length := hmn
                  obtain ⟨q, hq0⟩ : ∃ q, q = f + (j + 1) := ⟨_, rfl⟩
                  have HQ0 := Lib.hid hq0
                  have hsum : (f : Int) + ((j : Int) + 1) = (q : Int) := by omega
                  rw [← hq0] at hfl
                  clear hq hq0 hnz hdr hg
                  by_cases h255 : j + 1 < 255
                  · by_cases hrest : q < xs.length
                    · have hne : xs.drop q ≠ [] := by rw [ne_eq, List.drop_eq_nil_iff]; omega
                      have HR := Lib.hid (show (uncL (xs.drop q)).map ((o ++ t.take j ++ [0]) ++ ·) = uncL xs from by
                        rw [← HQ.out, ← HQ0.out, if_pos ⟨by omega, hne⟩, Option.map_map]
                        congr 1; funext x; simp)
                      clear hne
                      go_wp2_with (at_builtin; refine wp_append_int wr rfl (.tmp 67) _ rfl w w.heap.size (.slice A2 (o.length + j) c2) (o ++ t.take j) rfl hown 0 rfl (by have := HTK.out; omega) hB.size hB ?_; intro A3 c3 w3 ho3 hc5 hc6 hB3 _ _)

                      go_roundw
                      case rel => exact ⟨o ++ t.take j ++ [0], q, A3, c3, slice_eq (by simp; omega), rfl, hfl, HR.out, ho3.self, by simp at hc5 ⊢; omega, hc6, by have := HTK.out; have := HQ0.out; simp; omega, hB3⟩
                      case measure => have := HQ0.out; simp [intOf]; omega
                    · have hrest' : ¬ (q : Int) < (xs.length : Int) := by omega
                      have HR := Lib.hid (show (uncL (xs.drop q)).map ((o ++ t.take j) ++ ·) = uncL xs from by
                        rw [← HQ.out, ← HQ0.out, if_neg (fun h => h.2 (List.drop_eq_nil_of_le (by omega))), Option.map_map]
                        congr 1; funext x; simp)
                      go_wp2
                      go_roundw
                      case rel => exact ⟨o ++ t.take j, q, A2, c2, slice_eq (by rw [HTK.out]), rfl, hfl, HR.out, hown.self, by rw [HTK.out]; exact hc3, hc4, by have := HTK.out; have := HQ0.out; omega, hB⟩
                      case measure => have := HQ0.out; simp [intOf]; omega
                  · have h255' : ¬ ((j : Int) + 1) < 255 := by omega
                    have HR := Lib.hid (show (uncL (xs.drop q)).map ((o ++ t.take j) ++ ·) = uncL xs from by
                      rw [← HQ.out, ← HQ0.out, if_neg (by omega), Option.map_map]
                      congr 1; funext x; simp)
                    go_wp2
                    go_roundw
                    case rel => exact ⟨o ++ t.take j, q, A2, c2, slice_eq (by rw [HTK.out]), rfl, hfl, HR.out, hown.self, by rw [HTK.out]; exact hc3, hc4, by have := HTK.out; have := HQ0.out; omega, hB⟩
                    case measure => have := HQ0.out; simp [intOf]; omega
        · obtain rfl : f = xs.length := by omega
          rw [List.drop_length, uncL_nil] at heq
          have HQ := Lib.hid (show uncL xs = some o from by rw [← heq]; simp)
          clear heq
          by_cases h600 : 600 < o.length
          · go_wp2
            go_ret2
            exact uncPost_err (by rw [HP.out, HQ.out]; simp [readM, h600]) (by decide) hB
          · go_wp2
            go_ret2
            refine ⟨fun o' ho' => ?_, fun k hk hk0 => ?_⟩
            · rw [HP.out, HQ.out] at ho'
              simp only [readM, h600, if_false] at ho'
              injection ho' with _ ho'
              subst ho'
              exact ⟨A1, c1, rfl, hown, hc1, hc2, hB⟩
            · rw [HP.out, HQ.out] at hk
              simp [readM, h600] at hk
              exact absurd hk.symm hk0
  · have HE := Lib.hid hE
    have HP := Lib.hid (show (readR xs).1 = bytesE xs 1200 from by unfold readR; rw [if_pos hE])
    obtain ⟨k, hk⟩ : ∃ k, bytesE xs 1200 = k := ⟨_, rfl⟩
    have HK := Lib.hid hk
    rw [hk] at hE
    have hk0 : (k != 0) = true := by rw [bne_iff_ne]; exact hE
    have HK0 := Lib.hid hE
    clear hE hk
    go_enter Tryd.func30, Tryd.ntmps30
    go_wp2_with (go_at_call 23; refine (refBytes_any _ _ _ _ _ _ hr HN.out).mono ?_; rintro e w' ⟨rfl, rfl⟩; rw [HK.out])
    go_ret2
    exact uncPost_err (HP.out.trans HK.out) HK0.out HB.out

/-! ### Cobs -/
theorem rds_part {w : World} {A : Option Addr} {n c f k : Nat} {xs : List Int} (h : Rds w 1 A n (ic xs)) (hf : f ≤ k) (hk : k ≤ n) :
    Rds w 1 (if c = f then A else Option.map (fun x => x.add f) A) (k - f) (ic ((xs.drop f).take (k - f))) ∨ c = f := by
  by_cases hc : c = f
  · exact .inr hc
  · left
    have hl := h.len_int
    refine ⟨by rw [ic_length, List.length_take, List.length_drop]; omega, fun hp => ?_⟩
    rw [ic_length, List.length_take, List.length_drop] at hp
    obtain ⟨b, off, rfl, hcell⟩ := h.2 (by rw [ic_length]; omega)
    rw [if_neg hc]
    refine ⟨b, off + f, by simp [Go.WideShapes.add_plain], fun j hj => ?_⟩
    rw [ic_length, List.length_take, List.length_drop] at hj
    rw [show off + f + j = off + (f + j) from by omega, hcell (f + j) (by rw [ic_length]; omega), ic_take, List.getElem?_take, if_pos (by omega), ic_drop, List.getElem?_drop]

/-- What is still to be written, at the head of the inner loop: a piece without noughts; s: what stands behind the nought behind it. -/
def restL (p : List Int) (full : Bool) : Option (List Int) → List Int
  | some s => cobsL (p ++ 0 :: s)
  | none => if full && p.isEmpty then [] else cobsL p
theorem restL_step {p : List Int} (hz : (0 : Int) ∉ p) (h : 254 ≤ p.length) (full : Bool) (s : Option (List Int)) : restL p full s = 255 :: p.take 254 ++ restL (p.drop 254) true s := by
  have hi : ∀ t : List Int, 254 ≤ idx 0 (p ++ t) := by
    intro t; rw [idx_append_none p t hz]; omega
  cases s with
  | some s =>
    have hc : cobsN (p ++ 0 :: s) = 254 := by unfold cobsN; have := hi (0 :: s); omega
    simp only [restL]
    rw [cobsL_full _ (by rw [hc]; simp; omega) hc, List.take_append_of_le_length h, List.drop_append_of_le_length h]
  | none =>
    have hne : p.isEmpty = false := by cases p with | nil => simp at h | cons _ _ => rfl
    have hc : cobsN p = 254 := by unfold cobsN; have := hi []; rw [List.append_nil] at this; omega
    simp only [restL, hne, Bool.and_false, Bool.false_eq_true, if_false, Bool.true_and]
    by_cases hl : p.length = 254
    · rw [cobsL_last p (by rw [hc]; omega), hl, List.take_of_length_le (by omega), List.drop_eq_nil_of_le (by omega)]
      simp
    · rw [cobsL_full _ (by rw [hc]; omega) hc]
      have : (p.drop 254).isEmpty = false := by rw [List.isEmpty_eq_false_iff, ne_eq, List.drop_eq_nil_iff]; omega
      rw [this]; simp
theorem Rds.take_ {w : World} {A : Option Addr} {n : Nat} {xs : List Int} (h : Rds w 1 A n (ic xs)) {k : Nat} (hk : k ≤ n) : Rds w 1 A k (ic (xs.take k)) := h.take hk
theorem restL_some {p : List Int} (hz : (0 : Int) ∉ p) (h : p.length < 254) (full : Bool) (s : List Int) : restL p full (some s) = ((p.length : Int) + 1) :: p ++ cobsL s := by
  have hc : cobsN (p ++ 0 :: s) = p.length := by
    have : idx 0 (p ++ 0 :: s) = p.length := by rw [idx_append_none p _ hz]; simp [idx]
    unfold cobsN; omega
  simp only [restL]
  rw [cobsL_short _ (by rw [hc]; simp) (by rw [hc]; exact h), hc, List.take_left]
  rw [show (p ++ 0 :: s).drop (p.length + 1) = s from by
    rw [show p ++ 0 :: s = (p ++ [0]) ++ s from by simp]
    exact List.drop_left' (by simp)]
theorem restL_none {p : List Int} (hz : (0 : Int) ∉ p) (h : p.length < 254) (full : Bool) : restL p full none = if full && p.isEmpty then [] else ((p.length : Int) + 1) :: p := by
  simp only [restL]
  split
  · rfl
  · have hc : cobsN p = p.length := by unfold cobsN; rw [idx_none hz]; omega
    rw [cobsL_last p (by omega)]

set_option maxRecDepth 100000 in
set_option maxHeartbeats 8000000 in
theorem cobsRef_any (A : Option Addr) (n c : Nat) (xs : List Int) (w : World) (hr : Rds w 1 A n (ic xs)) (hnc : n ≤ c) (hn : n ≤ 600) :
    Calls Tryd.prog 29 #[.slice A n c] w (RetInts w (cobsL xs)) := by
  obtain rfl : n = xs.length := hr.len_int
  have HB := Lib.hid (Below.refl w.heap.size w)
  go_enter Tryd.func29, Tryd.ntmps29
  go_wp2_with fail
  go_loopw [3, 4, 5, 6, 7] (fun v fv i _ _ wr => ∃ (o : List Int) (f k : Nat) (A1 : Option Addr) (c1 : Nat), v = .slice A1 o.length c1 ∧ fv = .int .i64 f ∧ i = .int .i64 k ∧ k ≤ xs.length + 1 ∧ (k ≤ xs.length → f ≤ k ∧ (0 : Int) ∉ (xs.drop f).take (k - f) ∧ o ++ cobsL (xs.drop f) = cobsL xs) ∧ (k = xs.length + 1 → o = cobsL xs) ∧ Own wr w.heap.size (.slice A1 o.length c1) o ∧ o.length ≤ c1 ∧ c1 ≤ maxLen ∧ o.length ≤ 2 * f ∧ f ≤ xs.length + 1 ∧ Below w.heap.size w wr) (fun _ _ i _ _ _ => xs.length + 1 - (intOf i).toNat)
  case atStart => exact ⟨[], 0, 0, none, 0, rfl, rfl, rfl, by omega, fun _ => ⟨by omega, by simp, by simp⟩, fun h => by omega, Own.nil_ _ _, by simp, by unfold maxLen; omega, by simp, by omega, HB.out⟩
  case round =>
    obtain ⟨o, f, k, A1, c1, rfl, rfl, rfl, hk, hin, hend, hown, hc1, hc2, hol, hfl, hB⟩ := hrel
    have hrr := hr.below hB
    by_cases hlt : k ≤ xs.length
    · obtain ⟨hfk, hnz, heq⟩ := hin hlt
      have HNZ := Lib.hid hnz
      have HEQ := Lib.hid heq
      clear hin hend hnz heq
      by_cases hkl : k < xs.length
      · obtain ⟨b, off, _, rfl, hcell⟩ := hrr.int hkl
        have hdk := List.drop_eq_getElem_cons hkl
        have hsp : xs.drop f = (xs.drop f).take (k - f) ++ xs.drop k := by
          conv => lhs; rw [← List.take_append_drop (k - f) (xs.drop f)]
          rw [List.drop_drop, show f + (k - f) = k from by omega]
        by_cases hx : xs[k] = 0
        · rw [hx] at hcell hdk
          rw [hdk] at hsp
          have HSt : Hid (o ++ restL ((xs.drop f).take (k - f)) false (some (xs.drop (k + 1))) = cobsL xs) := Lib.hid (by
            simp only [restL]
            rw [← hsp]
            exact HEQ.out)
          have HPL : Hid (((xs.drop f).take (k - f)).length = k - f) := Lib.hid (by rw [List.length_take, List.length_drop]; omega)
          have HPR : Hid (Rds w 1 (some ⟨b, off + f, none⟩) (k - f) (ic ((xs.drop f).take (k - f)))) := Lib.hid (by
            rcases rds_part (c := c) hr hfk hlt with h | h
            · rwa [if_neg (by omega), Option.map_some, Go.WideShapes.add_plain] at h
            · omega)
          have HNX : Hid (k + 1 ≤ xs.length → True) := Lib.hid (fun _ => trivial)
          generalize (xs.drop f).take (k - f) = P at *
          generalize hSg : xs.drop (k + 1) = S at *
          have HS := Lib.hid hSg
          have hcf : ¬ c = f := by omega
          have hfk' : (f : Int) ≤ (k : Int) := by omega
          have hkc' : (k : Int) ≤ (c : Int) := by omega
          have hkc : k ≤ c := by omega
          have HF := Lib.hid hol
          clear hdk hsp hx hSg
          go_wp2_with fail
          obtain ⟨wo, rfl⟩ : ∃ wo : World, wo = wr := ⟨_, rfl⟩
          go_loopw [3, 6, 7] (fun v pv fv wr => ∃ (o p : List Int) (A2 A6 : Option Addr) (c2 c6 : Nat) (fl : Bool), v = .slice A2 o.length c2 ∧ pv = .slice A6 p.length c6 ∧ fv = .bool fl ∧ (0 : Int) ∉ p ∧ o ++ restL p fl (some S) = cobsL xs ∧ Own wr w.heap.size (.slice A2 o.length c2) o ∧ o.length ≤ c2 ∧ c2 ≤ maxLen ∧ Rds w 1 A6 p.length (ic p) ∧ p.length ≤ c6 ∧ o.length + 2 * p.length ≤ 2 * k ∧ Below w.heap.size w wr) (fun _ pv _ _ => lenOf pv)
          case atStart => exact ⟨o, P, A1, some ⟨b, off + f, none⟩, c1, c - f, false, rfl, by rw [HPL.out], rfl, HNZ.out, HSt.out, hown, hc1, hc2, by rw [HPL.out]; exact HPR.out, by rw [HPL.out]; omega, by rw [HPL.out]; omega, hB⟩
          case round =>
            obtain ⟨o, p, A2, A6, c2, c6, fl, rfl, rfl, rfl, hpz, hst, hown, hc3, hc4, hpr, hc5, hlen, hB⟩ := hrel
            by_cases h254 : 254 ≤ p.length
            · have HR := Lib.hid (restL_step hpz h254 fl (some S)); have HST := Lib.hid (show (o ++ [255] ++ p.take 254) ++ restL (p.drop 254) true (some S) = cobsL xs from by rw [← hst, restL_step hpz h254 fl (some S)] <;> simp); have HPZ := Lib.hid (show (0 : Int) ∉ p.drop 254 from fun h => hpz (List.mem_of_mem_drop h)); have hge : (254 : Int) ≤ (p.length : Int) := (by omega); have hgc : 254 ≤ c6 := (by omega); have hgc' : (254 : Int) ≤ (c6 : Int) := (by omega); have HOL : Hid (o.length + 2 * p.length ≤ 1300) := Lib.hid (by omega); have HP4 : Hid ((p.take 254).length = 254) := Lib.hid (by rw [List.length_take]; omega); have HTK := Lib.hid (hpr.take (k := 254) h254)
              by_cases hl254 : 254 < p.length
              · have HD := Lib.hid (rds_drop_254 hpr hl254)
                have hcc : ¬ c6 = 254 := by omega
                clear hpz hst
                go_wp2_with (first | (at_builtin; refine wp_append_int wr rfl (.tmp 34) _ rfl w w.heap.size (.slice A2 o.length c2) o rfl hown 255 rfl (by have := HOL.out; omega) hB.size hB ?_; intro A3 c3 w3 ho3 hc7 hc8 hB3 _ _; have hpr3 := HTK.out.below hB3) | (at_builtin; refine wp_append_ints w3 rfl (.tmp 37) _ rfl w w.heap.size (.slice A3 (o.length + 1) c3) (o ++ [255]) rfl (by simpa using ho3) A6 254 c6 (p.take 254) rfl hpr3 (by have := HOL.out; have := HP4.out; simp; omega) hB3.size hB3 ?_; intro A4 c4 w4 ho4 hc9 hc10 hB4 _ _)); go_roundw; (case rel => exact ⟨o ++ [255] ++ p.take 254, p.drop 254, A4, _, c4, _, true, slice_eq (by have := HP4.out; simp; omega), slice_eq (by first | (simp; done) | (simp only [List.length_drop]; omega)), rfl, HPZ.out, HST.out, ho4.self, by have := HP4.out; simp at hc9 ⊢; omega, hc10, HD.out, by simp; omega, by simp; omega, hB4⟩); (case measure => simp [lenOf]; omega)
              · have hpd : p.drop 254 = [] := List.drop_eq_nil_of_le (by omega)
                by_cases hcc : c6 = 254
                · subst hcc
                  have HD : Hid (Rds w 1 A6 (p.drop 254).length (ic (p.drop 254))) := Lib.hid (by rw [hpd]; exact Rds.empty _ _)
                  clear hpz hst hpd
                  go_wp2_with (first | (at_builtin; refine wp_append_int wr rfl (.tmp 34) _ rfl w w.heap.size (.slice A2 o.length c2) o rfl hown 255 rfl (by have := HOL.out; omega) hB.size hB ?_; intro A3 c3 w3 ho3 hc7 hc8 hB3 _ _; have hpr3 := HTK.out.below hB3) | (at_builtin; refine wp_append_ints w3 rfl (.tmp 37) _ rfl w w.heap.size (.slice A3 (o.length + 1) c3) (o ++ [255]) rfl (by simpa using ho3) A6 254 254 (p.take 254) rfl hpr3 (by have := HOL.out; have := HP4.out; simp; omega) hB3.size hB3 ?_; intro A4 c4 w4 ho4 hc9 hc10 hB4 _ _)); go_roundw; (case rel => exact ⟨o ++ [255] ++ p.take 254, p.drop 254, A4, _, c4, _, true, slice_eq (by have := HP4.out; simp; omega), slice_eq (by first | (simp; done) | (simp only [List.length_drop]; omega)), rfl, HPZ.out, HST.out, ho4.self, by have := HP4.out; simp at hc9 ⊢; omega, hc10, HD.out, by simp; omega, by simp; omega, hB4⟩); (case measure => simp [lenOf]; omega)
                · have HD : Hid (∀ Z, Rds w 1 Z (p.drop 254).length (ic (p.drop 254))) := Lib.hid (fun Z => by rw [hpd]; exact Rds.empty _ _)
                  clear hpz hst hpd
                  go_wp2_with (first | (at_builtin; refine wp_append_int wr rfl (.tmp 34) _ rfl w w.heap.size (.slice A2 o.length c2) o rfl hown 255 rfl (by have := HOL.out; omega) hB.size hB ?_; intro A3 c3 w3 ho3 hc7 hc8 hB3 _ _; have hpr3 := HTK.out.below hB3) | (at_builtin; refine wp_append_ints w3 rfl (.tmp 37) _ rfl w w.heap.size (.slice A3 (o.length + 1) c3) (o ++ [255]) rfl (by simpa using ho3) A6 254 c6 (p.take 254) rfl hpr3 (by have := HOL.out; have := HP4.out; simp; omega) hB3.size hB3 ?_; intro A4 c4 w4 ho4 hc9 hc10 hB4 _ _)); go_roundw; (case rel => exact ⟨o ++ [255] ++ p.take 254, p.drop 254, A4, _, c4, _, true, slice_eq (by have := HP4.out; simp; omega), slice_eq (by first | (simp; done) | (simp only [List.length_drop]; omega)), rfl, HPZ.out, HST.out, ho4.self, by have := HP4.out; simp at hc9 ⊢; omega, hc10, (HD.out _), by simp; omega, by simp; omega, hB4⟩); (case measure => simp [lenOf]; omega)
            · have HR := Lib.hid (restL_some hpz (by omega) fl S)
              have HST := Lib.hid hst
              have hp253 : ¬ (254 : Int) ≤ (p.length : Int) := by omega
              have HOL : Hid (o.length ≤ 1300) := Lib.hid (by omega)
              clear hpz hst
              go_wp2_with (first
                | (at_builtin; refine wp_append_int wr rfl (.tmp 56) _ rfl w w.heap.size (.slice A2 o.length c2) o rfl hown ((p.length : Int) + 1) rfl (by have := HOL.out; omega) hB.size hB ?_; intro A3 c3 w3 ho3 hc7 hc8 hB3 _ _; have hpr3 := hpr.below hB3)
                | (at_builtin; refine wp_append_ints w3 rfl (.tmp 62) _ rfl w w.heap.size (.slice A3 (o.length + 1) c3) (o ++ [(p.length : Int) + 1]) rfl (by simpa using ho3) A6 p.length c6 p rfl hpr3 (by have := HOL.out; simp; omega) hB3.size hB3 ?_; intro A4 c4 w4 ho4 hc9 hc10 hB4 _ _))
              go_roundw
              case rel =>
                have hx1 : (o ++ [(p.length : Int) + 1] ++ p) ++ cobsL S = cobsL xs := by rw [← HST.out, HR.out]; simp
                refine ⟨o ++ [(p.length : Int) + 1] ++ p, k + 1, k + 1, A4, c4, slice_eq (by simp; omega), by go_num, by go_num, by omega, fun _ => ⟨by omega, by simp, by rw [HS.out]; exact hx1⟩, fun h => by omega, ho4.self, by simp at hc9 ⊢; omega, hc10, by simp; omega, by omega, hB4⟩
              case measure => simp [intOf]; omega
        · have hx0 : (xs[k] != 0) = true := by rw [bne_iff_ne]; exact hx
          have HZ : Hid ((0 : Int) ∉ (xs.drop f).take (k + 1 - f)) := Lib.hid (by
            rw [show k + 1 - f = (k - f) + 1 from by omega, List.take_succ_eq_append_getElem (by rw [List.length_drop]; omega), List.mem_append, List.mem_singleton]
            rintro (h | h)
            · exact HNZ.out h
            · rw [List.getElem_drop] at h
              apply hx
              rw [h]
              congr 1
              omega)
          clear hx hdk hsp
          go_wp2
          go_roundw
          case rel => exact ⟨o, f, k + 1, A1, c1, rfl, rfl, by go_num, by omega, fun _ => ⟨by omega, HZ.out, HEQ.out⟩, fun h => by omega, hown, hc1, hc2, by omega, hfl, hB⟩
          case measure => simp [intOf]; omega
      · obtain rfl : k = xs.length := by omega
        have hfull : (xs.drop f).take (xs.length - f) = xs.drop f := List.take_of_length_le (by rw [List.length_drop]; exact Nat.le_refl _)
        rw [hfull] at HNZ
        have HSt : Hid (o ++ restL (xs.drop f) false none = cobsL xs) := Lib.hid (by simp only [restL, Bool.false_and, Bool.false_eq_true, if_false]; exact HEQ.out)
        have HPL : Hid ((xs.drop f).length = xs.length - f) := Lib.hid (by rw [List.length_drop])
        have hfk' : (f : Int) ≤ (xs.length : Int) := by omega
        have hkc' : (xs.length : Int) ≤ (c : Int) := by omega
        obtain ⟨A6', hA6, hPR0⟩ : ∃ A6', (if c = f then A else Option.map (fun x => x.add f) A) = A6' ∧ Rds w 1 A6' (xs.length - f) (ic (xs.drop f)) := by
          refine ⟨_, rfl, ?_⟩
          rcases rds_part (c := c) hr hfk (Nat.le_refl _) with h | h
          · rwa [hfull] at h
          · rw [if_pos h, List.drop_eq_nil_of_le (by omega), show xs.length - f = 0 from by omega]
            exact Rds.empty _ _
        have HPR := Lib.hid hPR0
        clear hfull hPR0
        generalize xs.drop f = P at *
        have hcf2 : (c = f ∧ A6' = A) ∨ (¬ c = f ∧ Option.map (fun x => x.add f) A = A6') := by
          by_cases hcf : c = f
          · rw [if_pos hcf] at hA6; exact .inl ⟨hcf, hA6.symm⟩
          · rw [if_neg hcf] at hA6; exact .inr ⟨hcf, hA6⟩
        clear hA6
        rcases hcf2 with ⟨rfl, rfl⟩ | ⟨hcf, hA6⟩
        all_goals
          have hkn : ¬ (xs.length : Int) < (xs.length : Int) := by omega
          clear hkl
          go_wp2_with fail
          obtain ⟨wo, rfl⟩ : ∃ wo : World, wo = wr := ⟨_, rfl⟩
          go_loopw [3, 6, 7] (fun v pv fv wr => ∃ (o p : List Int) (A2 A6 : Option Addr) (c2 c6 : Nat) (fl : Bool), v = .slice A2 o.length c2 ∧ pv = .slice A6 p.length c6 ∧ fv = .bool fl ∧ (0 : Int) ∉ p ∧ o ++ restL p fl none = cobsL xs ∧ Own wr w.heap.size (.slice A2 o.length c2) o ∧ o.length ≤ c2 ∧ c2 ≤ maxLen ∧ Rds w 1 A6 p.length (ic p) ∧ p.length ≤ c6 ∧ o.length + 2 * p.length ≤ 2 * xs.length ∧ Below w.heap.size w wr) (fun _ pv _ _ => lenOf pv)
          case atStart => exact ⟨o, P, A1, _, c1, _, false, rfl, slice_eq (by have := HPL.out; omega), rfl, HNZ.out, HSt.out, hown, hc1, hc2, by rw [HPL.out]; exact HPR.out, by rw [HPL.out]; omega, by rw [HPL.out]; omega, hB⟩
          case round =>
            obtain ⟨o, p, A2, A6, c2, c6, fl, rfl, rfl, rfl, hpz, hst, hown, hc3, hc4, hpr, hc5, hlen, hB⟩ := hrel
            by_cases h254 : 254 ≤ p.length
            · have HR := Lib.hid (restL_step hpz h254 fl (none)); have HST := Lib.hid (show (o ++ [255] ++ p.take 254) ++ restL (p.drop 254) true (none) = cobsL xs from by rw [← hst, restL_step hpz h254 fl (none)] <;> simp); have HPZ := Lib.hid (show (0 : Int) ∉ p.drop 254 from fun h => hpz (List.mem_of_mem_drop h)); have hge : (254 : Int) ≤ (p.length : Int) := (by omega); have hgc : 254 ≤ c6 := (by omega); have hgc' : (254 : Int) ≤ (c6 : Int) := (by omega); have HOL : Hid (o.length + 2 * p.length ≤ 1300) := Lib.hid (by omega); have HP4 : Hid ((p.take 254).length = 254) := Lib.hid (by rw [List.length_take]; omega); have HTK := Lib.hid (hpr.take (k := 254) h254)
              by_cases hl254 : 254 < p.length
              · have HD := Lib.hid (rds_drop_254 hpr hl254)
                have hcc : ¬ c6 = 254 := by omega
                clear hpz hst
                go_wp2_with (first | (at_builtin; refine wp_append_int wr rfl (.tmp 34) _ rfl w w.heap.size (.slice A2 o.length c2) o rfl hown 255 rfl (by have := HOL.out; omega) hB.size hB ?_; intro A3 c3 w3 ho3 hc7 hc8 hB3 _ _; have hpr3 := HTK.out.below hB3) | (at_builtin; refine wp_append_ints w3 rfl (.tmp 37) _ rfl w w.heap.size (.slice A3 (o.length + 1) c3) (o ++ [255]) rfl (by simpa using ho3) A6 254 c6 (p.take 254) rfl hpr3 (by have := HOL.out; have := HP4.out; simp; omega) hB3.size hB3 ?_; intro A4 c4 w4 ho4 hc9 hc10 hB4 _ _)); go_roundw; (case rel => exact ⟨o ++ [255] ++ p.take 254, p.drop 254, A4, _, c4, _, true, slice_eq (by have := HP4.out; simp; omega), slice_eq (by first | (simp; done) | (simp only [List.length_drop]; omega)), rfl, HPZ.out, HST.out, ho4.self, by have := HP4.out; simp at hc9 ⊢; omega, hc10, HD.out, by simp; omega, by simp; omega, hB4⟩); (case measure => simp [lenOf]; omega)
              · have hpd : p.drop 254 = [] := List.drop_eq_nil_of_le (by omega)
                by_cases hcc : c6 = 254
                · subst hcc
                  have HD : Hid (Rds w 1 A6 (p.drop 254).length (ic (p.drop 254))) := Lib.hid (by rw [hpd]; exact Rds.empty _ _)
                  clear hpz hst hpd
                  go_wp2_with (first | (at_builtin; refine wp_append_int wr rfl (.tmp 34) _ rfl w w.heap.size (.slice A2 o.length c2) o rfl hown 255 rfl (by have := HOL.out; omega) hB.size hB ?_; intro A3 c3 w3 ho3 hc7 hc8 hB3 _ _; have hpr3 := HTK.out.below hB3) | (at_builtin; refine wp_append_ints w3 rfl (.tmp 37) _ rfl w w.heap.size (.slice A3 (o.length + 1) c3) (o ++ [255]) rfl (by simpa using ho3) A6 254 254 (p.take 254) rfl hpr3 (by have := HOL.out; have := HP4.out; simp; omega) hB3.size hB3 ?_; intro A4 c4 w4 ho4 hc9 hc10 hB4 _ _)); go_roundw; (case rel => exact ⟨o ++ [255] ++ p.take 254, p.drop 254, A4, _, c4, _, true, slice_eq (by have := HP4.out; simp; omega), slice_eq (by first | (simp; done) | (simp only [List.length_drop]; omega)), rfl, HPZ.out, HST.out, ho4.self, by have := HP4.out; simp at hc9 ⊢; omega, hc10, HD.out, by simp; omega, by simp; omega, hB4⟩); (case measure => simp [lenOf]; omega)
                · have HD : Hid (∀ Z, Rds w 1 Z (p.drop 254).length (ic (p.drop 254))) := Lib.hid (fun Z => by rw [hpd]; exact Rds.empty _ _)
                  clear hpz hst hpd
                  go_wp2_with (first | (at_builtin; refine wp_append_int wr rfl (.tmp 34) _ rfl w w.heap.size (.slice A2 o.length c2) o rfl hown 255 rfl (by have := HOL.out; omega) hB.size hB ?_; intro A3 c3 w3 ho3 hc7 hc8 hB3 _ _; have hpr3 := HTK.out.below hB3) | (at_builtin; refine wp_append_ints w3 rfl (.tmp 37) _ rfl w w.heap.size (.slice A3 (o.length + 1) c3) (o ++ [255]) rfl (by simpa using ho3) A6 254 c6 (p.take 254) rfl hpr3 (by have := HOL.out; have := HP4.out; simp; omega) hB3.size hB3 ?_; intro A4 c4 w4 ho4 hc9 hc10 hB4 _ _)); go_roundw; (case rel => exact ⟨o ++ [255] ++ p.take 254, p.drop 254, A4, _, c4, _, true, slice_eq (by have := HP4.out; simp; omega), slice_eq (by first | (simp; done) | (simp only [List.length_drop]; omega)), rfl, HPZ.out, HST.out, ho4.self, by have := HP4.out; simp at hc9 ⊢; omega, hc10, (HD.out _), by simp; omega, by simp; omega, hB4⟩); (case measure => simp [lenOf]; omega)
            · have HR := Lib.hid (restL_none hpz (by omega) fl)
              have HST := Lib.hid hst
              have hp253 : ¬ (254 : Int) ≤ (p.length : Int) := by omega
              have HOL : Hid (o.length ≤ 1300) := Lib.hid (by omega)
              clear hpz hst
              by_cases hskip : fl = true ∧ p = []
              · obtain ⟨rfl, rfl⟩ := hskip
                have HX : Hid (o = cobsL xs) := Lib.hid (by rw [← HST.out, HR.out]; simp)
                go_wp2
                go_roundw
                case rel => exact ⟨o, xs.length + 1, xs.length + 1, A2, c2, rfl, by go_num, by go_num, by omega, fun h => by omega, fun _ => HX.out, hown, hc3, hc4, by simp at hlen; omega, by omega, hB⟩
                case measure => first | (simp [intOf]; done) | (simp [intOf]; omega)
              · have HX : Hid (o ++ [(p.length : Int) + 1] ++ p = cobsL xs) := Lib.hid (by
                  rw [← HST.out, HR.out, if_neg (by
                    intro h
                    rw [Bool.and_eq_true, List.isEmpty_iff] at h
                    exact hskip h)]
                  simp)
                have hway : fl = false ∨ (fl = true ∧ (0 : Int) < (p.length : Int)) := by
                  cases fl with
                  | false => exact .inl rfl
                  | true =>
                    right
                    refine ⟨rfl, ?_⟩
                    have : p ≠ [] := fun e => hskip ⟨rfl, e⟩
                    have := List.length_pos_iff.2 this
                    omega
                clear hskip
                rcases hway with rfl | ⟨rfl, hp0⟩
                all_goals
                  go_wp2_with (first
                    | (at_builtin; refine wp_append_int wr rfl (.tmp 56) _ rfl w w.heap.size (.slice A2 o.length c2) o rfl hown ((p.length : Int) + 1) rfl (by have := HOL.out; omega) hB.size hB ?_; intro A3 c3 w3 ho3 hc7 hc8 hB3 _ _; have hpr3 := hpr.below hB3)
                    | (at_builtin; refine wp_append_ints w3 rfl (.tmp 62) _ rfl w w.heap.size (.slice A3 (o.length + 1) c3) (o ++ [(p.length : Int) + 1]) rfl (by simpa using ho3) A6 p.length c6 p rfl hpr3 (by have := HOL.out; simp; omega) hB3.size hB3 ?_; intro A4 c4 w4 ho4 hc9 hc10 hB4 _ _))
                  go_roundw
                  case rel => exact ⟨o ++ [(p.length : Int) + 1] ++ p, xs.length + 1, xs.length + 1, A4, c4, slice_eq (by simp; omega), by go_num, by go_num, by omega, fun h => by omega, fun _ => HX.out, ho4.self, by simp at hc9 ⊢; omega, hc10, by simp; omega, by omega, hB4⟩
                  case measure => first | (simp [intOf]; done) | (simp [intOf]; omega)
    · obtain rfl : k = xs.length + 1 := by omega
      have HE := Lib.hid (hend rfl)
      clear hin hend
      go_wp2
      go_ret
      rw [← HE.out]
      exact ⟨A1, c1, rfl, hown, hc1, hc2, hB⟩
end Go.Proofs.YtalehbhimnhnjaaDoor
