/- The contract of stuff.Frames. -/
import Derived.Test.YtbmajajndckfoaaRowsOwn
import Derived.Deep.RegionWith
import Derived.Deep.DrawnRows
import Derived.Deep.RegionHeld3
import Derived.Outline
namespace Go.Proofs.Ytbmajajndckfoaa
open Go.RowKit
attribute [local go_sem ↓] Go.wp_at_zero Go.wp_at_succ
/-- Where a frame began, as the program holds it. -/
def frI (fr : Option Nat) : Int := match fr with | none => -1 | some f => (f : Int)
/-- What a function hands back: rows of the call's own, and one value beside them. -/
def RetRows (W : World) (xss : List (List Int)) (z : Value) (e : Ending) (w' : World) : Prop :=
  ∃ A c, e = .returned (.tuple #[.slice A xss.length c, z]) ∧ OwnRows w' W.heap.size (.slice A xss.length c) xss ∧ Below W.heap.size W w'
theorem frames_err (A : Option Addr) (n c : Nat) (xs : List Int) (k : Int) (w : World) (hr : Rds w 1 A n (ic xs)) (hn : n ≤ maxLen) (h : bitsE xs = k) (hk : k ≠ 0) :
    Calls Try.prog 16 #[.slice A n c] w fun e w' => e = .returned (.tuple #[.slice none 0 0, .iface 59 (.int .i64 k)]) ∧ w = w' := by
  have HN := Lib.hid hn
  have HE := Lib.hid h
  have HK := Lib.hid hk
  clear hn h hk
  go_enter Try.func16, Try.ntmps16
  go_wp2_with (go_at_call 27; refine (check_err _ _ _ _ _ _ hr HN.out HE.out HK.out).mono ?_; rintro e w' ⟨rfl, rfl⟩)
  go_ret2
  exact ⟨rfl, rfl⟩
theorem rds_mid {w : World} {A : Option Addr} {n c f m : Nat} {xs : List Int} (h : Rds w 1 A n (ic xs)) (hf : f ≤ n) (hm : f + m ≤ n) (hc : n ≤ c) (hfc : f < c) :
    Rds w 1 (Option.map (fun x => x.add f) A) m (ic ((xs.drop f).take m)) := by
  have h1 := h.drop (k := f) (c := c) hf hc
  have h2 := h1.take (k := m) (by omega)
  unfold cutA at h2
  rwa [if_neg (by omega)] at h2
set_option maxRecDepth 100000 in
set_option maxHeartbeats 4000000 in
theorem frames_ok (A : Option Addr) (n c : Nat) (xs : List Int) (w : World) (hr : Rds w 1 A n (ic xs)) (hn : n ≤ c) (hc : c ≤ maxLen) (h : bitsE xs = 0) :
    Calls Try.prog 16 #[.slice A n c] w (RetRows w (framesL xs) .nilIface) := by
  obtain rfl : n = xs.length := hr.len_int
  obtain ⟨hb, hl⟩ := bits_of_ok h
  have HN := Lib.hid (Nat.le_trans hn hc)
  have HE := Lib.hid h
  have HBI := Lib.hid hb
  have HR := Lib.hid (OwnRowsP.nil_ (fun _ => True) w w.heap.size)
  have HB := Lib.hid (Below.refl w.heap.size w)
  have hc63 : (c : Int) ≤ 9223372036854775807 := by unfold maxLen at hc; omega
  clear h hb hc
  go_enter Try.func16, Try.ntmps16
  go_wp2_with (go_at_call 27; refine (check_ok _ _ _ _ _ hr HN.out HE.out).mono ?_; rintro e w' ⟨rfl, rfl⟩)
  go_loopw [5, 6, 7] (fun o f i wr => ∃ (k : Nat) (fr : Option Nat) (out : List (List Int)) (A' : Option Addr) (c' : Nat), k ≤ xs.length ∧ i = .int .i64 k ∧ f = .int .i64 (frI fr) ∧ o = .slice A' out.length c' ∧ out ++ frm xs k fr = framesL xs ∧ (∀ g, fr = some g → g ≤ k) ∧ out.length ≤ k ∧ OwnRows wr w.heap.size (.slice A' out.length c') out ∧ Below w.heap.size w wr) (fun _ _ i _ => xs.length - (intOf i).toNat)
  case atStart => exact ⟨0, none, [], none, 0, Nat.zero_le _, rfl, rfl, rfl, rfl, by simp, by simp, HR.out, HB.out⟩
  case round =>
    obtain ⟨k, fr, out, A', c', hk, rfl, rfl, rfl, hout, hfr, hol, hown, hB⟩ := hrel
    have HO := Lib.hid hout
    have HF := Lib.hid hfr
    clear hout hfr
    by_cases hlt : k + 8 ≤ xs.length
    · have hrw := hr.below hB
      have hkc : ¬ c ≤ k := by omega
      have hk8 : k + 8 ≤ c := by omega
      have hk8i : (k : Int) + 8 ≤ (c : Int) := by omega
      have hk0i : (0 : Int) ≤ (k : Int) := by omega
      have hk1i : (k : Int) ≤ (k : Int) + 8 := by omega
      have hk2i : (0 : Int) ≤ (k : Int) + 8 := by omega
      have hw8 : IntKind.i64.wrap ((k : Int) + 8) = (k : Int) + 8 := IntWalk.i64_in _ (by constructor <;> omega)
      have ht8 : ((k : Int) + 8).toNat = k + 8 := by omega
      have h8 := rds_mid (f := k) (m := 8) hrw (by omega) (by omega) hn (by omega)
      have HQ := Lib.hid (equal_any (Option.map (fun x => x.add k) A) (some ⟨wr.heap.size, 0, none⟩) 8 (c - k) 8 8 ((xs.drop k).take 8) flagL (wr.alloc (.cells #[.int .i64 0, .int .i64 1, .int .i64 1, .int .i64 1, .int .i64 1, .int .i64 1, .int .i64 1, .int .i64 0] 3)).drew (h8.alloc _).drew (rds_flag wr).drew (by unfold maxLen; omega) (by unfold maxLen; omega))
      have hfa : decide ((xs.drop k).take 8 = flagL) = flagAt xs k := rfl
      rw [hfa] at HQ
      rcases hfl : flagAt xs k with _ | _
      · rw [hfl] at HQ
        have HS := Lib.hid (frm_step (fr := fr) hlt hfl)
        go_wp2_with fail
        go_region_with (first | (go_at_call 23; (with_reducible refine (flag_any _).mono ?_); rintro e w' ⟨rfl, rfl⟩) | (go_at_call 29; (with_reducible refine HQ.out.mono ?_); rintro e w' ⟨rfl, q, rfl⟩))
        all_goals
          go_wp2
          go_roundw
          case rel => exact ⟨k + 1, fr, out, A', c', by omega, by go_num, rfl, rfl, by rw [← HS.out]; exact HO.out, fun g hg => by have := HF.out g hg; omega, by omega, hown.below (below_drewN ((Below.refl _ _).alloc (Nat.le_refl _) _) (1 + q)), below_drewN (hB.alloc hB.size _) (1 + q)⟩
          case measure => simp [intOf]; omega
      · rw [hfl] at HQ
        have HS := Lib.hid (frm_flag (fr := fr) hlt hfl)
        go_wp2_with fail
        go_region_with (first | (go_at_call 23; (with_reducible refine (flag_any _).mono ?_); rintro e w' ⟨rfl, rfl⟩) | (go_at_call 29; (with_reducible refine HQ.out.mono ?_); rintro e w' ⟨rfl, q, rfl⟩))
        have hB2 : Below w.heap.size w ((wr.alloc (.cells #[.int .i64 0, .int .i64 1, .int .i64 1, .int .i64 1, .int .i64 1, .int .i64 1, .int .i64 1, .int .i64 0] 3)).drewN (1 + q)) := below_drewN (hB.alloc hB.size _) (1 + q)
        have hown2 : OwnRows ((wr.alloc (.cells #[.int .i64 0, .int .i64 1, .int .i64 1, .int .i64 1, .int .i64 1, .int .i64 1, .int .i64 1, .int .i64 0] 3)).drewN (1 + q)) w.heap.size (.slice A' out.length c') out := hown.below (below_drewN ((Below.refl _ _).alloc (Nat.le_refl _) _) (1 + q))
        have hrw2 := hr.below hB2
        clear h8 HQ hfa hown hB hrw
        generalize (wr.alloc (.cells #[.int .i64 0, .int .i64 1, .int .i64 1, .int .i64 1, .int .i64 1, .int .i64 1, .int .i64 1, .int .i64 0] 3)).drewN (1 + q) = w2 at *
        by_cases hfk : ∃ f, fr = some f ∧ f < k
        · obtain ⟨f, rfl, hf⟩ := hfk
          have hf0 : (0 : Int) ≤ (f : Int) := by omega
          have hfki : (f : Int) < (k : Int) := by omega
          have hrp := rds_mid (f := f) (m := k - f) hrw2 (by omega) (by omega) hn (by omega)
          have hfc : ¬ c ≤ f := by omega
          have hbp : Bits ((xs.drop f).take (k - f)) := fun b hb => HBI.out b (List.mem_of_mem_drop (List.mem_of_mem_take hb))
          have HP := Lib.hid (unstuff_any _ _ (c - f) _ w2 hrp hbp (by omega))
          have HPC : Hid (pieceL xs (some f) k = optL (unL ((xs.drop f).take (k - f)))) := Lib.hid (by unfold pieceL cutL; simp only; rw [if_pos hf])
          rw [show frI (some f) = (f : Int) from rfl]
          clear hbp hrp
          go_wp2_with fail
          (with_reducible refine HP.out.mono ?_)
          rintro e w3 (⟨l, B, d, hu, rfl, hol3, hd1, hd2, hb3⟩ | ⟨hu, v, rfl, hb3⟩)
          · have HU := Lib.hid hu
            have hB3 := below_call hB2 hb3
            have hown3 := hown2.below hb3
            have hlr := hol3.rds
            have hbr := hol3.range
            have hA2 : ∀ b, (Value.slice A' out.length c').ownBlock = some b → b < w2.heap.size := hown2.row_lt
            have hsep : 0 < l.length → ∀ a, B = some a → True ∧ (Value.slice A' out.length c').ownBlock ≠ some a.block := fun _ a ha => ⟨trivial, fun e => by
              have h1 := (hbr a ha).1
              have h2 := hA2 _ e
              omega⟩
            have HSEP := Lib.hid hsep
            clear hu hol3 hb3 hown2 hbr hA2 hsep
            go_wp2_with (at_builtin; refine wp_append_row w3 rfl (.tmp 46) _ rfl w w.heap.size (.slice A' out.length c') out rfl hown3 B d l rfl hlr hd1 hd2 HSEP.out (by omega) hB3.size hB3 ?_; intro A4 c4 w4 hown4 hB4 _ _)
            go_roundw
            case rel => exact ⟨k + 8, some (k + 8), out ++ [l], A4, c4, by omega, by go_num, by simp [frI], by simp, by rw [← HO.out, HS.out, HPC.out, HU.out]; simp [optL], fun g hg => by injection hg with hg; omega, by simp; omega, by simpa using hown4, hB4⟩
            case measure => simp [intOf]; omega
          · have HU := Lib.hid hu
            have hB3 := below_call hB2 hb3
            have hown3 := hown2.below hb3
            clear hu hb3 hown2
            go_wp2
            go_roundw
            case rel => exact ⟨k + 8, some (k + 8), out, A', c', by omega, by go_num, by simp [frI], rfl, by rw [← HO.out, HS.out, HPC.out, HU.out]; simp [optL], fun g hg => by injection hg with hg; omega, by omega, hown3, hB3⟩
            case measure => simp [intOf]; omega
        · have HPC : Hid (pieceL xs fr k = []) := Lib.hid (by
            unfold pieceL
            rcases fr with _ | f
            · rfl
            · simp only
              rw [if_neg fun h => hfk ⟨f, rfl, h⟩])
          have hfi : frI fr = -1 ∨ (0 ≤ frI fr ∧ ¬ frI fr < (k : Int)) := by
            rcases fr with _ | f
            · exact .inl rfl
            · right
              have : ¬ f < k := fun h => hfk ⟨f, rfl, h⟩
              have e : frI (some f) = (f : Int) := rfl
              rw [e]
              omega
          clear hfk
          generalize frI fr = fi at *
          rcases hfi with rfl | ⟨hf0, hf1⟩
          all_goals
            go_wp2
            go_roundw
            case rel => exact ⟨k + 8, some (k + 8), out, A', c', by omega, by go_num, by simp [frI], rfl, by rw [← HO.out, HS.out, HPC.out]; simp, fun g hg => by injection hg with hg; omega, by omega, hown2, hB2⟩
            case measure => simp [intOf]; omega
    · have HD := Lib.hid (frm_end (xs := xs) (i := k) (fr := fr) (by omega))
      go_wp2
      go_ret2
      have e : out = framesL xs := by have := HO.out; rw [HD.out] at this; simpa using this
      rw [← e]
      exact ⟨A', c', rfl, hown, hB⟩
end Go.Proofs.Ytbmajajndckfoaa
