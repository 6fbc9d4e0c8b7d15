/- The walk of the law LineSays. -/
import Derived.Test.YtalehbhimnhnjaaDoorLineRef
import Derived.Test.YtalehbhimnhnjaaDoorLineBackLaw
import Derived.Test.YtalehbhimnhnjaaDoorTold
import Derived.Deep.DeepCutAuto
import Derived.Deep.CutRange
import Derived.Deep.CutBlock
import Derived.Outline
namespace Go.Proofs.YtalehbhimnhnjaaDoor
open Go.RowKit

def errV (k : Int) : Value := if k = 0 then .nilIface else .iface 47 (.int .i64 k)
theorem errV_zero : errV 0 = .nilIface := by unfold errV; rw [if_pos rfl]
theorem errV_ne {k : Int} (h : k ≠ 0) : errV k = .iface 47 (.int .i64 k) := by unfold errV; rw [if_neg h]
theorem error_errV (k e : Int) (w : World) (hg : LaidW w) : Calls Tryd.prog 25 #[errV k, .int .i64 e] w fun r w' => r = .returned (.bool (k == e)) ∧ Below w.heap.size w w' := by
  by_cases h : k = 0
  · subst h
    rw [errV_zero]
    exact (error_nil e w).mono fun _ _ ⟨h1, h2⟩ => ⟨h1, by subst h2; exact Below.refl _ _⟩
  · rw [errV_ne h]
    exact error_errno k e w hg
theorem retOwn_nil {W : World} {z : Value} {e : Ending} {w' : World} (h : e = .returned (.tuple #[.slice none 0 0, z])) (hB : Below W.heap.size W w') : RetOwn W [] z e w' :=
  ⟨none, 0, h, Own.nil_ _ _, by simp, by unfold maxLen; omega, hB⟩
def fiveR (xs : List Int) : List Int := if fiveE xs = 0 then fiveL xs else []
def turnR (xs : List Int) : List Int := if bitsE xs = 0 then turnL xs else []
def backR (xs : List Int) : List Int := if bitsE xs = 0 then backL xs else []
theorem five_all (A : Option Addr) (n c : Nat) (xs : List Int) (w : World) (hcw : CodesW w) (hr : Rds w 1 A n (ic xs)) (hn : n ≤ maxLen) :
    Calls Tryd.prog 11 #[.slice A n c] w (RetOwn w (fiveR xs) (errV (fiveE xs))) := by
  unfold fiveR
  by_cases h : fiveE xs = 0
  · rw [if_pos h, h, errV_zero]; exact five_ok A n c xs w hcw hr hn h
  · rw [if_neg h, errV_ne h]
    exact (five_err A n c xs _ w hr hn rfl h).mono fun e w' ⟨h1, h2⟩ => retOwn_nil h1 (by subst h2; exact Below.refl _ _)
theorem turns_all (A : Option Addr) (n c : Nat) (xs : List Int) (w : World) (hr : Rds w 1 A n (ic xs)) (hn : n ≤ maxLen) :
    Calls Tryd.prog 14 #[.slice A n c] w (RetOwn w (turnR xs) (errV (bitsE xs))) := by
  unfold turnR
  by_cases h : bitsE xs = 0
  · rw [if_pos h, h, errV_zero]; exact turns_ok A n c xs w hr hn h
  · rw [if_neg h, errV_ne h]
    exact (turns_err A n c xs _ w hr hn rfl h).mono fun e w' ⟨h1, h2⟩ => retOwn_nil h1 (by subst h2; exact Below.refl _ _)
theorem bits_all (A : Option Addr) (n c : Nat) (xs : List Int) (w : World) (hr : Rds w 1 A n (ic xs)) (hn : n ≤ maxLen) :
    Calls Tryd.prog 12 #[.slice A n c] w (RetOwn w (backR xs) (errV (bitsE xs))) := by
  unfold backR
  by_cases h : bitsE xs = 0
  · rw [if_pos h, h, errV_zero]; exact bitsGo_ok A n c xs w hr hn h
  · rw [if_neg h, errV_ne h]
    exact (bitsGo_err A n c xs _ w hr hn rfl h).mono fun e w' ⟨h1, h2⟩ => retOwn_nil h1 (by subst h2; exact Below.refl _ _)
instance (xs : List Int) (k : Nat) : Decidable (fourOk xs k) := by unfold fourOk; infer_instance
def fourE (xs : List Int) : Int := if bitsE xs = 0 then (if xs.length % 5 = 0 then (if fourOk xs (chunks 5 xs.length) then 0 else 2) else 3) else bitsE xs
def fourR (xs : List Int) : List Int := if fourE xs = 0 then fourL xs (chunks 5 xs.length) else []
theorem four_all (A : Option Addr) (n c : Nat) (xs : List Int) (w : World) (hcw : CodesW w) (hr : Rds w 1 A n (ic xs)) (hn : n ≤ c) (hc : c ≤ maxLen) :
    Calls Tryd.prog 15 #[.slice A n c] w (RetOwn w (fourR xs) (errV (fourE xs))) := by
  unfold fourR
  have hl := hr.len_int
  by_cases h : bitsE xs = 0
  · by_cases h5 : xs.length % 5 = 0
    · by_cases hk : fourOk xs (chunks 5 xs.length)
      · have e : fourE xs = 0 := by unfold fourE; rw [if_pos h, if_pos h5, if_pos hk]
        rw [if_pos e, e, errV_zero]
        exact four_ok A n c xs w hcw hr hn hc h (by omega) _ rfl hk
      · have e : fourE xs = 2 := by unfold fourE; rw [if_pos h, if_pos h5, if_neg hk]
        rw [if_neg (by rw [e]; decide), e, errV_ne (by decide)]
        refine (four_any A n c xs w hcw hr hn hc h (by omega)).mono ?_
        rintro e w' (⟨h1, _⟩ | ⟨_, h2, h3⟩)
        · exact absurd h1 hk
        · exact retOwn_nil h2 h3
    · have e : fourE xs = 3 := by unfold fourE; rw [if_pos h, if_neg h5]
      rw [if_neg (by rw [e]; decide), e, errV_ne (by decide)]
      exact (four_err3 A n c xs w hr (by omega) h (by rw [bne_iff_ne]; omega)).mono fun e w' ⟨h1, h2⟩ => retOwn_nil h1 h2
  · have e : fourE xs = bitsE xs := by unfold fourE; rw [if_neg h]
    rw [if_neg (by rw [e]; exact h), e, errV_ne h]
    exact (four_err1 A n c xs _ w hr (by omega) rfl h).mono fun e w' ⟨h1, h2⟩ => retOwn_nil h1 h2

/-! ### Two rows of the call's own that grow in one loop -/
def Sep (u v : Value) : Prop := ∀ b, u.ownBlock = some b → v.ownBlock ≠ some b
theorem Own.far {w w' : World} {base : Nat} {u v : Value} {xs : List Int} (h : Own w base u xs) (hg : w.grownBy w' v.ownBlock) (hs : Sep u v) : Own w' base u xs := by
  refine World.ownsRow.kept h hg ?_
  rcases hu : u.ownBlock with _ | b
  · exact .inl rfl
  · exact .inr fun e => hs b hu e.symm
theorem Own.block_lt {w : World} {base : Nat} {u : Value} {xs : List Int} (h : Own w base u xs) {b : Nat} (hb : u.ownBlock = some b) : b < w.heap.size := (own_lt h hb).2
theorem Sep.symm {u v : Value} (h : Sep u v) : Sep v u := fun b h1 h2 => h b h2 h1
theorem Sep.grown {u v v' : Value} {w : World} {base n : Nat} {xs : List Int} (hs : Sep u v) (hu : Own w base u xs) (hn : w.heap.size ≤ n) (h : v'.ownBlock = v.ownBlock ∨ v'.ownBlock = some n) : Sep u v' := by
  intro b h1 h2
  rcases h with h | h
  · rw [h] at h2; exact hs b h1 h2
  · rw [h] at h2
    injection h2 with h2
    have := hu.block_lt h1
    omega

theorem tStep0 {lt : List Int} {j : Int} (hj : j = 0 ∨ j = 1) : turnStep (lt, j) 0 = (lt ++ [j], j) := by
  rcases hj with rfl | rfl <;> rfl
theorem tStep1 {lt : List Int} {j : Int} (hj : j = 0 ∨ j = 1) : turnStep (lt, j) 1 = (lt ++ [1 - j], 1 - j) := by
  rcases hj with rfl | rfl <;> rfl
/-- What it leaves. -/
def L3Out (ys : List Int) (base : Nat) (s5 s6 : Value) (w : World) : Prop :=
  ∃ A n c, s5 = .int .i64 (fourE ys) ∧ s6 = .slice A n c ∧ (fourE ys = 0 → n = (fourR ys).length ∧ Own w base (.slice A n c) (fourR ys))
def e3B (be : Int) (n : Nat) : Bool := be == 0 && n % 5 != 0
/-- What the third loop knows. -/
def L3 (ys : List Int) (e3 : Int) (base : Nat) (s5 s6 s18 : Value) (w : World) : Prop :=
  ∃ k : Nat, s18 = .int .i64 ((k * 5 : Nat) : Int) ∧ ∃ A c n, s6 = .slice A n c ∧
    ((e3 ≠ 0 ∧ k = 0 ∧ s5 = .int .i64 e3 ∧ n = 0) ∨ (e3 = 0 ∧ s5 = .int .i64 0 ∧ k ≤ chunks 5 ys.length ∧ fourOk ys k ∧ k = n ∧ Own w base (.slice A n c) (fourL ys k) ∧ n ≤ c ∧ c ≤ maxLen) ∨ (e3 = 0 ∧ s5 = .int .i64 2 ∧ ¬ fourOk ys (chunks 5 ys.length)))

set_option maxRecDepth 100000 in
set_option maxHeartbeats 4000000 in
theorem lineSays_any (A : Option Addr) (n c : Nat) (xs : List Int) (B : Option Addr) (m d : Nat) (ys : List Int) (w : World) (hr : Rds w 1 A n (ic xs)) (hn : n ≤ maxLen) (hs : Rds w 1 B m (ic ys)) (hmd : m ≤ d) (hd : d ≤ maxLen) (hl : LaidW w) (hcw : CodesW w) :
    Calls Tryd.prog 9 #[.slice A n c, .slice B m d] w fun e w' => e = .returned (.bool true) ∧ Below w.heap.size w w' := by
  have hB := Below.refl w.heap.size w
  obtain rfl : n = xs.length := hr.len_int
  obtain rfl : m = ys.length := hs.len_int
  have HN := Lib.hid hn
  have HM := Lib.hid (Nat.le_trans hmd hd)
  have HMD := Lib.hid hmd
  have HD := Lib.hid hd
  obtain ⟨fe, hfe⟩ : ∃ fe, fiveE xs = fe := ⟨_, rfl⟩
  have HFE := Lib.hid hfe
  have HFR : Hid ((fiveR xs).length ≤ maxLen) := Lib.hid (by
    unfold fiveR
    split
    · rename_i h
      have := five_of_ok h
      rw [fiveL_len]; unfold maxLen; omega
    · exact Nat.zero_le _)
  clear hfe hn hmd hd
  go_enter Tryd.func9, Tryd.ntmps9
  go_upto_if 22 with (fail)
  go_cut [5] from 22 to 25 (fun s5 wx => s5 = .int .i64 fe ∧ w = wx)
  case first =>
    by_cases h40 : (40 : Int) < (xs.length : Int)
    · have HX : Hid (fe = 4) := Lib.hid (by rw [← HFE.out]; unfold fiveE; rw [if_pos (by omega)])
      go_wp2
      go_meet
      case rel => exact ⟨by rw [HX.out], rfl⟩
    · rcases ha : allB xs 0 15 with _ | _
      · have HX : Hid (fe = 1) := Lib.hid (by rw [← HFE.out]; unfold fiveE; rw [if_neg (by omega), if_neg (by rw [ha]; simp)])
        go_wp2_with (go_at_call 20; refine (refAll_any _ _ _ _ _ _ _ hr HN.out).mono ?_; rintro e w' ⟨rfl, rfl⟩; rw [ha])
        go_meet
        case rel => exact ⟨by rw [HX.out], rfl⟩
      · have HX : Hid (fe = 0) := Lib.hid (by rw [← HFE.out]; unfold fiveE; rw [if_neg (by omega), if_pos ha])
        go_wp2_with (go_at_call 20; refine (refAll_any _ _ _ _ _ _ _ hr HN.out).mono ?_; rintro e w' ⟨rfl, rfl⟩; rw [ha])
        go_meet
        case rel => exact ⟨by rw [HX.out], rfl⟩
  case rest =>
  obtain ⟨rfl, rfl⟩ := hcut
  go_upto_block 0 with fail
  go_cut [6, 7] from 26 to 42 (fun s6 s7 wx => ∃ A1 c1, s6 = .slice A1 (fiveR xs).length c1 ∧ Own wx w.heap.size (.slice A1 (fiveR xs).length c1) (fiveR xs) ∧ (fiveR xs).length ≤ c1 ∧ c1 ≤ maxLen ∧ Below w.heap.size w wx)
  case first =>
    go_wp2_with fail
    go_loopw [6, 7] (fun v i wr => ∃ (k : Nat) (A1 : Option Addr) (c1 : Nat), k ≤ xs.length ∧ i = .int .i64 k ∧ v = .slice A1 (fiveL (xs.take k)).length c1 ∧ Own wr w.heap.size (.slice A1 (fiveL (xs.take k)).length c1) (fiveL (xs.take k)) ∧ (fiveL (xs.take k)).length ≤ c1 ∧ c1 ≤ maxLen ∧ Hid (fe ≠ 0 → k = 0) ∧ Below w.heap.size w wr) (fun _ i _ => xs.length - (intOf i).toNat)
    case atStart => exact ⟨0, none, 0, Nat.zero_le _, rfl, rfl, Own.nil_ _ _, by simp [fiveL], by unfold maxLen; omega, Lib.hid (fun _ => rfl), hB⟩
    case round =>
      obtain ⟨k, A1, c1, hk, rfl, rfl, hown, hc1, hc2, HK, hB1⟩ := hrel
      by_cases h0 : fe = 0
      · subst h0
        obtain ⟨hb, hlen, _⟩ := five_of_ok HFE.out
        have HX := Lib.hid hb
        have HLX := Lib.hid hlen
        have HS : Hid (∀ hk' : k < xs.length, fiveL (xs.take (k + 1)) = fiveL (xs.take k) ++ five xs[k]) := Lib.hid (fun hk' => fiveL_snoc xs k hk')
        have HR0 : Hid (¬ k < xs.length → fiveL (xs.take k) = fiveR xs) := Lib.hid (fun h => by unfold fiveR; rw [if_pos HFE.out, List.take_of_length_le (by omega)])
        have hll : (fiveL (xs.take k)).length ≤ 200 := by
          have := fiveL_len (xs.take k)
          have : (xs.take k).length ≤ k := List.length_take_le _ _
          omega
        clear hb hlen
        generalize fiveL (xs.take k) = l at *
        by_cases hlt : k < xs.length
        · have hrx := hr.below hB1
          obtain ⟨b, off, hk', rfl, hcell⟩ := hrx.int hlt
          have HS2 := Lib.hid (HS.out hk')
          obtain ⟨h0, h15⟩ := HX.out _ (List.getElem_mem hk')
          generalize xs[k] = z at *
          obtain ⟨q, rfl⟩ := Int.eq_ofNat_of_zero_le h0
          have h5l : (five (q : Int)).length = 5 := rfl
          have HL2 : Hid ((fiveL (xs.take (k + 1))).length = l.length + 5) := Lib.hid (by rw [HS2.out, List.length_append, h5l])
          have H5L := Lib.hid h5l
          have hk40 : k < 40 := by have := HLX.out; omega
          clear h5l
          go_wp2_with fail
          (with_reducible refine (code_any q (by omega) _).mono ?_)
          rintro e w1 ⟨A2, c2, rfl, ho2, hc3, hc4, hb⟩
          have hown1 := hown.below hb
          have hB2 := below_call hB1 hb
          have hr2 := ho2.rds
          rw [H5L.out] at hr2 ⊢
          clear hb ho2
          go_wp2_with (at_builtin; refine wp_append_ints w1 rfl _ _ rfl w w.heap.size (.slice A1 l.length c1) l rfl hown1 A2 5 c2 (five (q : Int)) rfl hr2 (by rw [H5L.out]; omega) hB2.size hB2 ?_; intro A3 c3 w3 ho3 hc5 hc6 hB3 _ _; rw [← HS2.out] at ho3)
          go_roundw
          case rel => exact ⟨k + 1, A3, c3, by omega, by go_num, slice_eq (by rw [HL2.out]), ho3.self, by rw [HL2.out]; exact hc5, hc6, Lib.hid (fun h => absurd rfl h), hB3⟩
          case measure => simp [intOf]; omega
        · go_wp2
          go_meet
          case rel =>
            have e := HR0.out hlt
            subst e
            exact ⟨A1, c1, rfl, hown, hc1, hc2, hB1⟩
      · have hf0 : (fe == 0) = false := by rw [beq_eq_false_iff_ne]; exact h0
        obtain rfl : k = 0 := HK.out h0
        have HR0 : Hid (fiveR xs = []) := Lib.hid (by unfold fiveR; rw [HFE.out, if_neg h0])
        have HF0 := Lib.hid h0
        clear h0
        rw [List.take_zero] at hown hc1 ⊢
        simp only [show fiveL [] = [] from rfl, List.length_nil] at hown hc1 ⊢
        go_wp2
        all_goals
          go_meet
          case rel => rw [HR0.out]; exact ⟨A1, c1, rfl, hown, hc1, hc2, hB1⟩
  case rest =>
  obtain ⟨A1, c1, rfl, ho1, hc1, hc2, hB1⟩ := hcut
  replace hB := hB1
  clear hB1
  have hr1 := ho1.rds
  clear ho1
  go_wp2_with fail
  (with_reducible refine (five_all _ _ _ _ _ (hcw.below hB) (hr.below hB) HN.out).mono ?_)
  rintro e w2 ⟨A2, c2, rfl, ho2, hc3, hc4, hb⟩
  replace hB := below_call hB hb
  replace hr1 := hr1.below hb
  have hr2 := ho2.rds
  clear hb ho2
  rw [HFE.out]
  go_wp2_with (go_at_call 25; ((with_reducible refine (error_errV fe fe _ (hl.below hB)).mono ?_); rintro e we ⟨rfl, hbe⟩; replace hB := below_call hB hbe; rw [show (fe == fe) = true from beq_self_eq_true _]))
  (with_reducible refine (ints_any _ _ _ _ _ _ (fiveR xs) (fiveR xs) _ (hr2.below hbe) (hr1.below hbe) HFR.out HFR.out).mono ?_); rintro e wi ⟨rfl, qi, rfl⟩; replace hB := below_drewN hB qi
  clear hr1 hr2 HFR HFE hbe
  obtain ⟨be, hbe⟩ : ∃ be, bitsE ys = be := ⟨_, rfl⟩
  have HBE := Lib.hid hbe
  clear hbe
  go_wp2_with fail
  (with_reducible refine (refBits_any _ _ _ _ _ (hs.below hB) HM.out).mono ?_)
  rintro e w4 ⟨rfl, rfl⟩
  rw [HBE.out]
  go_upto_block 2 with fail
  go_cut [11, 12, 13, 14, 15] from 58 to 97 (fun s11 s12 s13 s14 s15 wx => ∃ A3 c3 A4 c4, s11 = .slice A3 (turnR ys).length c3 ∧ s12 = .slice A4 (backR ys).length c4 ∧ Own wx w.heap.size (.slice A3 (turnR ys).length c3) (turnR ys) ∧ Own wx w.heap.size (.slice A4 (backR ys).length c4) (backR ys) ∧ Below w.heap.size w wx)
  case first =>
    go_wp2_with fail
    generalize we.drewN qi = w5 at *
    go_loopw [11, 12, 13, 14, 15] (fun s11 s12 s13 s14 s15 wr => ∃ (k : Nat) (lt lb : List Int) (j : Int) (A3 : Option Addr) (c3 : Nat) (A4 : Option Addr) (c4 : Nat), k ≤ ys.length ∧ s14 = .int .i64 k ∧ s13 = .int .i64 j ∧ s11 = .slice A3 lt.length c3 ∧ s12 = .slice A4 lb.length c4 ∧ Hid (turnSt (ys.take k) = (lt, j)) ∧ Hid ((backSt (ys.take k)).1 = lb) ∧ Own wr w.heap.size (.slice A3 lt.length c3) lt ∧ Own wr w.heap.size (.slice A4 lb.length c4) lb ∧ Sep (.slice A3 lt.length c3) (.slice A4 lb.length c4) ∧ Hid (be ≠ 0 → k = 0) ∧ Below w.heap.size w wr) (fun _ _ _ i _ _ => ys.length - (intOf i).toNat)
    case atStart => exact ⟨0, [], [], 0, none, 0, none, 0, Nat.zero_le _, rfl, rfl, rfl, rfl, Lib.hid rfl, Lib.hid rfl, Own.nil_ _ _, Own.nil_ _ _, (fun b h => by cases h), Lib.hid (fun _ => rfl), hB⟩
    case round =>
      obtain ⟨k, lt, lb, j, A3, c3, A4, c4, hk, rfl, rfl, rfl, rfl, HT, HK, ho3, ho4, hsep, HE0, hB1⟩ := hrel
      by_cases h0 : be = 0
      · subst h0
        obtain ⟨hb, hlen⟩ := bits_of_ok HBE.out
        have HX := Lib.hid hb
        have hll : lt.length = k ∧ lb.length = k ∧ (j = 0 ∨ j = 1) := by
          have h1 := turn_all (ys.take k)
          have h2 := back_all (ys.take k) (fun b h => hb b (List.mem_of_mem_take h))
          unfold turnL at h1
          unfold backL at h2
          rw [HT.out] at h1
          rw [HK.out] at h2
          rw [List.length_take] at h1 h2
          exact ⟨by have := h1.1; simp only at this; omega, by have := h2.1; omega, h1.2.2⟩
        obtain ⟨hl1, hl2, hj⟩ := hll
        have HL1 := Lib.hid hl1
        have HL2 := Lib.hid hl2
        have hl3 : lt.length ≤ 200 := by omega
        have hl4 : lb.length ≤ 200 := by omega
        have HJ := Lib.hid hj
        have hj0 : 0 ≤ j := by omega
        have hj1 : j ≤ 1 := by omega
        clear hl1 hl2 hj hb
        by_cases hlt : k < ys.length
        · obtain ⟨b, off, hk', rfl, hc0⟩ := hs.int hlt
          have hblt : b < w.heap.size := cell_lt hc0
          have hcell := (hB1.cell (p := ⟨b, off + k, none⟩) hblt).trans hc0
          have hz := HX.out _ (List.getElem_mem hk')
          have HT2 := Lib.hid (show turnSt (ys.take (k + 1)) = turnStep (lt, j) ys[k] from by rw [turnSt_snoc ys k hk', HT.out])
          have HK2 := Lib.hid (show (backSt (ys.take (k + 1))).1 = lb ++ [xorB ys[k] (backSt (ys.take k)).2] from by rw [backSt_snoc ys k hk', ← HK.out]; rfl)
          have hk200 : k ≤ 200 := by omega
          have HC0 := Lib.hid hc0
          clear hc0
          rcases Nat.eq_zero_or_pos k with rfl | hk0
          · have HK3 := Lib.hid (show (backSt (ys.take 1)).1 = lb ++ [xorB ys[0] 0] from HK2.out)
            rw [Nat.add_zero] at hcell HC0
            clear HK2
            generalize ys[0] = z at *
            rcases hz with rfl | rfl
            all_goals
              go_wp2_with (first
                | (at_builtin; refine wp_append_int wr rfl (.tmp 75) (.tmp 77) rfl w w.heap.size (.slice A3 lt.length c3) lt rfl ho3 _ rfl (by omega) hB1.size hB1 ?_; intro A5 c5 w6 ho5 hc5 hc6 hB6 hg6 hk6; have ho6 := (ho4.below ((Below.refl _ _).alloc (Nat.le_refl _) _)).far hg6 hsep.symm; have hsep6 := hsep.symm.grown ho4 (by omega) hk6; have hcell6 := (hB6.cell (p := ⟨b, off, none⟩) hblt).trans HC0.out)
                | (at_builtin; refine wp_append_int w6 rfl (.tmp 92) (.tmp 93) rfl w w.heap.size (.slice A4 lb.length c4) lb rfl ho6 _ rfl (by omega) hB6.size hB6 ?_; intro A7 c7 w7 ho7 hc7 hc8 hB7 hg7 hk7; have ho8 := (ho5.below ((Below.refl _ _).alloc (Nat.le_refl _) _)).far hg7 hsep6.symm; have hsep7 := hsep6.symm.grown ho5 (by omega) hk7)
                | (at_builtin; refine wp_append_int w6 rfl (.tmp 95) (.tmp 96) rfl w w.heap.size (.slice A4 lb.length c4) lb rfl ho6 _ rfl (by omega) hB6.size hB6 ?_; intro A7 c7 w7 ho7 hc7 hc8 hB7 hg7 hk7; have ho8 := (ho5.below ((Below.refl _ _).alloc (Nat.le_refl _) _)).far hg7 hsep6.symm; have hsep7 := hsep6.symm.grown ho5 (by omega) hk7))
              go_roundw
              case rel => exact ⟨1, _, _, _, A5, c5, A7, c7, by omega, by simp, rfl, (by first | rfl | exact slice_eq (by simp)), (by first | rfl | exact slice_eq (by simp)), (by refine Lib.hid ?_; rw [HT2.out]; first | exact tStep0 HJ.out | exact tStep1 HJ.out), (by exact Lib.hid HK3.out), ho8.self, ho7.self, by simpa using hsep7, Lib.hid (fun h => absurd rfl h), hB7⟩
              case measure => simp [intOf]; omega
          · obtain ⟨k0, hk1⟩ : ∃ k0, k0 + 1 = k := ⟨k - 1, by omega⟩
            have hk0l : k0 < ys.length := by omega
            obtain ⟨b', off', hk'', e1, hp0⟩ := hs.int hk0l
            injection e1 with e1
            injection e1 with e1 e2
            subst e1
            subst e2
            have hprev := (hB1.cell (p := ⟨b, off + k0, none⟩) hblt).trans hp0
            have hp := HX.out _ (List.getElem_mem hk'')
            have HK3 := Lib.hid (show (backSt (ys.take (k + 1))).1 = lb ++ [xorB ys[k] ys[k0]] from by
              rw [HK2.out]
              congr 2
              subst hk1
              rw [backSt_snoc ys k0 hk'']
              rfl)
            have HP0 := Lib.hid hp0
            have hkm : (k : Int) - 1 = (k0 : Int) := by omega
            have hk03 : (0 : Int) < (k : Int) := by omega
            have HK1 := Lib.hid hk1
            clear HK2 hp0 hk1
            generalize ys[k] = z at *
            generalize ys[k0] = p at *
            rcases hz with rfl | rfl <;> rcases hp with rfl | rfl
            all_goals
              go_wp2_with (first
                | (at_builtin; refine wp_append_int wr rfl (.tmp 75) (.tmp 77) rfl w w.heap.size (.slice A3 lt.length c3) lt rfl ho3 _ rfl (by omega) hB1.size hB1 ?_; intro A5 c5 w6 ho5 hc5 hc6 hB6 hg6 hk6; have ho6 := (ho4.below ((Below.refl _ _).alloc (Nat.le_refl _) _)).far hg6 hsep.symm; have hsep6 := hsep.symm.grown ho4 (by omega) hk6; have hcell6 := (hB6.cell (p := ⟨b, off + k, none⟩) hblt).trans HC0.out; have hprev6 := (hB6.cell (p := ⟨b, off + k0, none⟩) hblt).trans HP0.out)
                | (at_builtin; refine wp_append_int w6 rfl (.tmp 92) (.tmp 93) rfl w w.heap.size (.slice A4 lb.length c4) lb rfl ho6 _ rfl (by omega) hB6.size hB6 ?_; intro A7 c7 w7 ho7 hc7 hc8 hB7 hg7 hk7; have ho8 := (ho5.below ((Below.refl _ _).alloc (Nat.le_refl _) _)).far hg7 hsep6.symm; have hsep7 := hsep6.symm.grown ho5 (by omega) hk7)
                | (at_builtin; refine wp_append_int w6 rfl (.tmp 95) (.tmp 96) rfl w w.heap.size (.slice A4 lb.length c4) lb rfl ho6 _ rfl (by omega) hB6.size hB6 ?_; intro A7 c7 w7 ho7 hc7 hc8 hB7 hg7 hk7; have ho8 := (ho5.below ((Below.refl _ _).alloc (Nat.le_refl _) _)).far hg7 hsep6.symm; have hsep7 := hsep6.symm.grown ho5 (by omega) hk7))
              go_roundw
              case rel => exact ⟨k + 1, _, _, _, A5, c5, A7, c7, by omega, by go_num, rfl, (by first | rfl | exact slice_eq (by simp)), (by first | rfl | exact slice_eq (by simp)), (by refine Lib.hid ?_; rw [HT2.out]; first | exact tStep0 HJ.out | exact tStep1 HJ.out), (by exact Lib.hid HK3.out), ho8.self, ho7.self, by simpa using hsep7, Lib.hid (fun h => absurd rfl h), hB7⟩
              case measure => simp [intOf]; omega
        · have HQ1 : Hid (turnR ys = lt) := Lib.hid (by
            unfold turnR turnL
            have := HT.out
            rw [List.take_of_length_le (by omega)] at this
            rw [if_pos HBE.out, this])
          have HQ2 : Hid (backR ys = lb) := Lib.hid (by
            unfold backR backL
            have := HK.out
            rw [List.take_of_length_le (by omega)] at this
            rw [if_pos HBE.out, this])
          go_wp2
          go_meet
          case rel => rw [HQ1.out, HQ2.out]; exact ⟨A3, c3, A4, c4, rfl, rfl, ho3, ho4, hB1⟩
      · have hb0 : (be == 0) = false := by rw [beq_eq_false_iff_ne]; exact h0
        obtain rfl : k = 0 := HE0.out h0
        have hl1 : lt = [] := by
          have := HT.out
          simp only [List.take_zero] at this
          exact (Prod.mk.inj this).1.symm
        have hl2 : lb = [] := by
          have := HK.out
          simp only [List.take_zero] at this
          exact this.symm
        subst hl1
        subst hl2
        have HQ1 : Hid (turnR ys = []) := Lib.hid (by unfold turnR; rw [HBE.out, if_neg h0])
        have HQ2 : Hid (backR ys = []) := Lib.hid (by unfold backR; rw [HBE.out, if_neg h0])
        have HF0 := Lib.hid h0
        clear h0
        go_wp2
        all_goals
          go_meet
          case rel => rw [HQ1.out, HQ2.out]; exact ⟨A3, c3, A4, c4, rfl, rfl, ho3, ho4, hB1⟩
  case rest =>
  generalize we.drewN qi = w5 at *
  obtain ⟨A3, c3, A4, c4, rfl, rfl, ho3, ho4, hB1⟩ := hcut
  replace hB := hB1
  clear hB1
  have hr3 := ho3.rds
  have hr4 := ho4.rds
  have HTR : Hid ((turnR ys).length ≤ maxLen) := Lib.hid (by
    unfold turnR
    split
    · rw [(turn_all ys).1]; exact HM.out
    · exact Nat.zero_le _)
  have HKR : Hid ((backR ys).length ≤ maxLen) := Lib.hid (by
    unfold backR
    split
    · rename_i h
      rw [(back_all ys (bits_of_ok h).1).1]; exact HM.out
    · exact Nat.zero_le _)
  clear ho3 ho4
  go_wp2_with fail
  (with_reducible refine (turns_all _ _ _ _ _ (hs.below hB) HM.out).mono ?_)
  rintro e w6 ⟨A5, c5, rfl, ho5, hc5, hc6, hb⟩
  replace hB := below_call hB hb
  replace hr3 := hr3.below hb
  replace hr4 := hr4.below hb
  have hr5 := ho5.rds
  clear hb ho5
  rw [HBE.out]
  go_wp2_with (go_at_call 25; ((with_reducible refine (error_errV be be _ (hl.below hB)).mono ?_); rintro e we ⟨rfl, hbe⟩; replace hB := below_call hB hbe; rw [show (be == be) = true from beq_self_eq_true _]))
  replace hr3 := hr3.below hbe
  replace hr4 := hr4.below hbe
  replace hr5 := hr5.below hbe
  clear hbe
  (with_reducible refine (ints_any _ _ _ _ _ _ (turnR ys) (turnR ys) _ hr5 hr3 HTR.out HTR.out).mono ?_); rintro e wi ⟨rfl, qi, rfl⟩; replace hB := below_drewN hB qi
  replace hr4 := hr4.drewN qi
  generalize World.drewN _ qi = w7 at *
  clear hr3 hr5
  go_wp2_with fail
  (with_reducible refine (bits_all _ _ _ _ _ (hs.below hB) HM.out).mono ?_)
  rintro e w8 ⟨A6, c6', rfl, ho6, hc7, hc8, hb⟩
  replace hB := below_call hB hb
  replace hr4 := hr4.below hb
  have hr6 := ho6.rds
  clear hb ho6
  rw [HBE.out]
  go_wp2_with (go_at_call 25; ((with_reducible refine (error_errV be be _ (hl.below hB)).mono ?_); rintro e we ⟨rfl, hbe⟩; replace hB := below_call hB hbe; rw [show (be == be) = true from beq_self_eq_true _]))
  replace hr4 := hr4.below hbe
  replace hr6 := hr6.below hbe
  clear hbe
  (with_reducible refine (ints_any _ _ _ _ _ _ (backR ys) (backR ys) _ hr6 hr4 HKR.out HKR.out).mono ?_); rintro e wi ⟨rfl, qi, rfl⟩; replace hB := below_drewN hB qi
  generalize World.drewN _ qi = w9 at *
  clear hr4 hr6
  clear HTR HKR
  go_upto_region 32 with fail
  go_cut [131] from 124 to 131 (fun s wx => s = .bool (e3B be ys.length) ∧ w9 = wx)
  case first =>
    by_cases h0 : be = 0
    · subst h0
      by_cases h5 : ys.length % 5 = 0
      · have h5' : ((ys.length : Int) % 5 != 0) = false := by rw [bne_eq_false_iff_eq]; omega
        have HX : Hid (e3B 0 ys.length = false) := Lib.hid (by unfold e3B; simp [h5])
        clear h5
        go_wp2_with fail
        go_meet
        case rel => exact ⟨by rw [HX.out], rfl⟩
      · have h5' : ((ys.length : Int) % 5 != 0) = true := by rw [bne_iff_ne]; omega
        have HX : Hid (e3B 0 ys.length = true) := Lib.hid (by unfold e3B; simp [h5])
        clear h5
        go_wp2_with fail
        go_meet
        case rel => exact ⟨by rw [HX.out], rfl⟩
    · have hb0 : (be == 0) = false := by rw [beq_eq_false_iff_ne]; exact h0
      have HX : Hid (e3B be ys.length = false) := Lib.hid (by unfold e3B; rw [hb0]; rfl)
      clear h0
      go_wp2_with fail
      go_meet
      case rel => exact ⟨by rw [HX.out], rfl⟩
  case rest =>
  obtain ⟨rfl, rfl⟩ := hcut
  obtain ⟨e3, HE3⟩ : ∃ e3, Hid ((if e3B be ys.length then 3 else be) = e3) := ⟨_, Lib.hid rfl⟩
  have HFE : Hid ((e3 ≠ 0 → fourE ys = e3) ∧ (e3 = 0 → be = 0 ∧ ys.length % 5 = 0)) := Lib.hid (by
    have h1 := HE3.out
    have h2 := HBE.out
    unfold e3B at h1
    unfold fourE
    rw [h2]
    by_cases h0 : be = 0
    · subst h0
      by_cases h5 : ys.length % 5 = 0
      · simp [h5] at h1
        subst h1
        exact ⟨fun h => absurd rfl h, fun _ => ⟨rfl, h5⟩⟩
      · simp [h5] at h1
        subst h1
        exact ⟨fun _ => by simp [h5], fun h => absurd h (by decide)⟩
    · simp [h0] at h1
      subst h1
      exact ⟨fun _ => by rw [if_neg h0], fun h => absurd h h0⟩)
  generalize e3B be ys.length = bb at *
  go_upto_if 131 with (fail)
  go_cut [5] (fun s5 wx => s5 = .int .i64 e3 ∧ w9 = wx)
  case first =>
    rcases bb with _ | _
    all_goals
      have HX := Lib.hid HE3.out.symm
      clear HE3
      go_wp2_with fail
      go_meet
      case rel => exact ⟨by rw [HX.out]; rfl, rfl⟩
  case rest =>
  obtain ⟨rfl, rfl⟩ := hcut
  clear HE3
  go_upto_block 4 with fail
  go_cut [5, 6, 18, 19] from 132 to 153 (fun s5 s6 s18 s19 wx => L3Out ys w.heap.size s5 s6 wx ∧ Below w.heap.size w wx)
  case first =>
    go_wp2_with fail
    go_loopw [5, 6, 18, 19] (fun s5 s6 s18 s19 wr => L3 ys e3 w.heap.size s5 s6 s18 wr ∧ Below w.heap.size w wr) (fun _ _ i _ _ => ys.length - (intOf i).toNat)
    case atStart =>
      refine ⟨⟨0, by simp, none, 0, 0, rfl, ?_⟩, hB⟩
      by_cases h : e3 = 0
      · exact .inr (.inl ⟨h, by rw [h], Nat.zero_le _, fun j hj => absurd hj (by omega), rfl, Own.nil_ _ _, by simp, by unfold maxLen; omega⟩)
      · exact .inl ⟨h, rfl, rfl, rfl⟩
    case round =>
      obtain ⟨⟨k, rfl, A8, c8, n8, rfl, hcase⟩, hB1⟩ := hrel
      rcases hcase with ⟨h3, hk, rfl, hn8⟩ | ⟨h3, rfl, hk, hok, rfl, ho8, hc9, hc10⟩ | ⟨h3, rfl, hno⟩
      · have HX : Hid (fourE ys = e3) := Lib.hid (HFE.out.1 h3)
        have hb3 : (e3 == 0) = false := by rw [beq_eq_false_iff_ne]; exact h3
        have H3 := Lib.hid h3
        subst hk
        subst hn8
        clear h3
        go_wp2
        all_goals
          go_meet
          case rel => exact ⟨⟨A8, 0, c8, by rw [HX.out], rfl, fun h => absurd (HX.out.symm.trans h) H3.out⟩, hB1⟩
      · subst h3
        obtain ⟨hbe, h5⟩ := HFE.out.2 rfl
        obtain ⟨hbits, hlen⟩ := bits_of_ok (HBE.out.trans hbe)
        have hch : chunks 5 ys.length * 5 = ys.length := by unfold chunks; omega
        have HOK := Lib.hid hok
        have HBI := Lib.hid hbits
        have HF4 : Hid (fourE ys = if fourOk ys (chunks 5 ys.length) then 0 else 2) := Lib.hid (by unfold fourE; rw [if_pos (HBE.out.trans hbe), if_pos h5])
        have HCH := Lib.hid hch
        have H5 := Lib.hid h5
        clear hok hbits hbe h5 hch
        by_cases hlt : k * 5 < ys.length
        · have hk5 : k * 5 + 5 ≤ ys.length := by have := HCH.out; omega
          have hkc : k < chunks 5 ys.length := by have := HCH.out; omega
          have hk40 : k ≤ 40 := by omega
          have hk5d : k * 5 + 5 ≤ d := by have := HMD.out; omega
          have hk5e : ¬ d ≤ k * 5 := by omega
          have hrc : Rds wr 1 (Option.map (fun x => x.add (k * 5)) B) 5 (ic ((ys.drop (k * 5)).take 5)) := by
            have h1 := (hs.below hB1).drop (k := k * 5) (c := d) (by omega) HMD.out
            have h2 := h1.take (k := 5) (by omega)
            unfold cutA at h2
            rwa [if_neg (by omega)] at h2
          have hbc : Bits ((ys.drop (k * 5)).take 5) := fun b hb => HBI.out b (List.mem_of_mem_drop (List.mem_of_mem_take hb))
          have HDI : Hid (idxI (num5 ((ys.drop (k * 5)).take 5)) codesL = decI ys k) := Lib.hid rfl
          have HFL := Lib.hid (fourL_succ ys k)
          have HLL := Lib.hid (fourL_len ys k)
          have HL2 := Lib.hid (fourL_len ys (k + 1))
          obtain ⟨z, HZ⟩ : ∃ z, Hid (decI ys k = z) := ⟨_, Lib.hid rfl⟩
          go_wp2_with fail
          (with_reducible refine (number_any _ _ _ _ hrc hbc).mono ?_)
          rintro e w10 ⟨rfl, hb⟩
          rw [HDI.out, HZ.out]
          have ho9 := ho8.below hb
          have hB2 := below_call hB1 hb
          clear hb hrc hbc HDI
          have hval : z = -1 ∨ 0 ≤ z ∧ z ≤ 15 := by
            rw [← HZ.out]
            unfold decI idxI
            split
            · rename_i h
              right
              have : codesL.length = 16 := rfl
              omega
            · exact .inl rfl
          by_cases hz : z < 0
          · have hz1 : -1 ≤ z := by omega
            go_wp2_with (at_builtin; refine wp_append_int w10 rfl _ _ rfl w w.heap.size (.slice A8 k c8) (fourL ys k) rfl ho9 z rfl (by rw [HLL.out]; omega) hB2.size hB2 ?_; intro A9 c9 w11 ho10 hc11 hc12 hB3 _ _)
            go_roundw
            case rel => exact ⟨⟨k + 1, by go_num, A9, c9, _, rfl, .inr (.inr ⟨rfl, rfl, fun h => by have := h k hkc; rw [HZ.out] at this; omega⟩)⟩, hB3⟩
            case measure => simp [intOf]; omega
          · have hz1 : 0 ≤ z := by omega
            go_wp2_with (at_builtin; refine wp_append_int w10 rfl _ _ rfl w w.heap.size (.slice A8 k c8) (fourL ys k) rfl ho9 z rfl (by rw [HLL.out]; omega) hB2.size hB2 ?_; intro A9 c9 w11 ho10 hc11 hc12 hB3 _ _)
            go_roundw
            case rel =>
              refine ⟨⟨k + 1, by go_num, A9, c9, _, rfl, .inr (.inl ⟨rfl, rfl, by omega, ?_, by rw [HLL.out], ?_, hc11, hc12⟩)⟩, hB3⟩
              · intro j hj
                rcases Nat.lt_or_ge j k with h | h
                · exact HOK.out j h
                · obtain rfl : j = k := by omega
                  rw [HZ.out]; exact hz1
              · rw [HFL.out, HZ.out]
                exact ho10
            case measure => simp [intOf]; omega
        · have hkc : k = chunks 5 ys.length := by have := HCH.out; omega
          have HX : Hid (fourE ys = 0) := Lib.hid (by rw [HF4.out, if_pos (by rw [← hkc]; exact HOK.out)])
          have HY : Hid (fourR ys = fourL ys k) := Lib.hid (by unfold fourR; rw [HX.out, if_pos rfl, hkc])
          have HL := Lib.hid (fourL_len ys k)
          clear hkc
          go_wp2
          all_goals
            go_meet
            case rel => exact ⟨⟨A8, k, c8, by rw [HX.out], rfl, fun _ => by rw [HY.out, HL.out]; exact ⟨rfl, ho8⟩⟩, hB1⟩
      · subst h3
        obtain ⟨hbe, h5⟩ := HFE.out.2 rfl
        have HX : Hid (fourE ys = 2) := Lib.hid (by unfold fourE; rw [if_pos (HBE.out.trans hbe), if_pos h5, if_neg hno])
        clear hno hbe h5
        go_wp2
        all_goals
          go_meet
          case rel => exact ⟨⟨A8, n8, c8, by rw [HX.out], rfl, fun h => absurd (HX.out.symm.trans h) (by decide)⟩, hB1⟩
  case rest =>
  obtain ⟨⟨A8, n8, c8, rfl, rfl, h8⟩, hB1⟩ := hcut
  replace hB := hB1
  have H8 := Lib.hid h8
  have HFR : Hid ((fourR ys).length ≤ maxLen) := Lib.hid (by
    unfold fourR
    split
    · rw [fourL_len]
      have := HM.out
      unfold chunks; omega
    · exact Nat.zero_le _)
  obtain ⟨f4, HF4⟩ : ∃ f4, Hid (fourE ys = f4) := ⟨_, Lib.hid rfl⟩
  clear hB1 h8 HFE
  rw [HF4.out]
  by_cases h0 : f4 = 0
  · subst h0
    obtain ⟨hn8, ho8⟩ := H8.out HF4.out
    subst hn8
    have hr8 := ho8.rds
    clear ho8
    go_wp2_with fail
    (with_reducible refine (four_all _ _ _ _ _ (hcw.below hB) (hs.below hB) HMD.out HD.out).mono ?_)
    rintro e w12 ⟨A9, c9, rfl, ho9, hc13, hc14, hb⟩
    replace hB := below_call hB hb
    replace hr8 := hr8.below hb
    have hr9 := ho9.rds
    clear hb ho9
    rw [HF4.out]
    go_wp2_with (go_at_call 25; ((with_reducible refine (error_errV (0 : Int) (0 : Int) _ (hl.below hB)).mono ?_); rintro e we ⟨rfl, hbe⟩; replace hB := below_call hB hbe; rw [show ((0 : Int) == (0 : Int)) = true from beq_self_eq_true _]))
    replace hr8 := hr8.below hbe
    replace hr9 := hr9.below hbe
    clear hbe
    (with_reducible refine (ints_any _ _ _ _ _ _ (fourR ys) (fourR ys) _ hr9 hr8 HFR.out HFR.out).mono ?_); rintro e wi ⟨rfl, qi, rfl⟩; replace hB := below_drewN hB qi
    go_wp2
    go_ret
    exact ⟨rfl, hB⟩
  · have hf0 : (f4 != 0) = true := by rw [bne_iff_ne]; exact h0
    have HR0 : Hid (fourR ys = []) := Lib.hid (by unfold fourR; rw [HF4.out, if_neg h0])
    clear h0
    go_wp2_with fail
    (with_reducible refine (four_all _ _ _ _ _ (hcw.below hB) (hs.below hB) HMD.out HD.out).mono ?_)
    rintro e w12 ⟨A9, c9, rfl, ho9, hc13, hc14, hb⟩
    replace hB := below_call hB hb
    rw [HR0.out] at ho9
    have hr9 := ho9.rds
    clear hb ho9
    rw [HF4.out, HR0.out]
    simp only [List.length_nil] at hr9 ⊢
    go_wp2_with (go_at_call 25; ((with_reducible refine (error_errV f4 f4 _ (hl.below hB)).mono ?_); rintro e we ⟨rfl, hbe⟩; replace hB := below_call hB hbe; rw [show (f4 == f4) = true from beq_self_eq_true _]))
    replace hr9 := hr9.below hbe
    clear hbe
    (with_reducible refine (ints_any _ _ _ _ _ _ ([]) ([]) _ hr9 Rds.nil_ (Nat.zero_le _) (Nat.zero_le _)).mono ?_); rintro e wi ⟨rfl, qi, rfl⟩; replace hB := below_drewN hB qi
    go_wp2
    go_ret
    exact ⟨rfl, hB⟩
end Go.Proofs.YtalehbhimnhnjaaDoor
