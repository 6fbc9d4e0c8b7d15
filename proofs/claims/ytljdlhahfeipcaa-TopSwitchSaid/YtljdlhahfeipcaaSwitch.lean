/- The contracts of the switch: find, Port, Frame. -/
import Derived.Test.YtljdlhahfeipcaaEnt
import Derived.Outline
import Derived.BigQuiet
import Derived.Deep.RegionHeld3
import Derived.Deep.QuietTactic
import Derived.Deep.DrawnRows
namespace Go.Proofs.Ytljdlhahfeipcaa
open Go.RowKit
attribute [local go_sem ↓] Go.wp_at_zero Go.wp_at_succ
def chkE (a p : Int) : Int := if inB a 0 65535 = true ∧ inB p 0 3 = true then 0 else 1
theorem check_good (a p : Int) (w : World) (h1 : inB a 0 65535 = true) (h2 : inB p 0 3 = true) :
    Calls Try.prog 24 #[.int .i64 a, .int .i64 p] w fun e w' => e = .returned .nilIface ∧ w = w' := by
  go_enter Try.func24, Try.ntmps24
  go_wp2_with (first | ((go_at_call 22; (with_reducible refine (within_any _ _ _ _).mono ?_); rintro e w' ⟨rfl, rfl⟩); rw [h1]) | ((go_at_call 22; (with_reducible refine (within_any _ _ _ _).mono ?_); rintro e w' ⟨rfl, rfl⟩); rw [h2]))
  go_ret
  exact ⟨rfl, rfl⟩
theorem check_wrong (a p : Int) (w : World) (h : inB a 0 65535 = false ∨ inB p 0 3 = false) :
    Calls Try.prog 24 #[.int .i64 a, .int .i64 p] w fun e w' => e = .returned (.iface 23 (.int .i64 1)) ∧ w = w' := by
  rcases h1 : inB a 0 65535 with _ | _
  · go_enter Try.func24, Try.ntmps24
    go_wp2_with ((go_at_call 22; (with_reducible refine (within_any _ _ _ _).mono ?_); rintro e w' ⟨rfl, rfl⟩); rw [h1])
    go_ret
    exact ⟨rfl, rfl⟩
  · have h2 : inB p 0 3 = false := by
      rcases h with h | h
      · rw [h1] at h; cases h
      · exact h
    go_enter Try.func24, Try.ntmps24
    go_wp2_with (first | ((go_at_call 22; (with_reducible refine (within_any _ _ _ _).mono ?_); rintro e w' ⟨rfl, rfl⟩); rw [h1]) | ((go_at_call 22; (with_reducible refine (within_any _ _ _ _).mono ?_); rintro e w' ⟨rfl, rfl⟩); rw [h2]))
    go_ret
    exact ⟨rfl, rfl⟩
theorem first_or_none (tab : List (Int × Int)) (a : Int) : (∀ x ∈ tab, x.1 ≠ a) ∨ ∃ i, ∃ h : i < tab.length, tab[i].1 = a ∧ ∀ j (hj : j < i), tab[j].1 ≠ a := by
  induction tab with
  | nil => exact .inl (by simp)
  | cons x t ih =>
    by_cases hx : x.1 = a
    · exact .inr ⟨0, by simp, hx, fun j hj => absurd hj (Nat.not_lt_zero _)⟩
    · rcases ih with h | ⟨i, hi, h1, h2⟩
      · left
        intro y hy
        rcases List.mem_cons.1 hy with rfl | hy
        · exact hx
        · exact h y hy
      · refine .inr ⟨i + 1, by simpa using hi, by simpa using h1, fun j hj => ?_⟩
        cases j with
        | zero => simpa using hx
        | succ j => simpa using h2 j (by omega)
def lookE : List (Int × Int) → Int → Option Int
  | [], _ => none
  | x :: t, a => if x.1 = a then some x.2 else lookE t a
theorem look_none {tab : List (Int × Int)} {a : Int} (h : ∀ x ∈ tab, x.1 ≠ a) : lookE tab a = none := by
  induction tab with
  | nil => rfl
  | cons x t ih => rw [lookE, if_neg (h x (by simp)), ih fun y hy => h y (by simp [hy])]
theorem look_at {tab : List (Int × Int)} {a : Int} : ∀ {i : Nat} (h : i < tab.length), tab[i].1 = a → (∀ j (hj : j < i), tab[j].1 ≠ a) → lookE tab a = some tab[i].2 := by
  induction tab with
  | nil => intro i h; simp at h
  | cons x t ih =>
    intro i h h1 h2
    cases i with
    | zero => rw [lookE, if_pos (by simpa using h1)]; rfl
    | succ i =>
      rw [lookE, if_neg (by simpa using h2 0 (by omega)), ih (i := i) (by simpa using h) (by simpa using h1) (fun j hj => by simpa using h2 (j + 1) (by omega))]
      rfl
section
variable {n₀ ps : Nat} {v : Value} {tab : List (Int × Int)}
theorem find_at (a : Int) (w : World) (hs : Sw n₀ ps w v tab) (hl : tab.length ≤ 1000) (i : Nat) (hi : i < tab.length) (ha : tab[i].1 = a) (hj : ∀ j (hj : j < i), tab[j].1 ≠ a) :
    Calls Try.prog 23 #[.pointer (some ⟨ps, 0, none⟩), .int .i64 a] w fun e w' => e = .returned (.int .i64 i) ∧ Grew w w' := by
  obtain ⟨A, c, rfl, hc1, hc2⟩ := hs.own.shape
  have hr := hs.own.rds
  have hcell := hs.box.cell
  have HJ := Lib.hid hj
  have HA := Lib.hid ha
  clear hj ha
  go_enter Try.func23, Try.ntmps23
  go_wp2_with fail
  go_loopw [5, 6, 12] (fun _ _ s wr => ∃ k : Nat, k ≤ i ∧ s = .int .i64 k ∧ Grew w wr) (fun _ _ s _ => tab.length - (intOf s).toNat)
  case atStart => exact ⟨0, Nat.zero_le _, rfl, Grew.refl _⟩
  case round =>
    obtain ⟨k, hk, rfl, hG⟩ := hrel
    have hlt : k < tab.length := by omega
    obtain ⟨b, off, hk', rfl, hx1, hx2⟩ := hr.ent hlt
    have hy1 := hG.cell (a := ⟨b, off + k * 2, none⟩) (cell_lt hx1) hx1
    have hy2 := hG.cell (a := ⟨b, off + k * 2 + 1, none⟩) (cell_lt hx2) hx2
    clear hx1 hx2
    by_cases e : k = i
    · subst e
      have hxa := HA.out
      have he : (tab[k].1 == a) = true := by rw [hxa]; simp
      have HE := Lib.hid hxa
      generalize tab[k] = x at *
      clear hxa
      go_wp2
      go_ret
      exact ⟨rfl, hG.alloc _⟩
    · have hne := HJ.out k (by omega)
      have he : (tab[k].1 == a) = false := by rw [beq_eq_false_iff_ne]; exact hne
      generalize tab[k] = x at *
      go_wp2
      go_roundw
      case rel => exact ⟨k + 1, by omega, by simp, hG.alloc _⟩
      case measure => simp [intOf]; omega
theorem find_none (a : Int) (w : World) (hs : Sw n₀ ps w v tab) (hl : tab.length ≤ 1000) (hj : ∀ x ∈ tab, x.1 ≠ a) :
    Calls Try.prog 23 #[.pointer (some ⟨ps, 0, none⟩), .int .i64 a] w fun e w' => e = .returned (.int .i64 (-1)) ∧ Grew w w' := by
  obtain ⟨A, c, rfl, hc1, hc2⟩ := hs.own.shape
  have hr := hs.own.rds
  have hcell := hs.box.cell
  have HJ := Lib.hid hj
  clear hj
  go_enter Try.func23, Try.ntmps23
  go_wp2_with fail
  go_loopw [5, 6, 12] (fun _ _ s wr => ∃ k : Nat, k ≤ tab.length ∧ s = .int .i64 k ∧ Grew w wr) (fun _ _ s _ => tab.length - (intOf s).toNat)
  case atStart => exact ⟨0, Nat.zero_le _, rfl, Grew.refl _⟩
  case round =>
    obtain ⟨k, hk, rfl, hG⟩ := hrel
    by_cases hlt : k < tab.length
    · obtain ⟨b, off, hk', rfl, hx1, hx2⟩ := hr.ent hlt
      have hy1 := hG.cell (a := ⟨b, off + k * 2, none⟩) (cell_lt hx1) hx1
      have hy2 := hG.cell (a := ⟨b, off + k * 2 + 1, none⟩) (cell_lt hx2) hx2
      clear hx1 hx2
      have hne := HJ.out _ (List.getElem_mem hk')
      have he : (tab[k].1 == a) = false := by rw [beq_eq_false_iff_ne]; exact hne
      generalize tab[k] = x at *
      go_wp2
      go_roundw
      case rel => exact ⟨k + 1, by omega, by simp, hG.alloc _⟩
      case measure => simp [intOf]; omega
    · go_wp2
      go_ret
      exact ⟨rfl, hG⟩
theorem port_none (a : Int) (w : World) (hs : Sw n₀ ps w v []) :
    Calls Try.prog 17 #[.pointer (some ⟨ps, 0, none⟩), .int .i64 a] w fun e w' => e = .returned (.int .i64 (-1)) ∧ Grew w w' := by
  go_enter Try.func17, Try.ntmps17
  go_wp2_with fail
  (with_reducible refine (find_none a w hs (by simp) (by simp)).mono ?_)
  rintro e w1 ⟨rfl, hG⟩
  go_wp2
  go_ret
  exact ⟨rfl, hG⟩
end
theorem swNew_any (w : World) : Calls Try.prog 16 #[] w fun e w' => e = .returned (.pointer (some ⟨w.heap.size, 0, none⟩)) ∧ w.alloc (.cells #[.slice none 0 0] 45) = w' := by
  go_enter Try.func16, Try.ntmps16
  go_wp2
  go_ret
  exact ⟨rfl, rfl⟩
theorem sw_new (w : World) : Sw w.heap.size w.heap.size (w.alloc (.cells #[.slice none 0 0] 45)) (.slice none 0 0) [] :=
  ⟨Boxed.new w _ _, OwnE.nil_ _ _, by simp, Nat.le_refl _⟩
/-- By which ports it goes out. -/
def othersK (p : Int) (k : Nat) : List Int := ((List.range k).map Int.ofNat).filter fun q => decide (q ≠ p)
theorem othersK_succ (p : Int) (k : Nat) : othersK p (k + 1) = if (k : Int) = p then othersK p k else othersK p k ++ [(k : Int)] := by
  unfold othersK
  rw [List.range_succ, List.map_append, List.filter_append]
  by_cases h : (k : Int) = p <;> simp [h]
theorem othersK_len (p : Int) (k : Nat) : (othersK p k).length ≤ k := by
  unfold othersK
  refine Nat.le_trans (List.length_filter_le _ _) ?_
  simp
def othersE (p : Int) : List Int := othersK p 4
theorem Sw.kept {n₀ ps : Nat} {w w' : World} {v : Value} {tab : List (Int × Int)} (h : Sw n₀ ps w v tab) (hb : Below w.heap.size w w') : Sw n₀ ps w' v tab :=
  ⟨h.box.kept (row := none) ⟨hb.os, hb.tape, hb.output, hb.size, fun k hk _ => hb.block k hk⟩ (by simp), own_below h.own hb, Nat.le_trans h.low hb.size, h.ps⟩
theorem SwTo.of_below {ps : Nat} {w w' : World} (s : Value) (h : Below w.heap.size w w') : SwTo ps w s w' s := ⟨h.os, h.tape, h.output, h.size, fun i hi _ _ => h.block i hi, .inl rfl⟩
theorem Sw.boxed {n₀ ps : Nat} {w w' : World} {v v0 : Value} {tab : List (Int × Int)} (h : Sw n₀ ps w v tab) (e0 : v0.ownBlock = v.ownBlock) (hg : w.grownBy w' v0.ownBlock) : Boxed w' ps 45 v :=
  h.box.kept hg (by rw [e0]; exact h.box.not_row ent_ne h.own)
def resE (tab : List (Int × Int)) (to port : Int) : List Int :=
  match lookE tab to with
  | some q => if q ≠ port then [q] else []
  | none => othersE port
def FramePost (n₀ ps : Nat) (w : World) (v : Value) (tab : List (Int × Int)) (res : List Int) (e : Ending) (w' : World) : Prop :=
  ∃ v' A n c, e = .returned (.tuple #[.slice A n c, .nilIface]) ∧ Sw n₀ ps w' v' tab ∧ SwTo ps w v w' v' ∧ n = res.length ∧ Rds w' 1 A n (ic res) ∧ (0 < n → ∀ a, A = some a → w.heap.size ≤ a.block ∧ some a.block ≠ v'.ownBlock)
theorem frame_err (ps : Nat) (fr to port : Int) (w : World) (h : inB fr 0 65535 = false ∨ inB port 0 3 = false ∨ inB to 0 65535 = false) :
    Calls Try.prog 18 #[.pointer (some ⟨ps, 0, none⟩), .int .i64 fr, .int .i64 to, .int .i64 port] w fun e w' => e = .returned (.tuple #[.slice none 0 0, .iface 23 (.int .i64 1)]) ∧ w = w' := by
  by_cases h1 : inB fr 0 65535 = false ∨ inB port 0 3 = false
  · have H1 := Lib.hid h1
    clear h h1
    go_enter Try.func18, Try.ntmps18
    go_wp2_with (go_at_call 24; (with_reducible refine (check_wrong _ _ _ H1.out).mono ?_); rintro e w' ⟨rfl, rfl⟩)
    go_ret2
    exact ⟨rfl, rfl⟩
  · have h2 : inB fr 0 65535 = true ∧ inB port 0 3 = true := by
      exact ⟨Bool.of_not_eq_false fun h => h1 (.inl h), Bool.of_not_eq_false fun h => h1 (.inr h)⟩
    have h3 : inB to 0 65535 = false := by
      rcases h with h | h | h
      · exact absurd (.inl h) h1
      · exact absurd (.inr h) h1
      · exact h
    have H2 := Lib.hid h2
    have H3 := Lib.hid h3
    clear h h1 h2 h3
    go_enter Try.func18, Try.ntmps18
    go_wp2_with (first | (go_at_call 24; (with_reducible refine (check_good _ _ _ H2.out.1 H2.out.2).mono ?_); rintro e w' ⟨rfl, rfl⟩) | (go_at_call 24; (with_reducible refine (check_wrong _ _ _ (.inl H3.out)).mono ?_); rintro e w' ⟨rfl, rfl⟩))
    go_ret2
    exact ⟨rfl, rfl⟩
set_option maxRecDepth 100000 in
set_option maxHeartbeats 4000000 in
theorem frame_ok (n₀ ps : Nat) (fr to port : Int) (w : World) (v : Value) (tab rem : List (Int × Int)) (hs : Sw n₀ ps w v tab) (hl : tab.length ≤ 6) (h1 : inB fr 0 65535 = true) (h2 : inB port 0 3 = true) (h3 : inB to 0 65535 = true)
    (hrem : ((∀ x ∈ tab, x.1 ≠ fr) ∧ rem = tab) ∨ ∃ y, tab = (fr, y) :: rem) :
    Calls Try.prog 18 #[.pointer (some ⟨ps, 0, none⟩), .int .i64 fr, .int .i64 to, .int .i64 port] w (FramePost n₀ ps w v (rem ++ [(fr, port)]) (resE (rem ++ [(fr, port)]) to port)) := by
  have H1 := Lib.hid h1
  have H2 := Lib.hid h2
  have H3 := Lib.hid h3
  obtain ⟨p0, p1⟩ := inB_true.1 h2
  have hrl : rem.length ≤ 6 := by
    rcases hrem with ⟨_, rfl⟩ | ⟨y, rfl⟩
    · exact hl
    · simp at hl; omega
  clear h1 h2 h3
  go_enter Try.func18, Try.ntmps18
  go_wp2_with (first | (go_at_call 24; (with_reducible refine (check_good _ _ _ H1.out H2.out).mono ?_); rintro e w' ⟨rfl, rfl⟩) | (go_at_call 24; (with_reducible refine (check_good _ _ _ H3.out rfl).mono ?_); rintro e w' ⟨rfl, rfl⟩))
  rcases hrem with ⟨hn, rfl⟩ | ⟨y, rfl⟩
  focus
    have HNN := Lib.hid hn
    clear hn
    (with_reducible refine (find_none fr w hs (by omega) HNN.out).mono ?_)
    rintro e w2 ⟨rfl, hG⟩
    have hs2 := hs.grew hG
    have hT2 := SwTo.grew (ps := ps) v hG
    obtain ⟨s2, hse⟩ : ∃ s2, v = s2 := ⟨_, rfl⟩
    rw [hse] at hs2
    have hT3 : SwTo ps w v w2 s2 := by rw [← hse]; exact hT2
    clear hG HNN hse hT2 hs
  rotate_left
  focus
    have HF := Lib.hid (find_at fr w hs (by omega) 0 (by simp) rfl (fun j hj => absurd hj (Nat.not_lt_zero _)))
    (with_reducible refine HF.out.mono ?_)
    rintro e w1 ⟨rfl, hG⟩
    have hs1 := hs.grew hG
    have hT1 := SwTo.grew (ps := ps) v hG
    obtain ⟨A1, c1, rfl, hc1, hc2⟩ := hs1.own.shape
    have hcell1 := hs1.box.cell
    have hfz1 := hs1.box.frozen
    have hz1 : OwnE w1.drew n₀ (.slice A1 0 c1) [] := (hs1.grew ((Grew.refl w1).drewN 1)).own.zero
    have hfr := hs1.own.rds
    have hdr : Rds w1.drew 2 (Option.map (fun x => x.add 2) A1) rem.length (ec rem) := by
      rcases hs1.own.2 with ⟨h0, h0'⟩ | ⟨g', cap, cur, e, _⟩
      · simp at h0'
      · cases e
        refine ⟨ec_length rem, fun hp => ⟨g', 2, rfl, fun j hj => ?_⟩⟩
        obtain ⟨b, off, e2, hc⟩ := hfr.2 (by rw [ec_cons]; simp)
        cases e2
        have h5 := hc (2 + j) (by rw [ec_cons]; simp only [List.length_cons]; omega)
        rw [ec_cons, show 2 + j = j + 1 + 1 from by omega] at h5
        rw [show (2 : Nat) + j = j + 1 + 1 from by omega]
        simpa using h5
    have hdz : Rds w1.drew 2 A1 rem.length (ec rem) ∨ ¬ c1 = 1 := by
      by_cases hc : c1 = 1
      · have hl0 : rem = [] := by
          have : ((fr, y) :: rem).length ≤ c1 := hc1
          simp only [List.length_cons] at this
          exact List.eq_nil_of_length_eq_zero (by omega)
        subst hl0
        exact .inl ⟨rfl, fun h => absurd h (by simp [ec])⟩
      · exact .inr hc
    obtain ⟨A5, hA5, hr5⟩ : ∃ A5, A5 = (if c1 = 1 then A1 else Option.map (fun x => x.add 2) A1) ∧ Rds w1.drew 2 A5 rem.length (ec rem) := by
      refine ⟨_, rfl, ?_⟩
      by_cases hc : c1 = 1
      · rw [if_pos hc]
        rcases hdz with h | h
        · exact h
        · exact absurd hc h
      · rw [if_neg hc]; exact hdr
    have hwr1 : IntKind.i64.wrap 1 = 1 := rfl
    have hle1 : (1 : Int) ≤ (rem.length : Int) + 1 := by omega
    have hbs := hs1.box
    have HS1 := Lib.hid hs1
    have HT1 := Lib.hid hT1
    clear hdz hdr hfr hs hs1 hT1 hG HF
    by_cases hcc : c1 = 1
    all_goals
      first | (rw [if_pos hcc] at hA5; subst hcc) | rw [if_neg hcc] at hA5
      subst hA5
      go_wp2_with fail
      go_region_law ((refine step_append_ents _ rfl (.tmp 39) (.tmp 46) rfl n₀ _ [] (by rfl) hz1 _ rem.length _ rem rfl hr5 rfl (by simp; omega) (by simpa using HS1.out.low) ?_); intro A3 c3 w3 ho3 hg3 hk3; simp only [List.length_nil, Nat.zero_add, List.nil_append] at ho3 hk3; obtain ⟨hs3, hU3⟩ := Sw.put (HS1.out.grew ((Grew.refl _).drewN 1)) ho3 (by simp [ownBlock_slice]) hg3 hk3; have hb3 := Sw.boxed (HS1.out.grew ((Grew.refl _).drewN 1)) (by simp [ownBlock_slice]) hg3; have hcell3 := hb3.cell; have hfz3 := hb3.frozen)
      all_goals
        have hT3 := HT1.out.trans ((SwTo.grew _ ((Grew.refl _).drewN 1)).trans hU3)
        have hs2 := hs3
        clear HS1 HT1 hs3 hU3 hb3 hcell3 hfz3 ho3 hk3 hg3
        generalize hw2 : World.setCell w3 ⟨ps, 0, none⟩ (.slice A3 rem.length c3) = w2 at *
        obtain ⟨s2, hse⟩ : ∃ s2, s2 = Value.slice A3 rem.length c3 := ⟨_, rfl⟩
        rw [← hse] at hs2 hT3
        clear hw2 hse
  all_goals
    obtain ⟨A, c, rfl, hc1', hc2'⟩ := hs2.own.shape
    have hcell := hs2.box.cell
    have hfz := hs2.box.frozen
    have HS2 := Lib.hid hs2
    have HT3 := Lib.hid hT3
    clear hs2 hT3
    go_wp2_with ((refine wp_append_ent _ rfl (.tmp 54) (.tmp 58) rfl n₀ _ rem (by rfl) HS2.out.own (fr, port) rfl (by omega) HS2.out.low ?_); intro A4 c4 w4 ho4 hg4 hk4; obtain ⟨hs5, hT5⟩ := Sw.put (HS2.out.grew ((Grew.refl _).alloc _)) ho4 rfl hg4 (by simpa using hk4); have hb4 := Sw.boxed (HS2.out.grew ((Grew.refl _).alloc _)) rfl hg4; have hcell4 := hb4.cell; have hfz4 := hb4.frozen; have hcell5 := hs5.box.cell)
    have hT6 := HT3.out.trans ((SwTo.grew _ ((Grew.refl _).alloc _)).trans hT5)
    clear HS2 HT3 hT5 hb4 hcell4 hfz4 hg4 hk4 ho4
    generalize hw5 : World.setCell w4 ⟨ps, 0, none⟩ (.slice A4 (rem.length + 1) c4) = w5 at *
    have HS5 := Lib.hid hs5
    have HT6 := Lib.hid hT6
    clear hs5 hT6 hw5
    rcases first_or_none (rem ++ [(fr, port)]) to with hnn | ⟨i, hi, hi1, hi2⟩
    · have HR := Lib.hid (show resE (rem ++ [(fr, port)]) to port = othersE port from by unfold resE; rw [look_none hnn])
      (with_reducible refine (find_none to _ HS5.out (by simp; omega) hnn).mono ?_)
      rintro e w6 ⟨rfl, hG6⟩
      have HS6 := Lib.hid (HS5.out.grew hG6)
      have HT7 := Lib.hid (HT6.out.trans (SwTo.grew _ hG6))
      clear hnn hG6 HS5 HT6
      go_wp2_with fail
      go_loopw [15, 16, 94] (fun s15 _ s94 wr => ∃ k : Nat, k ≤ 4 ∧ s94 = .int .i64 k ∧ Own wr w6.heap.size s15 (othersK port k) ∧ Below w6.heap.size w6 wr) (fun _ _ s _ => 4 - (intOf s).toNat)
      case atStart => exact ⟨0, by omega, rfl, Own.nil_ _ _, Below.refl _ _⟩
      case round =>
        obtain ⟨k, hk, rfl, hO, hB⟩ := hrel
        obtain ⟨A7, c7, rfl, _, _⟩ := own_slice hO
        by_cases hlt : k < 4
        · by_cases he : (k : Int) = port
          · have hne : ((k : Int) != port) = false := by simpa using he
            have HOK := Lib.hid (show othersK port (k + 1) = othersK port k from by rw [othersK_succ, if_pos he])
            clear he
            go_wp2
            go_roundw
            case rel => exact ⟨k + 1, by omega, by go_num, by rw [HOK.out]; exact hO, hB⟩
            case measure => simp [intOf]; omega
          · have hne : ((k : Int) != port) = true := by simpa using he
            have HOK := Lib.hid (show othersK port (k + 1) = othersK port k ++ [(k : Int)] from by rw [othersK_succ, if_neg he])
            have hol := othersK_len port k
            clear he
            go_wp2_with ((refine wp_append_int _ rfl (.tmp 100) (.tmp 102) rfl w6 w6.heap.size _ (othersK port k) (by rfl) hO k rfl (by omega) hB.size hB ?_); intro A8 c8 w8 ho8 _ _ hb8 _ _)
            go_roundw
            case rel => exact ⟨k + 1, by omega, by go_num, by rw [HOK.out]; exact ho8, hb8⟩
            case measure => simp [intOf]; omega
        · obtain rfl : k = 4 := by omega
          go_wp2
          go_ret2
          rw [FramePost, HR.out]
          refine ⟨_, A7, _, c7, rfl, HS6.out.kept hB, HT7.out.trans (SwTo.of_below _ hB), rfl, hO.rds, fun _ a ha => ?_⟩
          have h1 := hO.range a ha
          refine ⟨Nat.le_trans HT7.out.size h1.1, fun e => ?_⟩
          have := (HS6.out.row_ge e.symm).2
          omega
    · have HR := Lib.hid (show resE (rem ++ [(fr, port)]) to port = if (rem ++ [(fr, port)])[i].2 ≠ port then [(rem ++ [(fr, port)])[i].2] else [] from by unfold resE; rw [look_at hi hi1 hi2])
      (with_reducible refine (find_at to _ HS5.out (by simp; omega) i hi hi1 hi2).mono ?_)
      rintro e w6 ⟨rfl, hG6⟩
      have hs6 := HS5.out.grew hG6
      have HT7 := Lib.hid (HT6.out.trans (SwTo.grew _ hG6))
      obtain ⟨b, off, hk', rfl, hx1, hx2⟩ := hs6.own.rds.ent (k := i) (by simpa using hi)
      have hcell6 := hs6.box.cell
      have HS6 := Lib.hid hs6
      have hi' : i < rem.length + 1 := by simpa using hi
      clear hi1 hi2 hG6 HS5 HT6 hs6
      obtain ⟨x, hX⟩ : ∃ x, (rem ++ [(fr, port)])[i] = x := ⟨_, rfl⟩
      rw [hX] at hx1 hx2 HR
      clear hX hk' hi
      by_cases hq : x.2 = port
      · have hne : (x.2 != port) = false := by simpa using hq
        have HQ := Lib.hid hq
        clear hq
        go_wp2
        go_ret2
        rw [FramePost, HR.out, if_neg (fun h => h HQ.out)]
        exact ⟨_, none, 0, 0, rfl, HS6.out, HT7.out, rfl, Rds.nil_, fun h => absurd h (Nat.lt_irrefl _)⟩
      · have hne : (x.2 != port) = true := by simpa using hq
        have HQ := Lib.hid hq
        clear hq
        go_wp2
        go_ret2
        rw [FramePost, HR.out, if_pos HQ.out]
        refine ⟨_, _, 1, _, rfl, HS6.out.grew ((Grew.refl _).alloc _), HT7.out.trans (SwTo.grew _ ((Grew.refl _).alloc _)), rfl, rds_one _ _ _, fun _ a ha => ?_⟩
        cases ha
        refine ⟨HT7.out.size, fun e => ?_⟩
        have := (HS6.out.row_ge e.symm).2
        simp at this
end Go.Proofs.Ytljdlhahfeipcaa
