/- The walk of cidr.Fewest. -/
import Derived.Test.YtfgpppgehbpblaaDoorPFew
import Derived.Test.YtfgpppgehbpblaaDoorPRow
import Derived.Deep.RegionHeld3
import Derived.Deep.QuietTactic
import Derived.BigQuiet
import Derived.Outline
import Derived.Deep.DeepCutAuto
import Derived.Deep.CutRange
namespace Go.Proofs.YtfgpppgehbpblaaDoor
open Go.RowKit Px
attribute [local go_sem ↓] Go.wp_at_zero Go.wp_at_succ
theorem bcell {W w1 : World} (hb : Below W.heap.size W w1) : (∀ b o, b < W.heap.size → w1.cell? ⟨b, o, none⟩ = W.cell? ⟨b, o, none⟩) ∧ (∀ b o, b < W.heap.size → w1.frozen? ⟨b, o, none⟩ = W.frozen? ⟨b, o, none⟩) :=
  ⟨fun b o h => hb.cell (p := ⟨b, o, none⟩) h, fun b o h => hb.frozen (p := ⟨b, o, none⟩) h⟩
theorem Grew.trans {a b c : World} (h : Grew a b) (k : Grew b c) : Grew a c := by
  obtain ⟨n, os, rfl⟩ := h
  obtain ⟨m, os', rfl⟩ := k
  have e : (Go.Sort.grow (a.drewN n) os).drewN m = Go.Sort.grow ((a.drewN n).drewN m) os := by simp [World.drewN, Go.Sort.grow]
  exact ⟨n + m, os ++ os', by rw [e, Go.Sort.grow_grow, World.drewN_drewN]⟩
def FewPost (xs : List (Int × Int)) (w : World) (e : Ending) (w' : World) : Prop :=
  (32 < xs.length → e = .returned (.tuple #[.slice none 0 0, .iface 66 (.int .i64 4)])) ∧ (xs.length ≤ 32 → errP xs ≠ 0 → e = .returned (.tuple #[.slice none 0 0, .iface 66 (.int .i64 (errP xs))])) ∧
  (xs.length ≤ 32 → errP xs = 0 → ∃ A c, e = .returned (.tuple #[.slice A (fewI xs).length c, .nilIface]) ∧ OwnP w' w.heap.size (.slice A (fewI xs).length c) (fewI xs)) ∧ Below w.heap.size w w'
theorem pfx_low {w : World} {A : Option Addr} {n : Nat} {xs : List (Int × Int)} (hr : Rds w 2 A n (pc xs)) (hn : 0 < n) : ∀ a, A = some a → a.block < w.heap.size := by
  obtain ⟨b, off, _, rfl, h1, _⟩ := hr.pfx hn
  intro a ha
  cases ha
  exact cell_lt h1
theorem OwnP.low {w : World} {base base' : Nat} {v : Value} {xs : List (Int × Int)} (h : OwnP w base v xs) (hb : base' ≤ base) : OwnP w base' v xs := by
  refine ⟨h.1, ?_⟩
  rcases h.2 with h0 | ⟨g, cap, cur, e, hg, h3⟩
  · exact .inl h0
  · exact .inr ⟨g, cap, cur, e, Nat.le_trans hb hg, h3⟩
theorem top_cells {w : World} {base g n c : Nat} {p q : Pf} {t : List Pf} (h : OwnP w base (.slice (some ⟨g, 0, none⟩) n c) (rowOf (p :: q :: t))) :
    w.cell? ⟨g, t.length * 2, none⟩ = some (.int .i64 (toI q).1) ∧ w.cell? ⟨g, t.length * 2 + 1, none⟩ = some (.int .i64 (toI q).2) ∧ w.cell? ⟨g, (t.length + 1) * 2, none⟩ = some (.int .i64 (toI p).1) ∧ w.cell? ⟨g, (t.length + 1) * 2 + 1, none⟩ = some (.int .i64 (toI p).2) := by
  have e : rowOf (p :: q :: t) = rowOf t ++ [toI q, toI p] := by simp [rowOf]
  rw [e] at h
  have g1 : (rowOf t ++ [toI q, toI p])[t.length]'(by simp [rowOf_length]) = toI q := by rw [List.getElem_append_right (by rw [rowOf_length]; exact Nat.le_refl _)]; simp [rowOf_length]
  have g2 : (rowOf t ++ [toI q, toI p])[t.length + 1]'(by simp [rowOf_length]) = toI p := by rw [List.getElem_append_right (by rw [rowOf_length]; omega)]; simp [rowOf_length]
  have h1 := h.cells t.length (by simp [rowOf_length])
  have h2 := h.cells (t.length + 1) (by simp [rowOf_length])
  rw [g1] at h1
  rw [g2] at h2
  exact ⟨h1.1, h1.2, h2.1, h2.2⟩
theorem mergeS_eq (p q : Pf) (t : List Pf) : mergeS (p :: q :: t) = if mergeable p q = true then mergeS ((q.1, q.2 + 1) :: t) else p :: q :: t := by rw [mergeS]
theorem mergeS_no {p q : Pf} {t : List Pf} (h : ¬ mergeable p q = true) : mergeS (p :: q :: t) = p :: q :: t := by rw [mergeS_eq, if_neg h]
theorem mergeS_yes {p q : Pf} {t : List Pf} (h : mergeable p q = true) : mergeS (p :: q :: t) = mergeS ((q.1, q.2 + 1) :: t) := by rw [mergeS_eq, if_pos h]
/-- slices.Values, as the walk meets it. -/
theorem pvalues_any (A : Option Addr) (n c : Nat) (w : World) :
    Calls Tryd.prog 36 #[.slice A n c] w fun e w' => e = .returned (.func (.func 49) #[] #[.pointer (some ⟨w.heap.size, 0, none⟩)]) ∧ w' = w.alloc (.cells #[.slice A n c] 24) :=
  callsIn_wide.1 (pvalues_in Fence.wide 4 trivial rfl A n c w)
set_option maxRecDepth 100000 in
set_option maxHeartbeats 12000000 in
theorem fewest_any (A : Option Addr) (n c : Nat) (xs : List (Int × Int)) (w : World) (hn : n ≤ maxLen) (hr : Rds w 2 A n (pc xs)) :
    Calls Tryd.prog 14 #[.slice A n c] w (FewPost xs w) := by
  obtain rfl : n = xs.length := hr.plen
  by_cases h32 : 32 < xs.length
  · have hg : ((xs.length : Int) > 32) := by omega
    go_enter Tryd.func14, Tryd.ntmps14
    go_wp2_with fail
    go_ret2
    exact ⟨fun _ => rfl, fun h => absurd h32 (by omega), fun h => absurd h32 (by omega), Below.refl _ _⟩
  have hle : xs.length ≤ 32 := by omega
  have hg : ¬ ((xs.length : Int) > 32) := by omega
  have hV := Lib.hid (fun w' => pvalues_any A xs.length c w')
  have hlow : ∀ a, A = some a → 0 < xs.length → a.block < w.heap.size := fun a ha h0 => pfx_low hr h0 a ha
  obtain ⟨W0, hW0⟩ : ∃ W0, w.alloc (.cells #[.slice A xs.length c] 24) = W0 := ⟨_, rfl⟩
  have hB0 : Below w.heap.size w W0 := by rw [← hW0]; exact (Below.refl _ _).alloc (Nat.le_refl _) _
  have hs0 : W0.heap.size = w.heap.size + 1 := by rw [← hW0]; simp
  have hc0 : W0.cell? ⟨w.heap.size, 0, none⟩ = some (.slice A xs.length c) := by rw [← hW0, World.cell?_alloc_at _ _ _ _ (by simp)]; rfl
  have hS := Lib.hid (psorted_any A xs.length c w.heap.size w.heap.size xs (by omega) W0 (by omega) (by omega) hc0 (hr.below hB0) hlow)
  go_enter Tryd.func14, Tryd.ntmps14
  go_wp2_with ((first | (go_at_call 36; with_reducible refine (hV.out _).mono ?_; rintro e w' ⟨rfl, rfl⟩; rw [hW0]) | (go_at_call 35; with_reducible refine hS.out.mono ?_; rintro e w' ⟨v, rfl, hSo, hB1⟩; generalize w' = W1 at *)))
  have hSo' : OwnP W1 w.heap.size v (sortP xs) := by unfold OwnP; rw [sortP_length]; exact hSo
  obtain ⟨AS, cS, rfl⟩ := hSo'.shape
  rw [sortP_length] at hSo' ⊢
  clear hSo hS hV hc0
  have hB2 : Below w.heap.size w W1 := hB0.trans hB1
  clear hB0 hB1 hW0 hs0
  have hs2 := hB2.size
  go_loopw [23] (fun i wr => ∃ k : Nat, k ≤ xs.length ∧ i = .int .i64 k ∧ errP (xs.take k) = 0 ∧ Below W1.heap.size W1 wr) (fun i _ => xs.length - (intOf i).toNat)
  case atStart => exact ⟨0, Nat.zero_le _, rfl, by simp [errP], Below.refl _ _⟩
  case round =>
    obtain ⟨k, hk, rfl, he, hB3⟩ := hrel
    by_cases hlt : k < xs.length
    · have hB4 : Below w.heap.size w wr := hB2.trans (hB3.mono hs2)
      obtain ⟨b, off, hk', rfl, hx1, hx2⟩ := (hr.below hB4).pfx hlt
      obtain ⟨e1, e2⟩ := errP_at hlt he
      have he1 := Lib.hid e1
      have he2 := Lib.hid e2
      clear e1 e2
      obtain ⟨x, hx⟩ : ∃ x, xs[k] = x := ⟨_, rfl⟩
      rw [hx] at hx1 hx2 he1 he2
      by_cases hE : checkE x.1 x.2 = 0
      · have HE := Lib.hid hE
        clear hE
        go_wp2_with ((go_at_call 9; with_reducible refine (check_ok _ _ _ HE.out).mono ?_; rintro e w3 ⟨rfl, hb⟩))
        exact ⟨⟨k + 1, by omega, rfl, by rw [he1.out, HE.out], below_call (hB3.alloc hB3.size _) hb⟩, by simp [intOf]; omega⟩
      · have HE := Lib.hid hE
        have HE2 := Lib.hid (fun w => check_err x.1 x.2 _ w rfl hE)
        have HP := Lib.hid (he2.out hE)
        clear hE
        go_wp2_with ((go_at_call 9; with_reducible refine (HE2.out _).mono ?_; rintro e w3 ⟨rfl, hb⟩))
        go_ret2
        exact ⟨fun h => absurd h h32, fun _ _ => by rw [HP.out]; rfl, fun _ h => absurd (HP.out.symm.trans h) HE.out, below_call (hB4.alloc hB4.size _) hb⟩
    · obtain rfl : k = xs.length := by omega
      rw [List.take_length] at he
      have hB4 : Below w.heap.size w wr := hB2.trans (hB3.mono hs2)
      have hall : ∀ x ∈ sortP xs, checkE x.1 x.2 = 0 := fun x hx => errP_all.1 he x ((sortP_mem xs x).1 hx)
      have hso : OwnP wr w.heap.size (.slice AS xs.length cS) (sortP xs) := own_below hSo' hB3
      obtain ⟨ps, hps⟩ : ∃ ps, (sortP xs).map ofI = ps := ⟨_, rfl⟩
      have hpl : ps.length = xs.length := by rw [← hps, List.length_map, sortP_length]
      have hpv : ∀ p ∈ ps, V p := by
        intro p hp
        rw [← hps] at hp
        obtain ⟨x, hx, rfl⟩ := List.mem_map.1 hp
        exact (ofI_v (hall x hx)).1
      have hpx : sortP xs = ps.map toI := by
        rw [← hps, List.map_map]
        conv => lhs; rw [← List.map_id (sortP xs)]
        exact List.map_congr_left fun x hx => (ofI_v (hall x hx)).2.symm
      have hpo : ps.Pairwise Le := by
        have hsrt := sortP_sorted xs
        rw [hpx, List.pairwise_map] at hsrt
        refine hsrt.imp_of_mem fun {p q} hp hq h => ?_
        have := (hpv p hp).1
        have := (hpv q hq).1
        unfold toI at h
        simp only at h
        unfold Le
        omega
      have hst : ∀ k, Stack (stackOf (ps.take k)) (ps.take k) := fun k => stackOf_ok _ _ rfl (fun p hp => hpv p (List.mem_of_mem_take hp)) (hpo.sublist (List.take_sublist k ps))
      have HF : Hid (fewI xs = rowOf (stackOf ps)) := Lib.hid (by unfold fewI; rw [hps])
      rw [hpx] at hso
      have HERR := Lib.hid he
      clear hall hps hpx hSo'
      have hBw := hB4
      clear hB4 hB3 hB2 hs2 he hr hlow hk
      obtain ⟨w1, rfl⟩ : ∃ w1 : World, w1 = wr := ⟨_, rfl⟩
      have hbw := hBw.size
      go_wp2_with fail
      go_loopw [4, 35] (fun v i wr => ∃ k : Nat, k ≤ xs.length ∧ i = .int .i64 k ∧ OwnP wr w1.heap.size v (rowOf (stackOf (ps.take k))) ∧ Below w1.heap.size w1 wr) (fun _ i _ => xs.length - (intOf i).toNat)
      case atStart => exact ⟨0, Nat.zero_le _, rfl, ⟨rfl, .inl ⟨rfl, rfl⟩⟩, Below.refl _ _⟩
      case round =>
        obtain ⟨k, hk, rfl, ho, hB5⟩ := hrel
        by_cases hlt : k < xs.length
        · have hlt' : k < ps.length := by omega
          have hrs := (hso.keep hB5).rds
          obtain ⟨b, off, hk', rfl, hx1, hx2⟩ := hrs.pfx hlt
          rw [List.getElem_map] at hx1 hx2
          have HT := Lib.hid (stackOf_take ps k hlt')
          have hstk := hst k
          have hSl := stackOf_length _ (ps.take k) rfl
          rw [List.length_take] at hSl
          have hpv' := hpv _ (List.getElem_mem hlt')
          obtain ⟨p, hp⟩ : ∃ p, ps[k] = p := ⟨_, rfl⟩
          rw [hp] at hx1 hx2 HT hpv'
          generalize stackOf (ps.take k) = S at *
          cases S with
          | nil =>
            obtain ⟨A, c, rfl⟩ := ho.shape
            replace ho : OwnP wr w1.heap.size (.slice A 0 c) [] := ho
            show Code.wp _ _ _ _ _
            simp only [show (rowOf []).length = 0 from rfl]
            have hgt : decide ((0 : Int) > 0) = false := rfl
            obtain ⟨x, hpX⟩ : ∃ x, toI p = x := ⟨_, rfl⟩
            rw [hpX] at hx1 hx2
            go_wp2_with fail
            go_quiet (fail)
            obtain ⟨W2, hW2⟩ : ∃ W2, (wr.alloc (.cells #[.int .i64 x.1, .int .i64 x.2] 23)).drewN nq = W2 := ⟨_, rfl⟩
            have hG : Grew wr W2 := by rw [← hW2]; exact ((Grew.refl wr).alloc _).drewN _
            have hbx1 : W2.cell? ⟨wr.heap.size, 0, none⟩ = some (.int .i64 x.1) := by rw [← hW2]; simp
            have hbx2 : W2.cell? ⟨wr.heap.size, 1, none⟩ = some (.int .i64 x.2) := by rw [← hW2]; simp
            rw [hW2]
            clear hW2
            have HM : Hid (stackOf (ps.take (k + 1)) = mergeS [p]) := Lib.hid (by rw [HT.out]; simp [stepS, mergeS])
            have hT0v : ∀ q ∈ [p], V q := fun q hq => by rw [List.mem_singleton.1 hq]; exact hpv'
            have hT0n : [p].length ≤ 32 := by simp
            have hx : rowOf [p] = [x] := by rw [← hpX]; rfl
            obtain ⟨T0, hT0⟩ : ∃ T0, [p] = T0 := ⟨_, rfl⟩
            have hT0l : Value.int .i64 ((1 : Nat) : Int) = .int .i64 (T0.length : Nat) := by rw [← hT0]; rfl
            rw [hT0] at HM hT0v hT0n hx
            go_wp2_with ((at_builtin; refine wp_append_pfx _ rfl (.tmp 52) (.tmp 54) rfl w1.heap.size (.slice A 0 c) [] rfl (ho.mono hG) x rfl (by simp) (Nat.le_trans hB5.size hG.size) ?_; intro A3 c3 w3 ho3 hb3))
            have hB6 : Below w1.heap.size w1 w3 := (below_call hB5 hG.below).trans hb3
            replace ho3 : OwnP w3 w1.heap.size (.slice A3 (0 + 1) c3) (rowOf T0) := by rw [hx]; exact ho3
            go_loopw [4, 12] (fun v nn wr => ∃ T : List Pf, nn = .int .i64 (T.length : Nat) ∧ OwnP wr w1.heap.size v (rowOf T) ∧ (∀ q ∈ T, V q) ∧ T.length ≤ 32 ∧ stackOf (ps.take (k + 1)) = mergeS T ∧ Below w1.heap.size w1 wr) (fun _ nn _ => (intOf nn).toNat)
            case atStart => exact ⟨T0, (by first | exact hT0l | rfl), ho3, hT0v, hT0n, HM.out, hB6⟩
            case round =>
              obtain ⟨T, rfl, ho4, hTv, hTl, hTm, hB7⟩ := hrel
              have HTm := Lib.hid hTm
              clear hTm
              obtain ⟨A4, c4, rfl⟩ := ho4.shape
              rw [rowOf_length] at ho4 ⊢
              rcases T with _ | ⟨p1, _ | ⟨q1, T2⟩⟩
              · have hgt1 : decide ((0 : Int) > 1) = false := rfl
                have HE : Hid (stackOf (ps.take (k + 1)) = []) := Lib.hid (by rw [HTm.out]; simp [mergeS])
                simp only [List.length_nil] at ho4 ⊢
                go_wp2_with fail
                go_quiet (fail)
                go_wp2_with fail
                exact ⟨⟨k + 1, by omega, rfl, by rw [HE.out]; exact ho4.mono ((Grew.refl _).drewN _), below_drewN hB7 _⟩, by simp [intOf]; omega⟩
              · have hgt1 : decide ((1 : Int) > 1) = false := rfl
                have HE : Hid (stackOf (ps.take (k + 1)) = [p1]) := Lib.hid (by rw [HTm.out]; simp [mergeS])
                simp only [List.length_cons, List.length_nil, Nat.zero_add] at ho4 ⊢
                go_wp2_with fail
                go_quiet (fail)
                go_wp2_with fail
                exact ⟨⟨k + 1, by omega, rfl, by rw [HE.out]; exact ho4.mono ((Grew.refl _).drewN _), below_drewN hB7 _⟩, by simp [intOf]; omega⟩
              · have hne : rowOf (p1 :: q1 :: T2) ≠ [] := by simp [rowOf]
                obtain ⟨g, c5, e5, hg5, hg6, hg7, hg8⟩ := ho4.full hne
                injection e5 with e5 e6 e7
                subst e5
                subst e7
                clear e6 hne
                obtain ⟨t1, t2, t3, t4⟩ := top_cells ho4
                rw [rowOf_length] at hg7
                simp only [List.length_cons] at ho4 hg7 hTl ⊢
                obtain ⟨m, hm⟩ : ∃ m, T2.length = m := ⟨_, rfl⟩
                obtain ⟨M, hM⟩ : ∃ M, m + 1 = M := ⟨_, rfl⟩
                obtain ⟨N, hN⟩ : ∃ N, M + 1 = N := ⟨_, rfl⟩
                rw [hm, hM] at t3 t4
                rw [hm] at t1 t2
                rw [hm, hM, hN] at hg7 hTl ho4 ⊢
                have hgt1 : decide ((N : Int) > 1) = true := by rw [decide_eq_true_iff]; omega
                have hw1 : IntKind.i64.wrap ((N : Int) - 1) = (M : Int) := by rw [show (N : Int) - 1 = (M : Int) from by omega]; exact IntWalk.i64_in _ (by constructor <;> omega)
                have hw2 : IntKind.i64.wrap ((N : Int) - 2) = (m : Int) := by rw [show (N : Int) - 2 = (m : Int) from by omega]; exact IntWalk.i64_in _ (by constructor <;> omega)
                have hp1 := hTv p1 (by simp)
                have hq1 := hTv q1 (by simp)
                have hiff := merge_iff (p := p1) hq1
                by_cases hlen : p1.2 = q1.2
                · have hd : ((toI p1).2 == (toI q1).2) = true := by rw [beq_iff_eq]; unfold toI; simp only; omega
                  obtain ⟨u, hu⟩ : ∃ u, toI (q1.1, q1.2 + 1) = u := ⟨_, rfl⟩
                  have hu1 : (toI q1).1 = u.1 := by rw [← hu]; rfl
                  have hu2 : (toI q1).2 - 1 = u.2 := by rw [← hu]; unfold toI; simp only; omega
                  have hw3 : IntKind.i64.wrap u.2 = u.2 := IntWalk.i64_in _ (by rw [← hu2]; unfold toI; have := hq1.1; simp only; constructor <;> omega)
                  rw [hu1] at t1
                  go_wp2_with fail
                  go_quiet (fail)
                  go_wp2_with fail
                  obtain ⟨W3, hW3⟩ : ∃ W3, wr.drewN nq = W3 := ⟨_, rfl⟩
                  have hG3 : Grew wr W3 := by rw [← hW3]; exact (Grew.refl _).drewN _
                  have s1 := hG3.cell (a := ⟨g, m * 2, none⟩) hg6 t1
                  have s2 := hG3.cell (a := ⟨g, m * 2 + 1, none⟩) hg6 t2
                  have hg9 : g < W3.heap.size := Nat.lt_of_lt_of_le hg6 hG3.size
                  rw [hW3]
                  clear hW3
                  have hmN : m < N := by omega
                  go_cut [13] from 77 to 90 (fun s13 wx => s13 = .pointer (some ⟨W3.heap.size, 0, none⟩) ∧ wx = (W3.alloc (.cells #[.int .i64 u.1, .int .i64 u.2] 23)).drew)
                  case first =>
                    go_region_held3 (fun w' => w'.cell? ⟨g, m * 2, none⟩ = some (.int .i64 u.1) ∧ w'.cell? ⟨g, m * 2 + 1, none⟩ = some (.int .i64 (toI q1).2)) (go_keep) (fail)
                    go_wp2_with fail
                    go_meet
                    case rel => exact ⟨rfl, rfl⟩
                  case rest =>
                    obtain ⟨rfl, rfl⟩ := hcut
                    obtain ⟨W4, hW4⟩ : ∃ W4, (W3.alloc (.cells #[.int .i64 u.1, .int .i64 u.2] 23)).drew = W4 := ⟨_, rfl⟩
                    have hG4 : Grew W3 W4 := by rw [← hW4]; exact ((Grew.refl _).alloc _).drewN 1
                    have v1 : W4.cell? ⟨W3.heap.size, 0, none⟩ = some (.int .i64 u.1) := by rw [← hW4]; simp
                    have v2 : W4.cell? ⟨W3.heap.size, 1, none⟩ = some (.int .i64 u.2) := by rw [← hW4]; simp
                    have hu9 : W3.heap.size < W4.heap.size := by rw [← hW4]; simp
                    have y3 := hG4.cell (a := ⟨g, M * 2, none⟩) hg9 (hG3.cell (a := ⟨g, M * 2, none⟩) hg6 t3)
                    have y4 := hG4.cell (a := ⟨g, M * 2 + 1, none⟩) hg9 (hG3.cell (a := ⟨g, M * 2 + 1, none⟩) hg6 t4)
                    have hg10 : g < W4.heap.size := Nat.lt_of_lt_of_le hg9 hG4.size
                    have hoW := (ho4.mono hG3).mono hG4
                    have hBW := below_call (below_call hB7 hG3.below) hG4.below
                    rw [hW4]
                    clear hW4
                    have hMN : M < N := by omega
                    obtain ⟨pa, hpa⟩ : ∃ pa, toI p1 = pa := ⟨_, rfl⟩
                    have hpa0 : 0 ≤ pa.1 ∧ pa.1 ≤ 65535 := by rw [← hpa]; unfold toI; have := hp1.2.2; simp only; omega
                    obtain ⟨hpa1, hpa2⟩ := hpa0
                    rw [hpa] at y3 y4
                    have hiff2 : mergeable p1 q1 = true ↔ checkE u.1 u.2 = 0 ∧ withinB pa.1 pa.2 u.1 u.2 = true := by
                      rw [hiff, ← hpa, ← hu, check_up]
                      exact ⟨fun h => ⟨h.2.1, h.2.2⟩, fun h => ⟨hlen, h.1, h.2⟩⟩
                    have HI2 := Lib.hid hiff2
                    have HPA := Lib.hid hpa
                    have HU := Lib.hid hu
                    clear hiff hiff2 hpa
                    go_upto_region 22 with fail
                    go_cut [103] from 91 to 103 (fun s wx => s = .bool (!mergeable p1 q1) ∧ Grew W4 wx)
                    case first =>
                      by_cases hcu : checkE u.1 u.2 = 0
                      · obtain ⟨hu0, hu1', hu3, hu4, _⟩ := checkE_ok hcu
                        have HCU := Lib.hid hcu
                        have HB : Hid ((!mergeable p1 q1) = !(withinB pa.1 pa.2 u.1 u.2)) := Lib.hid (by
                          congr 1
                          rw [Bool.eq_iff_iff, HI2.out]
                          exact ⟨fun h => h.2, fun h => ⟨HCU.out, h⟩⟩)
                        clear hcu
                        go_region_held3 (fun w' => w'.cell? ⟨W3.heap.size, 0, none⟩ = some (.int .i64 u.1) ∧ w'.cell? ⟨W3.heap.size, 1, none⟩ = some (.int .i64 u.2) ∧ w'.cell? ⟨g, M * 2, none⟩ = some (.int .i64 pa.1) ∧ w'.cell? ⟨g, M * 2 + 1, none⟩ = some (.int .i64 pa.2)) (go_keep)
                          (first
                          | (go_at_call 9; (with_reducible refine (check_okW _ _ _ HCU.out).mono ?_); rintro e w5 ⟨rfl, hG5⟩; have hc5 : ∀ b o, b < W4.heap.size → w5.cell? ⟨b, o, none⟩ = W4.cell? ⟨b, o, none⟩ := (bcell hG5.below).1; have hz5 : W4.heap.size ≤ w5.heap.size := hG5.size)
                          | (go_at_call 33; (with_reducible refine (pwithin_anyW _ _ _ _ _ hpa1 hpa2 hu3 hu4).mono ?_); rintro e w6 ⟨rfl, hG6⟩; have hc6 : ∀ b o, b < w5.heap.size → w6.cell? ⟨b, o, none⟩ = w5.cell? ⟨b, o, none⟩ := (bcell hG6.below).1; have hz7 : W3.heap.size < w5.heap.size := Nat.lt_of_lt_of_le hu9 hz5; have hz8 : g < w5.heap.size := Nat.lt_of_lt_of_le hg10 hz5))
                        all_goals
                          (try go_simp)
                          go_wp2_with fail
                          go_meet
                          case rel => exact ⟨by rw [HB.out], ((Grew.refl W4).drewN 1).trans (hG5.trans hG6)⟩
                      · have HB : Hid ((!mergeable p1 q1) = true) := Lib.hid (by
                          rw [Bool.not_eq_true', Bool.eq_false_iff]
                          exact fun h => hcu (HI2.out.1 h).1)
                        have HCU := Lib.hid (fun w => check_errW u.1 u.2 _ w rfl hcu)
                        clear hcu
                        first | (go_region_with ((go_at_call 9; (with_reducible refine (HCU.out _).mono ?_); rintro e w5 ⟨rfl, hG5⟩))) | fail
                        all_goals
                          (try go_simp)
                          go_wp2_with fail
                          go_meet
                          case rel => exact ⟨by rw [HB.out], ((Grew.refl W4).drewN 1).trans hG5⟩
                    case rest =>
                      obtain ⟨rfl, hGc⟩ := hcut
                      have x1 := hGc.cell (a := ⟨W3.heap.size, 0, none⟩) hu9 v1
                      have x2 := hGc.cell (a := ⟨W3.heap.size, 1, none⟩) hu9 v2
                      have hoC := hoW.mono hGc
                      have hBC := below_call hBW hGc.below
                      have hsC : w1.heap.size ≤ wc.heap.size := hBC.size
                      clear y3 y4 v1 v2
                      by_cases hmg : mergeable p1 q1 = true
                      · have HE : Hid (stackOf (ps.take (k + 1)) = mergeS ((q1.1, q1.2 + 1) :: T2)) := Lib.hid (by rw [HTm.out]; exact mergeS_yes hmg)
                        have hV : ∀ q ∈ (q1.1, q1.2 + 1) :: T2, V q := by
                          intro q hq
                          rcases List.mem_cons.1 hq with rfl | hq
                          · exact (check_up q1).1 (by rw [HU.out]; exact (HI2.out.1 hmg).1)
                          · exact hTv q (by simp [hq])
                        have hoT : OwnP wc w1.heap.size (.slice (some ⟨g, 0, none⟩) m c4) (rowOf T2) := by
                          have h1 := hoC.take m (by rw [rowOf_length]; simp; omega)
                          have e : (rowOf (p1 :: q1 :: T2)).take m = rowOf T2 := by
                            rw [rowOf_cons, rowOf_cons, List.append_assoc, List.take_append_of_le_length (by rw [rowOf_length]; omega), List.take_of_length_le (by rw [rowOf_length]; omega)]
                          rwa [e] at h1
                        have hrl : (rowOf T2).length = m := by rw [rowOf_length, hm]
                        have hru : rowOf ((q1.1, q1.2 + 1) :: T2) = rowOf T2 ++ [u] := by rw [rowOf_cons, HU.out]
                        have HRL := Lib.hid hrl
                        have HRU := Lib.hid hru
                        have HVq := Lib.hid hV
                        have HTL : Hid (((q1.1, q1.2 + 1) :: T2).length = M) := Lib.hid (by rw [List.length_cons, hm, hM])
                        have hb1 : (!mergeable p1 q1) = false := by rw [hmg]; rfl
                        rw [hb1]
                        clear hrl hru hmg hb1 hV hoC
                        have hmc : m ≤ c4 := by omega
                        have hmci : (m : Int) ≤ (c4 : Int) := by omega
                        have hmci0 : (0 : Int) ≤ (m : Int) := by omega
                        go_upto_region 23 with fail
                        go_region_law ((refine step_append_pfx _ rfl (.tmp 107) (.tmp 109) rfl w1.heap.size (.slice (some ⟨g, 0, none⟩) m c4) (rowOf T2) rfl (hoT.mono (((Grew.refl _).drewN 1).alloc _)) u _ _ rfl (rds_pfx wc.drew u _) (by rw [HRL.out]; omega) (by have := hsC; simp [World.drew]; omega) ?_; intro A5 c5 w6 ho5 hb5))
                        all_goals
                          (try go_simp)
                          go_wp2_with fail
                          exact ⟨⟨(q1.1, q1.2 + 1) :: T2, by rw [HTL.out, HRL.out]; congr 1; omega, by rw [HRU.out]; exact ho5, HVq.out, by rw [HTL.out]; omega, HE.out, (below_drewN (hBC.alloc hsC _) 1).trans hb5⟩, by simp only [intOf, HRL.out]; omega⟩
                      · have HE : Hid (stackOf (ps.take (k + 1)) = p1 :: q1 :: T2) := Lib.hid (by rw [HTm.out]; exact mergeS_no hmg)
                        have hb1 : (!mergeable p1 q1) = true := by rw [Bool.not_eq_true', Bool.eq_false_iff]; exact hmg
                        rw [hb1]
                        clear hmg hb1
                        go_wp2_with fail
                        exact ⟨⟨k + 1, by omega, rfl, by rw [HE.out]; exact hoC, hBC⟩, by simp [intOf]; omega⟩
                · have HE : Hid (stackOf (ps.take (k + 1)) = p1 :: q1 :: T2) := Lib.hid (by rw [HTm.out]; exact mergeS_no (fun h => hlen (hiff.1 h).1))
                  have hd : ((toI p1).2 == (toI q1).2) = false := by rw [beq_eq_false_iff_ne]; unfold toI; simp only; omega
                  go_wp2_with fail
                  go_quiet (fail)
                  go_wp2_with fail
                  exact ⟨⟨k + 1, by omega, rfl, by rw [HE.out]; exact ho4.mono ((Grew.refl _).drewN _), below_drewN hB7 _⟩, by simp [intOf]; omega⟩
          | cons q S' =>
            have hqv : V q := hstk.v q (by simp)
            have hne : rowOf (q :: S') ≠ [] := by simp [rowOf]
            obtain ⟨g', c', e', hg1, hg2, hg3, hg4⟩ := ho.full hne
            subst e'
            obtain ⟨m', hm'⟩ : ∃ m', S'.length = m' := ⟨_, rfl⟩
            obtain ⟨N', hN'⟩ : ∃ N', m' + 1 = N' := ⟨_, rfl⟩
            have hrl : (rowOf (q :: S')).length = N' := by rw [rowOf_length, List.length_cons, hm', hN']
            obtain ⟨y, hy⟩ : ∃ y, toI q = y := ⟨_, rfl⟩
            have hcy := ho.cells m' (by rw [hrl]; omega)
            have gy : (rowOf (q :: S'))[m']'(by rw [hrl]; omega) = y := by
              have e : rowOf (q :: S') = rowOf S' ++ [toI q] := rowOf_cons q S'
              simp only [e]
              rw [List.getElem_append_right (by rw [rowOf_length, hm']; exact Nat.le_refl _)]
              simp [rowOf_length, hm', hy]
            rw [gy] at hcy
            obtain ⟨hy1, hy2⟩ := hcy
            rw [hrl] at ho hg3 ⊢
            have hyb : 0 ≤ y.2 ∧ y.2 ≤ 16 := by rw [← hy]; unfold toI; have := hqv.1; simp only; omega
            obtain ⟨x, hpX⟩ : ∃ x, toI p = x := ⟨_, rfl⟩
            have hxb : 0 ≤ x.1 ∧ x.1 ≤ 65535 := by rw [← hpX]; unfold toI; have := hpv'.2.2; simp only; omega
            obtain ⟨hyb1, hyb2⟩ := hyb
            obtain ⟨hxb1, hxb2⟩ := hxb
            rw [hpX] at hx1 hx2
            have HST : Hid (stackOf (ps.take (k + 1)) = if withinB x.1 x.2 y.1 y.2 = true then q :: S' else mergeS (p :: q :: S')) := Lib.hid (by
              rw [HT.out, ← hpX, ← hy, within_toI p hqv]
              simp only [stepS])
            have hN32 : N' < 32 := by simp only [List.length_cons] at hSl; omega
            have hgt : decide ((N' : Int) > 0) = true := by rw [decide_eq_true_iff]; omega
            have hgt2 : decide (0 < N') = true := by rw [decide_eq_true_iff]; omega
            have hgt3 : 0 < N' := by omega
            have hw1 : IntKind.i64.wrap ((N' : Int) - 1) = (m' : Int) := by rw [show (N' : Int) - 1 = (m' : Int) from by omega]; exact IntWalk.i64_in _ (by constructor <;> omega)
            have HRO : Hid (rowOf (p :: q :: S') = rowOf (q :: S') ++ [x]) := Lib.hid (by rw [rowOf_cons, hpX])
            have HTV : Hid (∀ r ∈ p :: q :: S', V r) := Lib.hid (by
              intro r hr
              rcases List.mem_cons.1 hr with rfl | hr
              · exact hpv'
              · exact hstk.v r hr)
            have HTN : Hid ((p :: q :: S').length = N' + 1) := Lib.hid (by rw [List.length_cons, List.length_cons, hm', hN'])
            have HRL := Lib.hid hrl
            have hmN : m' < N' := by omega
            have hmi : (m' : Int) < (N' : Int) := by omega
            have hmi0 : (0 : Int) ≤ (m' : Int) := by omega
            have hsb : w1.heap.size ≤ wr.heap.size := hB5.size
            clear HT hp hy hpX gy hne hSl hstk hpv' hqv hrl
            go_upto_region 16 with fail
            obtain ⟨W2, hW2⟩ : ∃ W2, (wr.alloc (.cells #[.int .i64 x.1, .int .i64 x.2] 23)) = W2 := ⟨_, rfl⟩
            have hG : Grew wr W2 := by rw [← hW2]; exact ((Grew.refl wr).alloc _)
            have hbx1 : W2.cell? ⟨wr.heap.size, 0, none⟩ = some (.int .i64 x.1) := by rw [← hW2]; simp
            have hbx2 : W2.cell? ⟨wr.heap.size, 1, none⟩ = some (.int .i64 x.2) := by rw [← hW2]; simp
            have hb9 : wr.heap.size < W2.heap.size := by rw [← hW2]; simp
            have hby1 := hG.cell (a := ⟨g', m' * 2, none⟩) hg2 hy1
            have hby2 := hG.cell (a := ⟨g', m' * 2 + 1, none⟩) hg2 hy2
            rw [hW2]
            clear hW2
            go_cut [51] from 41 to 51 (fun s wx => s = .bool (withinB x.1 x.2 y.1 y.2) ∧ Grew W2 wx)
            case first =>
              go_region_held3 (fun w' => w'.cell? ⟨wr.heap.size, 0, none⟩ = some (.int .i64 x.1) ∧ w'.cell? ⟨wr.heap.size, 1, none⟩ = some (.int .i64 x.2) ∧ w'.cell? ⟨g', m' * 2, none⟩ = some (.int .i64 y.1) ∧ w'.cell? ⟨g', m' * 2 + 1, none⟩ = some (.int .i64 y.2)) (go_keep)
                ((go_at_call 33; (with_reducible refine (pwithin_anyW _ _ _ _ _ hxb1 hxb2 hyb1 hyb2).mono ?_); rintro e w6 ⟨rfl, hG6⟩; have hc6 : ∀ b o, b < W2.heap.size → w6.cell? ⟨b, o, none⟩ = W2.cell? ⟨b, o, none⟩ := (bcell hG6.below).1; have hz8 : g' < W2.heap.size := Nat.lt_of_lt_of_le hg2 hG.size))
              all_goals
                (try go_simp)
                go_wp2_with fail
                go_meet
                case rel => exact ⟨rfl, ((Grew.refl W2).drewN 1).trans hG6⟩
            case rest =>
              obtain ⟨rfl, hGc⟩ := hcut
              replace hG := hG.trans hGc
              have hcx1 := hGc.cell (a := ⟨wr.heap.size, 0, none⟩) hb9 hbx1
              have hcx2 := hGc.cell (a := ⟨wr.heap.size, 1, none⟩) hb9 hbx2
              clear hbx1 hbx2 hby1 hby2 hGc
              rcases hwi : withinB x.1 x.2 y.1 y.2 with _ | _
              · have HM : Hid (stackOf (ps.take (k + 1)) = mergeS (p :: q :: S')) := Lib.hid (by rw [HST.out, hwi, if_neg (by simp)])
                clear hwi
                have hT0v := HTV.out
                have hT0n : (p :: q :: S').length ≤ 32 := by rw [HTN.out]; omega
                have hx := HRO.out
                generalize hR : rowOf (q :: S') = R at *
                have HLR : Hid (R.length = N') := HRL
                obtain ⟨T0, hT0⟩ : ∃ T0, p :: q :: S' = T0 := ⟨_, rfl⟩
                have hT0l : Value.int .i64 ((R.length : Int) + 1) = .int .i64 (T0.length : Nat) := by rw [← hT0, HTN.out, HLR.out]; rfl
                rw [hT0] at HM hT0v hT0n hx
                clear HTV HRO HTN hR
                go_wp2_with ((at_builtin; refine wp_append_pfx _ rfl (.tmp 52) (.tmp 54) rfl w1.heap.size (.slice (some ⟨g', 0, none⟩) N' c') R rfl (ho.mono hG) x rfl (by rw [HLR.out]; omega) (Nat.le_trans hsb hG.size) ?_; intro A3 c3 w3 ho3 hb3))
                have hB6 : Below w1.heap.size w1 w3 := (below_call hB5 hG.below).trans hb3
                replace ho3 : OwnP w3 w1.heap.size (.slice A3 (R.length + 1) c3) (rowOf T0) := by rw [hx]; exact ho3
                clear HST hxb1 hxb2 hyb1 hyb2 hcx1 hcx2 hx1 hx2 hy1 hy2 hmi hmi0 hgt hgt2 hgt3 hw1 hm' hN'
                go_loopw [4, 12] (fun v nn wr => ∃ T : List Pf, nn = .int .i64 (T.length : Nat) ∧ OwnP wr w1.heap.size v (rowOf T) ∧ (∀ q ∈ T, V q) ∧ T.length ≤ 32 ∧ stackOf (ps.take (k + 1)) = mergeS T ∧ Below w1.heap.size w1 wr) (fun _ nn _ => (intOf nn).toNat)
                case atStart => exact ⟨T0, (by first | exact hT0l | rfl), ho3, hT0v, hT0n, HM.out, hB6⟩
                case round =>
                  obtain ⟨T, rfl, ho4, hTv, hTl, hTm, hB7⟩ := hrel
                  have HTm := Lib.hid hTm
                  clear hTm
                  obtain ⟨A4, c4, rfl⟩ := ho4.shape
                  rw [rowOf_length] at ho4 ⊢
                  rcases T with _ | ⟨p1, _ | ⟨q1, T2⟩⟩
                  · have hgt1 : decide ((0 : Int) > 1) = false := rfl
                    have HE : Hid (stackOf (ps.take (k + 1)) = []) := Lib.hid (by rw [HTm.out]; simp [mergeS])
                    simp only [List.length_nil] at ho4 ⊢
                    go_wp2_with fail
                    go_quiet (fail)
                    go_wp2_with fail
                    exact ⟨⟨k + 1, by omega, rfl, by rw [HE.out]; exact ho4.mono ((Grew.refl _).drewN _), below_drewN hB7 _⟩, by simp [intOf]; omega⟩
                  · have hgt1 : decide ((1 : Int) > 1) = false := rfl
                    have HE : Hid (stackOf (ps.take (k + 1)) = [p1]) := Lib.hid (by rw [HTm.out]; simp [mergeS])
                    simp only [List.length_cons, List.length_nil, Nat.zero_add] at ho4 ⊢
                    go_wp2_with fail
                    go_quiet (fail)
                    go_wp2_with fail
                    exact ⟨⟨k + 1, by omega, rfl, by rw [HE.out]; exact ho4.mono ((Grew.refl _).drewN _), below_drewN hB7 _⟩, by simp [intOf]; omega⟩
                  · have hne : rowOf (p1 :: q1 :: T2) ≠ [] := by simp [rowOf]
                    obtain ⟨g, c5, e5, hg5, hg6, hg7, hg8⟩ := ho4.full hne
                    injection e5 with e5 e6 e7
                    subst e5
                    subst e7
                    clear e6 hne
                    obtain ⟨t1, t2, t3, t4⟩ := top_cells ho4
                    rw [rowOf_length] at hg7
                    simp only [List.length_cons] at ho4 hg7 hTl ⊢
                    obtain ⟨m, hm⟩ : ∃ m, T2.length = m := ⟨_, rfl⟩
                    obtain ⟨M, hM⟩ : ∃ M, m + 1 = M := ⟨_, rfl⟩
                    obtain ⟨N, hN⟩ : ∃ N, M + 1 = N := ⟨_, rfl⟩
                    rw [hm, hM] at t3 t4
                    rw [hm] at t1 t2
                    rw [hm, hM, hN] at hg7 hTl ho4 ⊢
                    have hgt1 : decide ((N : Int) > 1) = true := by rw [decide_eq_true_iff]; omega
                    have hw1 : IntKind.i64.wrap ((N : Int) - 1) = (M : Int) := by rw [show (N : Int) - 1 = (M : Int) from by omega]; exact IntWalk.i64_in _ (by constructor <;> omega)
                    have hw2 : IntKind.i64.wrap ((N : Int) - 2) = (m : Int) := by rw [show (N : Int) - 2 = (m : Int) from by omega]; exact IntWalk.i64_in _ (by constructor <;> omega)
                    have hp1 := hTv p1 (by simp)
                    have hq1 := hTv q1 (by simp)
                    have hiff := merge_iff (p := p1) hq1
                    by_cases hlen : p1.2 = q1.2
                    · have hd : ((toI p1).2 == (toI q1).2) = true := by rw [beq_iff_eq]; unfold toI; simp only; omega
                      obtain ⟨u, hu⟩ : ∃ u, toI (q1.1, q1.2 + 1) = u := ⟨_, rfl⟩
                      have hu1 : (toI q1).1 = u.1 := by rw [← hu]; rfl
                      have hu2 : (toI q1).2 - 1 = u.2 := by rw [← hu]; unfold toI; simp only; omega
                      have hw3 : IntKind.i64.wrap u.2 = u.2 := IntWalk.i64_in _ (by rw [← hu2]; unfold toI; have := hq1.1; simp only; constructor <;> omega)
                      rw [hu1] at t1
                      go_wp2_with fail
                      go_quiet (fail)
                      go_wp2_with fail
                      obtain ⟨W3, hW3⟩ : ∃ W3, wr.drewN nq = W3 := ⟨_, rfl⟩
                      have hG3 : Grew wr W3 := by rw [← hW3]; exact (Grew.refl _).drewN _
                      have s1 := hG3.cell (a := ⟨g, m * 2, none⟩) hg6 t1
                      have s2 := hG3.cell (a := ⟨g, m * 2 + 1, none⟩) hg6 t2
                      have hg9 : g < W3.heap.size := Nat.lt_of_lt_of_le hg6 hG3.size
                      rw [hW3]
                      clear hW3
                      have hmN : m < N := by omega
                      go_cut [13] from 77 to 90 (fun s13 wx => s13 = .pointer (some ⟨W3.heap.size, 0, none⟩) ∧ wx = (W3.alloc (.cells #[.int .i64 u.1, .int .i64 u.2] 23)).drew)
                      case first =>
                        go_region_held3 (fun w' => w'.cell? ⟨g, m * 2, none⟩ = some (.int .i64 u.1) ∧ w'.cell? ⟨g, m * 2 + 1, none⟩ = some (.int .i64 (toI q1).2)) (go_keep) (fail)
                        go_wp2_with fail
                        go_meet
                        case rel => exact ⟨rfl, rfl⟩
                      case rest =>
                        obtain ⟨rfl, rfl⟩ := hcut
                        obtain ⟨W4, hW4⟩ : ∃ W4, (W3.alloc (.cells #[.int .i64 u.1, .int .i64 u.2] 23)).drew = W4 := ⟨_, rfl⟩
                        have hG4 : Grew W3 W4 := by rw [← hW4]; exact ((Grew.refl _).alloc _).drewN 1
                        have v1 : W4.cell? ⟨W3.heap.size, 0, none⟩ = some (.int .i64 u.1) := by rw [← hW4]; simp
                        have v2 : W4.cell? ⟨W3.heap.size, 1, none⟩ = some (.int .i64 u.2) := by rw [← hW4]; simp
                        have hu9 : W3.heap.size < W4.heap.size := by rw [← hW4]; simp
                        have y3 := hG4.cell (a := ⟨g, M * 2, none⟩) hg9 (hG3.cell (a := ⟨g, M * 2, none⟩) hg6 t3)
                        have y4 := hG4.cell (a := ⟨g, M * 2 + 1, none⟩) hg9 (hG3.cell (a := ⟨g, M * 2 + 1, none⟩) hg6 t4)
                        have hg10 : g < W4.heap.size := Nat.lt_of_lt_of_le hg9 hG4.size
                        have hoW := (ho4.mono hG3).mono hG4
                        have hBW := below_call (below_call hB7 hG3.below) hG4.below
                        rw [hW4]
                        clear hW4
                        have hMN : M < N := by omega
                        obtain ⟨pa, hpa⟩ : ∃ pa, toI p1 = pa := ⟨_, rfl⟩
                        have hpa0 : 0 ≤ pa.1 ∧ pa.1 ≤ 65535 := by rw [← hpa]; unfold toI; have := hp1.2.2; simp only; omega
                        obtain ⟨hpa1, hpa2⟩ := hpa0
                        rw [hpa] at y3 y4
                        have hiff2 : mergeable p1 q1 = true ↔ checkE u.1 u.2 = 0 ∧ withinB pa.1 pa.2 u.1 u.2 = true := by
                          rw [hiff, ← hpa, ← hu, check_up]
                          exact ⟨fun h => ⟨h.2.1, h.2.2⟩, fun h => ⟨hlen, h.1, h.2⟩⟩
                        have HI2 := Lib.hid hiff2
                        have HPA := Lib.hid hpa
                        have HU := Lib.hid hu
                        clear hiff hiff2 hpa
                        go_upto_region 22 with fail
                        go_cut [103] from 91 to 103 (fun s wx => s = .bool (!mergeable p1 q1) ∧ Grew W4 wx)
                        case first =>
                          by_cases hcu : checkE u.1 u.2 = 0
                          · obtain ⟨hu0, hu1', hu3, hu4, _⟩ := checkE_ok hcu
                            have HCU := Lib.hid hcu
                            have HB : Hid ((!mergeable p1 q1) = !(withinB pa.1 pa.2 u.1 u.2)) := Lib.hid (by
                              congr 1
                              rw [Bool.eq_iff_iff, HI2.out]
                              exact ⟨fun h => h.2, fun h => ⟨HCU.out, h⟩⟩)
                            clear hcu
                            go_region_held3 (fun w' => w'.cell? ⟨W3.heap.size, 0, none⟩ = some (.int .i64 u.1) ∧ w'.cell? ⟨W3.heap.size, 1, none⟩ = some (.int .i64 u.2) ∧ w'.cell? ⟨g, M * 2, none⟩ = some (.int .i64 pa.1) ∧ w'.cell? ⟨g, M * 2 + 1, none⟩ = some (.int .i64 pa.2)) (go_keep)
                              (first
                              | (go_at_call 9; (with_reducible refine (check_okW _ _ _ HCU.out).mono ?_); rintro e w5 ⟨rfl, hG5⟩; have hc5 : ∀ b o, b < W4.heap.size → w5.cell? ⟨b, o, none⟩ = W4.cell? ⟨b, o, none⟩ := (bcell hG5.below).1; have hz5 : W4.heap.size ≤ w5.heap.size := hG5.size)
                              | (go_at_call 33; (with_reducible refine (pwithin_anyW _ _ _ _ _ hpa1 hpa2 hu3 hu4).mono ?_); rintro e w6 ⟨rfl, hG6⟩; have hc6 : ∀ b o, b < w5.heap.size → w6.cell? ⟨b, o, none⟩ = w5.cell? ⟨b, o, none⟩ := (bcell hG6.below).1; have hz7 : W3.heap.size < w5.heap.size := Nat.lt_of_lt_of_le hu9 hz5; have hz8 : g < w5.heap.size := Nat.lt_of_lt_of_le hg10 hz5))
                            all_goals
                              (try go_simp)
                              go_wp2_with fail
                              go_meet
                              case rel => exact ⟨by rw [HB.out], ((Grew.refl W4).drewN 1).trans (hG5.trans hG6)⟩
                          · have HB : Hid ((!mergeable p1 q1) = true) := Lib.hid (by
                              rw [Bool.not_eq_true', Bool.eq_false_iff]
                              exact fun h => hcu (HI2.out.1 h).1)
                            have HCU := Lib.hid (fun w => check_errW u.1 u.2 _ w rfl hcu)
                            clear hcu
                            first | (go_region_with ((go_at_call 9; (with_reducible refine (HCU.out _).mono ?_); rintro e w5 ⟨rfl, hG5⟩))) | fail
                            all_goals
                              (try go_simp)
                              go_wp2_with fail
                              go_meet
                              case rel => exact ⟨by rw [HB.out], ((Grew.refl W4).drewN 1).trans hG5⟩
                        case rest =>
                          obtain ⟨rfl, hGc⟩ := hcut
                          have x1 := hGc.cell (a := ⟨W3.heap.size, 0, none⟩) hu9 v1
                          have x2 := hGc.cell (a := ⟨W3.heap.size, 1, none⟩) hu9 v2
                          have hoC := hoW.mono hGc
                          have hBC := below_call hBW hGc.below
                          have hsC : w1.heap.size ≤ wc.heap.size := hBC.size
                          clear y3 y4 v1 v2
                          by_cases hmg : mergeable p1 q1 = true
                          · have HE : Hid (stackOf (ps.take (k + 1)) = mergeS ((q1.1, q1.2 + 1) :: T2)) := Lib.hid (by rw [HTm.out]; exact mergeS_yes hmg)
                            have hV : ∀ q ∈ (q1.1, q1.2 + 1) :: T2, V q := by
                              intro q hq
                              rcases List.mem_cons.1 hq with rfl | hq
                              · exact (check_up q1).1 (by rw [HU.out]; exact (HI2.out.1 hmg).1)
                              · exact hTv q (by simp [hq])
                            have hoT : OwnP wc w1.heap.size (.slice (some ⟨g, 0, none⟩) m c4) (rowOf T2) := by
                              have h1 := hoC.take m (by rw [rowOf_length]; simp; omega)
                              have e : (rowOf (p1 :: q1 :: T2)).take m = rowOf T2 := by
                                rw [rowOf_cons, rowOf_cons, List.append_assoc, List.take_append_of_le_length (by rw [rowOf_length]; omega), List.take_of_length_le (by rw [rowOf_length]; omega)]
                              rwa [e] at h1
                            have hrl : (rowOf T2).length = m := by rw [rowOf_length, hm]
                            have hru : rowOf ((q1.1, q1.2 + 1) :: T2) = rowOf T2 ++ [u] := by rw [rowOf_cons, HU.out]
                            have HRL := Lib.hid hrl
                            have HRU := Lib.hid hru
                            have HVq := Lib.hid hV
                            have HTL : Hid (((q1.1, q1.2 + 1) :: T2).length = M) := Lib.hid (by rw [List.length_cons, hm, hM])
                            have hb1 : (!mergeable p1 q1) = false := by rw [hmg]; rfl
                            rw [hb1]
                            clear hrl hru hmg hb1 hV hoC
                            have hmc : m ≤ c4 := by omega
                            have hmci : (m : Int) ≤ (c4 : Int) := by omega
                            have hmci0 : (0 : Int) ≤ (m : Int) := by omega
                            go_upto_region 23 with fail
                            go_region_law ((refine step_append_pfx _ rfl (.tmp 107) (.tmp 109) rfl w1.heap.size (.slice (some ⟨g, 0, none⟩) m c4) (rowOf T2) rfl (hoT.mono (((Grew.refl _).drewN 1).alloc _)) u _ _ rfl (rds_pfx wc.drew u _) (by rw [HRL.out]; omega) (by have := hsC; simp [World.drew]; omega) ?_; intro A5 c5 w6 ho5 hb5))
                            all_goals
                              (try go_simp)
                              go_wp2_with fail
                              exact ⟨⟨(q1.1, q1.2 + 1) :: T2, by rw [HTL.out, HRL.out]; congr 1; omega, by rw [HRU.out]; exact ho5, HVq.out, by rw [HTL.out]; omega, HE.out, (below_drewN (hBC.alloc hsC _) 1).trans hb5⟩, by simp only [intOf, HRL.out]; omega⟩
                          · have HE : Hid (stackOf (ps.take (k + 1)) = p1 :: q1 :: T2) := Lib.hid (by rw [HTm.out]; exact mergeS_no hmg)
                            have hb1 : (!mergeable p1 q1) = true := by rw [Bool.not_eq_true', Bool.eq_false_iff]; exact hmg
                            rw [hb1]
                            clear hmg hb1
                            go_wp2_with fail
                            exact ⟨⟨k + 1, by omega, rfl, by rw [HE.out]; exact hoC, hBC⟩, by simp [intOf]; omega⟩
                    · have HE : Hid (stackOf (ps.take (k + 1)) = p1 :: q1 :: T2) := Lib.hid (by rw [HTm.out]; exact mergeS_no (fun h => hlen (hiff.1 h).1))
                      have hd : ((toI p1).2 == (toI q1).2) = false := by rw [beq_eq_false_iff_ne]; unfold toI; simp only; omega
                      go_wp2_with fail
                      go_quiet (fail)
                      go_wp2_with fail
                      exact ⟨⟨k + 1, by omega, rfl, by rw [HE.out]; exact ho4.mono ((Grew.refl _).drewN _), below_drewN hB7 _⟩, by simp [intOf]; omega⟩
              · have HE : Hid (stackOf (ps.take (k + 1)) = q :: S') := Lib.hid (by rw [HST.out, hwi, if_pos rfl])
                clear hwi
                go_wp2_with fail
                exact ⟨⟨k + 1, by omega, rfl, by rw [HE.out]; exact ho.mono hG, below_call hB5 hG.below⟩, by simp [intOf]; omega⟩
        · obtain rfl : k = xs.length := by omega
          rw [List.take_of_length_le (by omega)] at ho
          have hrw : rowOf (stackOf ps) = fewI xs := HF.out.symm
          rw [hrw] at ho
          obtain ⟨A, c, rfl⟩ := ho.shape
          have HO := Lib.hid ho
          have hBz := below_call hBw hB5
          clear ho
          go_wp2
          go_ret2
          exact ⟨fun h => absurd h h32, fun _ h => absurd HERR.out h, fun _ _ => ⟨A, c, rfl, HO.out.low hbw⟩, hBz⟩
end Go.Proofs.YtfgpppgehbpblaaDoor
