/- The contract of line.Four: for all bits that are a multiple of five and right, their numbers, or an error. -/
import Derived.Test.YtalehbhimnhnjaaDoorChunks
import Derived.Test.YtalehbhimnhnjaaDoorBytes
import Derived.Test.YtalehbhimnhnjaaDoorLine
namespace Go.Proofs.YtalehbhimnhnjaaDoor
open Go.RowKit Go.Shelf
attribute [local go_sem] Oper.semAt_some

def num5 (l : List Int) : Int := l.foldl (fun n b => 2 * n + b) 0
/-- The k-th number; -1: none. -/
def decI (xs : List Int) (k : Nat) : Int := idxI (num5 ((xs.drop (k * 5)).take 5)) codesL
def fourL (xs : List Int) (k : Nat) : List Int := (List.range k).map (decI xs)
def fourOk (xs : List Int) (k : Nat) : Prop := ∀ j, j < k → 0 ≤ decI xs j
theorem fourL_len (xs : List Int) (k : Nat) : (fourL xs k).length = k := by simp [fourL]
theorem fourL_succ (xs : List Int) (k : Nat) : fourL xs (k + 1) = fourL xs k ++ [decI xs k] := by simp [fourL, List.range_succ]
theorem num5_snoc (l : List Int) (b : Int) : num5 (l ++ [b]) = 2 * num5 l + b := by unfold num5; rw [List.foldl_append]; rfl
theorem num5_le : ∀ (n : Nat) (l : List Int), l.length = n → n ≤ 5 → Bits l → 0 ≤ num5 l ∧ num5 l ≤ 2 ^ n - 1
  | 0, l, h, _, _ => by rw [List.eq_nil_of_length_eq_zero h]; decide
  | n + 1, l, h, h5, hb => by
    have hne : l ≠ [] := by rintro rfl; simp at h
    rw [← List.dropLast_concat_getLast hne, num5_snoc]
    have ih := num5_le n l.dropLast (by simp [h]) (by omega) (fun b hx => hb b (List.dropLast_subset _ hx))
    have := hb (l.getLast hne) (List.getLast_mem hne)
    have e : (2 : Int) ^ (n + 1) = 2 * 2 ^ n := by rw [Int.pow_succ, Int.mul_comm]
    omega

/-- 'out = append(out, ..)' in a round: what the walk owes behind it. -/
theorem appended_five {W w1 : World} {n b5 B c : Nat} {t : TypeId} (hte : t ≠ 3) {v v' : Value} {k m : Nat} {xs ys : List Value} {tmp : Obj} (hv : Boxed W B t v) (hrow : W.ownsRow b5 3 1 v k xs) (hcb : c + 2 ≤ b5) (hBc : B < c) (hnB : n ≤ B) (hb5 : b5 ≤ W.heap.size)
    (hown' : w1.ownsRow b5 3 1 v' m ys) (hgrow : (W.alloc tmp).grownBy w1 v.ownBlock) :
    Boxed w1 B t v ∧ Boxed (w1.setCell ⟨B, 0, none⟩ v') B t v' ∧ (w1.setCell ⟨B, 0, none⟩ v').ownsRow b5 3 1 v' m ys ∧ KeepsOthers W (w1.setCell ⟨B, 0, none⟩ v') ∧ Kept n c W (w1.setCell ⟨B, 0, none⟩ v') ∧
      (∀ j, j < b5 → j ≠ B → (w1.setCell ⟨B, 0, none⟩ v').heap[j]? = W.heap[j]?) := by
  have hmono : ∀ {w : World} {v : Value} {k : Nat} {xs : List Value}, w.ownsRow b5 3 1 v k xs → w.ownsRow n 3 1 v k xs := by
    rintro w v k xs ⟨h1, h2⟩
    refine ⟨h1, ?_⟩
    rcases h2 with h0 | ⟨g, cap, cur, e, hg, h3⟩
    · exact .inl h0
    · exact .inr ⟨g, cap, cur, e, by omega, h3⟩
  obtain ⟨h1, h2, _, h4, h5⟩ := hv.appended hte (hmono hrow) (by omega) hnB (hmono hown') hgrow
  have hne : ∀ j, j < b5 → some j ≠ v.ownBlock := by
    intro j hj e
    rcases hrow.2 with ⟨rfl, _⟩ | ⟨g, cap, cur, rfl, hg, _⟩
    · simp [Value.ownBlock] at e
    · simp [Value.ownBlock] at e; omega
  have hold : ∀ j, j < b5 → j ≠ B → (w1.setCell ⟨B, 0, none⟩ v').heap[j]? = W.heap[j]? := by
    intro j hj hjB
    have hjs : j < W.heap.size := by omega
    rw [Below.heap_setCell w1 _ v' j hjB, hgrow.block j (by rw [World.size_alloc]; omega) (hne j hj)]
    exact Below.heap_alloc W tmp j hjs
  exact ⟨h1, h2, hown'.kept (grownBy_setCell' w1 B v') (.inr (h1.not_row hte hown').symm), h4, ⟨h5, hold c (by omega) (by omega), hold (c + 1) (by omega) (by omega)⟩, hold⟩

def FourPost (W : World) (xs : List Int) (e : Ending) (w' : World) : Prop :=
  (fourOk xs (chunks 5 xs.length) ∧ RetOwn W (fourL xs (chunks 5 xs.length)) .nilIface e w') ∨
  (¬ fourOk xs (chunks 5 xs.length) ∧ e = .returned (.tuple #[.slice none 0 0, .iface 47 (.int .i64 2)]) ∧ Below W.heap.size W w')

set_option maxRecDepth 100000 in
set_option maxHeartbeats 4000000 in
theorem four_any (A : Option Addr) (n c : Nat) (xs : List Int) (w : World) (hcw : CodesW w) (hr : Rds w 1 A n (ic xs)) (hn : n ≤ c) (hc : c ≤ maxLen) (h : bitsE xs = 0) (h5 : n % 5 = 0) :
    Calls Tryd.prog 15 #[.slice A n c] w (FourPost w xs) := by
  obtain ⟨i0, hi, hz0, hz1, hz2⟩ := info_parts info_int
  obtain ⟨hb, hlen⟩ := bits_of_ok h
  obtain rfl : n = xs.length := hr.len_int
  have HE := Lib.hid h
  have HN := Lib.hid (Nat.le_trans hn hc)
  have HBB := Lib.hid hb
  have h5' : ((xs.length : Int) % 5 != 0) = false := by rw [bne_eq_false_iff_eq]; omega
  have H5 := Lib.hid h5
  have HR2 := Lib.hid (hr.below (((Below.refl w.heap.size w).alloc (Nat.le_refl _) (.cells #[.slice none 0 0] 22)).alloc (by simp) (.cells #[.nilIface] 25)))
  clear h hb h5
  refine (callsIn_wide (n := 5)).1 ?_
  refine callsIn_of_wp_marks Tryd.func15 rfl trivial ?_ rfl
  simp only [Tryd.ntmps15, List.size_toArray, List.length_cons, List.length_nil, Nat.reduceAdd, Nat.reduceSub, Array.replicate_succ, Array.replicate_zero, List.push_toArray, List.append_toArray, List.nil_append, List.cons_append]
  gi_wp2_with (first
    | (refine ⟨trivial, ?_⟩; gi_at_call 35; refine (callsIn_wide.2 (check_ok _ _ _ _ _ HR2.out HN.out HE.out)).mono ?_; rintro e w' ⟨rfl, rfl⟩)
    | (refine ⟨trivial, ?_⟩; gi_at_call 36; refine (chunks_in Fence.wide (5 - 1) trivial rfl _ _ _ _ _).mono ?_; rintro e w' ⟨rfl, rfl⟩))
  have bR := Boxed.new w 22 (.slice none 0 0)
  have bE := Boxed.new (w.alloc (.cells #[.slice none 0 0] 22)) 25 .nilIface
  have bO := Boxed.new ((w.alloc (.cells #[.slice none 0 0] 22)).alloc (.cells #[.nilIface] 25)) 22 (.slice none 0 0)
  have bL := Boxed.new (((w.alloc (.cells #[.slice none 0 0] 22)).alloc (.cells #[.nilIface] 25)).alloc (.cells #[.slice none 0 0] 22)) 22 (.slice A xs.length c)
  have bN := Boxed.new ((((w.alloc (.cells #[.slice none 0 0] 22)).alloc (.cells #[.nilIface] 25)).alloc (.cells #[.slice none 0 0] 22)).alloc (.cells #[.slice A xs.length c] 22)) 3 (.int .i64 5)
  simp only [World.size_alloc] at bE bO bL bN
  replace bR := (((bR.alloc (.cells #[.nilIface] 25)).alloc (.cells #[.slice none 0 0] 22)).alloc (.cells #[.slice A xs.length c] 22)).alloc (.cells #[.int .i64 5] 3)
  replace bE := ((bE.alloc (.cells #[.slice none 0 0] 22)).alloc (.cells #[.slice A xs.length c] 22)).alloc (.cells #[.int .i64 5] 3)
  replace bO := (bO.alloc (.cells #[.slice A xs.length c] 22)).alloc (.cells #[.int .i64 5] 3)
  replace bL := bL.alloc (.cells #[.int .i64 5] 3)
  have hB0 : Below w.heap.size w (((((w.alloc (.cells #[.slice none 0 0] 22)).alloc (.cells #[.nilIface] 25)).alloc (.cells #[.slice none 0 0] 22)).alloc (.cells #[.slice A xs.length c] 22)).alloc (.cells #[.int .i64 5] 3)) :=
    (((((Below.refl _ w).alloc (Nat.le_refl _) _).alloc (by simp) _).alloc (by simp; omega) _).alloc (by simp; omega) _).alloc (by simp; omega) _
  have hsz : (((((w.alloc (.cells #[.slice none 0 0] 22)).alloc (.cells #[.nilIface] 25)).alloc (.cells #[.slice none 0 0] 22)).alloc (.cells #[.slice A xs.length c] 22)).alloc (.cells #[.int .i64 5] 3)).heap.size = w.heap.size + 5 := by simp
  generalize (((((w.alloc (.cells #[.slice none 0 0] 22)).alloc (.cells #[.nilIface] 25)).alloc (.cells #[.slice none 0 0] 22)).alloc (.cells #[.slice A xs.length c] 22)).alloc (.cells #[.int .i64 5] 3)) = W5 at bR bE bO bL bN hB0 hsz ⊢
  have HS := Lib.hid hsz
  clear hsz
  refine range_counted rfl (by omega) (gf := 46) (lb := #[.pointer (some ⟨w.heap.size + 1 + 1 + 1, 0, none⟩), .pointer (some ⟨w.heap.size + 1 + 1 + 1 + 1, 0, none⟩)]) rfl trivial (enters_of Tryd.func46 (by kernel_rfl) rfl)
    (enc := chunkV 5 A xs.length c) (n₀ := w.heap.size) (c := w.heap.size + 1 + 1 + 1) (N := chunks 5 xs.length) (by rw [HS.out]; omega) (by rw [HS.out]; omega)
    (chunks_counted Fence.wide (5 - 1) trivial rfl (by omega) A xs.length c (w.heap.size + 1 + 1 + 1) 5 (by omega) (by omega) hn hc w.heap.size _ bL bN) rfl
    (fun k W => (∃ v, Boxed W (w.heap.size + 1 + 1) 22 v ∧ W.ownsRow (w.heap.size + 5) 3 1 v (fourL xs k).length (ic (fourL xs k)) ∧ fourOk xs k) ∧ Boxed W w.heap.size 22 (.slice none 0 0) ∧ Boxed W (w.heap.size + 1) 25 .nilIface ∧ Boxed W (w.heap.size + 1 + 1 + 1 + 1) 3 (.int .i64 5) ∧ Below w.heap.size w W)
    (fun k W => ¬ fourOk xs (chunks 5 xs.length) ∧ Boxed W w.heap.size 22 (.slice none 0 0) ∧ Boxed W (w.heap.size + 1) 25 (.iface 47 (.int .i64 2)) ∧ Below w.heap.size w W)
    (OwnFrom.and (Own.from (holdsRow_own (w.heap.size + 5) (w.heap.size + 1 + 1) 22 3 1 (fun k => (fourL xs k).length) (fun k => ic (fourL xs k)) (fun k _ => fourOk xs k)) _)
      (OwnFrom.and (Own.from (boxed_own _ _ _) _) (OwnFrom.and (Own.from (boxed_own _ _ _) _) (OwnFrom.and (Own.from (boxed_own _ _ _) _) (ownFrom_below (Nat.le_refl _) (by rw [HS.out]; omega))))))
    (OwnFrom.and (Own.from (fun _ _ _ _ h _ _ => h) _) (OwnFrom.and (Own.from (boxed_own _ _ _) _) (OwnFrom.and (Own.from (boxed_own _ _ _) _) (ownFrom_below (Nat.le_refl _) (by rw [HS.out]; omega)))))
    (by
      rintro k W v ⟨⟨u, h1, h2, h3⟩, h4, h5, h6, h7⟩
      refine ⟨⟨u, h1.other (by omega) v, h2.kept (grownBy_setCell' W _ v) ?_, h3⟩, h4.other (by omega) v, h5.other (by omega) v, h6.other (by omega) v, h7.setCell (p := ⟨w.heap.size + 1 + 1 + 1, 0, none⟩) (by simp only; omega) v⟩
      rcases h2.2 with ⟨rfl, _⟩ | ⟨g, cap, cur, rfl, hg, _⟩
      · exact .inl rfl
      · right
        simp only [Value.ownBlock, ne_eq, Option.some.injEq]
        omega)
    ⟨⟨_, bO, World.ownsRow_nil _ _ _ _, fun j hj => absurd hj (by omega)⟩, bR, bE, bN, hB0⟩
    (fun k => { tmps := #[.slice A xs.length c, undef, .pointer (some ⟨w.heap.size, 0, none⟩), .pointer (some ⟨w.heap.size + 1, 0, none⟩), .nilIface, .pointer (some ⟨w.heap.size + 1 + 1, 0, none⟩), chunkV 5 A xs.length c k, undef, undef, undef, undef, .slice A xs.length c, .nilIface, .nilIface, .bool false, undef, .slice A xs.length c, .int .i64 xs.length, .int .i64 (xs.length % 5), .bool false, undef, .slice A xs.length c, .func (.func 46) #[] #[.pointer (some ⟨w.heap.size + 1 + 1 + 1, 0, none⟩), .pointer (some ⟨w.heap.size + 1 + 1 + 1 + 1, 0, none⟩)], chunkV 5 A xs.length c k, undef, undef, undef, undef, undef, undef, undef, undef, undef, undef, undef, undef, undef, undef, undef, undef, undef, undef, undef, undef, undef, undef], defers := [] }) ?assign ?body ?done ?stop
  case assign =>
    intro l k W K hK
    gi_wp2
    exact hK
  case body =>
    rintro l k W ⟨⟨v, bv, hrow, hok⟩, b0, b1, b4, hB⟩ hk
    have hkn := (chunks_lt (by omega)).1 hk
    have hrd := chunk_rds (m := 5) (hr.below hB) hn k
    have hcap := left_cap (m := 5) (A := A) hn k
    have hll := left_len 5 A xs.length c k
    have hsz5 : w.heap.size + 5 ≤ W.heap.size := b4.lt
    have hl5 : ((xs.drop (k * 5)).take 5).length = 5 := by have := H5.out; simp; omega
    have hbits : Bits ((xs.drop (k * 5)).take 5) := fun b hb => HBB.out b (List.mem_of_mem_drop (List.mem_of_mem_take hb))
    have HD : Hid (decI xs k = idxI (num5 ((xs.drop (k * 5)).take 5)) codesL) := Lib.hid rfl
    have HF := Lib.hid (fourL_succ xs k)
    show Code.wpIn _ _ _ _ _ _ _
    unfold chunkV
    have h5n : min 5 (left 5 A xs.length c k).2.1 = 5 := by have := H5.out; rw [hll]; omega
    rw [h5n] at hrd ⊢
    generalize left 5 A xs.length c k = s at hrd hcap hll ⊢
    obtain ⟨A1, n1, c1⟩ := s
    dsimp only at hrd hcap ⊢
    generalize (xs.drop (k * 5)).take 5 = ys at hrd hl5 hbits HD ⊢
    have HYL := Lib.hid hl5
    have HYB := Lib.hid hbits
    have hcv := bv.cell
    have hcf := bv.frozen
    clear hl5 hbits hll h5n
    gi_wp2_with fail
    gi_loop [7, 9, 26] (fun n _ i => ∃ j : Nat, j ≤ 5 ∧ i = .int .i64 j ∧ n = .int .i64 (num5 (ys.take j))) (fun _ _ i => 5 - (intOf i).toNat)
    case atStart => exact ⟨0, by omega, rfl, rfl⟩
    case round =>
      obtain ⟨j, hj, rfl, rfl⟩ := hrel
      by_cases hlt : j < 5
      · obtain ⟨b, off, hj', rfl, hcell⟩ := hrd.int hlt
        have hnb := num5_le j (ys.take j) (by rw [List.length_take, HYL.out]; omega) (by omega) (fun b hb => HYB.out b (List.mem_of_mem_take hb))
        have hp5 : (2 : Int) ^ j ≤ 32 := by
          have : ∀ j, j < 5 → (2 : Int) ^ j ≤ 32 := by decide
          exact this j hlt
        have hnb2 : num5 (ys.take j) ≤ 31 := by omega
        obtain ⟨hnb1, _⟩ := hnb
        have HSN := Lib.hid (show num5 (ys.take (j + 1)) = 2 * num5 (ys.take j) + ys[j] from by rw [List.take_succ_eq_append_getElem hj', num5_snoc])
        have hbit := HYB.out _ (List.getElem_mem hj')
        have hb0 : 0 ≤ ys[j] := by omega
        have hb1 : ys[j] ≤ 1 := by omega
        clear hbit hp5
        generalize num5 (ys.take j) = nv at *
        generalize ys[j] = bv' at *
        gi_wp2
        go_round
        case rel => exact ⟨j + 1, by omega, by go_num, by rw [HSN.out]⟩
        case measure => simp [intOf]; omega
      · obtain rfl : j = 5 := by omega
        have HT5 := Lib.hid (show ys.take 5 = ys from List.take_of_length_le (by rw [HYL.out]; exact Nat.le_refl _))
        rw [HT5.out]
        have HCR : Hid (Rds W 1 (some ⟨0, 0, none⟩) 16 (ic codesL)) := Lib.hid ⟨rfl, fun _ => ⟨_, _, rfl, fun q hq => by
          have hq' : q < 16 := hq
          have h1 := (hB.cell (p := ⟨0, q, none⟩) hcw.lt).trans (hcw q hq')
          rw [Nat.zero_add, h1]
          have h2 := ic_get codesL q hq'
          rw [h2]
          unfold codeI
          simp [List.getD_eq_getElem?_getD, show q < codesL.length from hq']; try rfl⟩⟩
        have hval : decI xs k = -1 ∨ 0 ≤ decI xs k ∧ decI xs k ≤ 15 := by
          rw [HD.out]
          unfold idxI
          split
          · rename_i h
            right
            have : codesL.length = 16 := rfl
            omega
          · exact .inl rfl
        have hc0 := b0.cell
        have hf0 := b0.frozen
        have hc1 := b1.cell
        have hf1 := b1.frozen
        have HKS : Hid (k < 200) := Lib.hid (by omega)
        have HFL := Lib.hid (fourL_len xs k)
        rcases hval with hv | ⟨hv0, hv1⟩
        · have HV := Lib.hid hv
          clear hv
          gi_wp2_with (refine ⟨trivial, ?_⟩; gi_at_call 37; refine (CallsIn.inRound l (callsIn_wide.2 (index_any _ _ _ _ _ _ HCR.out (by unfold maxLen; omega)))).mono ?_; rintro e w' ⟨rfl, rfl⟩; rw [← HD.out, HV.out])
          exact ⟨(KeepsOthers.setCell _ _ _).trans (KeepsOthers.setCell _ _ _), fun h => by have := h k hk; rw [HV.out] at this; omega, (b0.set _).other (by omega) _, (b1.other (by omega) _).set _, (hB.setCell (p := ⟨w.heap.size, 0, none⟩) (Nat.le_refl _) _).setCell (p := ⟨w.heap.size + 1, 0, none⟩) (by simp) _⟩
        · generalize hz : decI xs k = z at HD HF hv0 hv1
          have HZ := Lib.hid hz
          clear hz
          gi_wp2_with (first
            | (refine ⟨trivial, ?_⟩; gi_at_call 37; refine (CallsIn.inRound l (callsIn_wide.2 (index_any _ _ _ _ _ _ HCR.out (by unfold maxLen; omega)))).mono ?_; rintro e w' ⟨rfl, rfl⟩; rw [← HD.out])
            | (gi_at_builtin; refine wpListIn_append_own _ rfl _ _ 22 rfl (w.heap.size + 5) 3 i0 (.int .i64 0) 1 8 Tryd.underlying22 hi hz0 hz1 hz2 rfl (by decide) _ _ _ rfl (hrow.alloc _) ⟨W.heap.size, 0, none⟩ 1 1 [.int .i64 z] rfl rfl (cell_one_new _ _ _) (by simp [Value.oneCell']) (by have := HFL.out; have := HKS.out; unfold maxLen; omega) (by have := HFL.out; have := HKS.out; omega) (by simp; omega) ?_; intro v' w1 hown' hgrow _; obtain ⟨g', cap', rfl⟩ := ownsRow_succ hown'; obtain ⟨hv1', hv2', hr2', hk2', hkp2, hold⟩ := appended_five (n := w.heap.size) (c := w.heap.size + 1 + 1 + 1) (by decide) bv hrow (by omega) (by omega) (by omega) hsz5 hown' hgrow; have hcn := hv1'.cell; have hfn := hv1'.frozen; have HOLD := Lib.hid hold; clear hold))
          refine ⟨hk2', hkp2, ⟨_, hv2', ?_, ?_⟩, (HOLD.out _ (by omega) (by omega)).trans b0, (HOLD.out _ (by omega) (by omega)).trans b1, (HOLD.out _ (by omega) (by omega)).trans b4, hB.trans hkp2.below⟩
          · rw [HF.out, List.length_append, ic_append]
            exact hr2'
          · intro j hj
            rcases Nat.lt_or_ge j k with h | h
            · exact hok j h
            · obtain rfl : j = k := by omega
              rw [HZ.out]; exact hv0
  case done =>
    rintro D W hD ⟨⟨v, bv, hrow, hok⟩, b0, b1, b4, hB⟩ hK
    obtain ⟨A', c', rfl, hc1', hc2'⟩ := own_slice hrow
    have hcv := bv.cell
    have hc0 := b0.cell
    have hf0 := b0.frozen
    have hc1 := b1.cell
    have hf1 := b1.frozen
    gi_wp2
    have hK' := ((KeepsOthers.setCell W ⟨w.heap.size, 0, none⟩ (.slice A' (fourL xs (chunks 5 xs.length)).length c')).trans (KeepsOthers.setCell _ ⟨w.heap.size + 1, 0, none⟩ .nilIface)).same D _ hK rfl
    refine ⟨by simp, .inl ⟨_, _, rfl, run_takeDeferred hK', ?_⟩⟩
    have bR' := (b0.set (.slice A' (fourL xs (chunks 5 xs.length)).length c')).other (B' := w.heap.size + 1) (by omega) .nilIface
    have bE' := (b1.other (B' := w.heap.size) (by omega) (.slice A' (fourL xs (chunks 5 xs.length)).length c')).set .nilIface
    have hcR := cell_kept bR'.cell (grownBy_putObj' _ D (.deferred none)) (fun r e => by cases e; exact ⟨_, hK', rfl⟩)
    have hcE := cell_kept bE'.cell (grownBy_putObj' _ D (.deferred none)) (fun r e => by cases e; exact ⟨_, hK', rfl⟩)
    have hrow' := ownsRow_putObj ((hrow.kept (grownBy_setCell' W w.heap.size (.slice A' (fourL xs (chunks 5 xs.length)).length c')) ?_).kept (grownBy_setCell' _ (w.heap.size + 1) .nilIface) ?_) (.deferred none) hK' rfl
    · refine ⟨_, ?_, .inl ⟨hok, A', c', rfl, Own.mono (base := w.heap.size + 5) hrow' (by omega), hc1', hc2', ?_⟩⟩
      · simp [results, Tryd.f15, go_sem, hcR, hcE]
      · have hB2 := (hB.setCell (p := ⟨w.heap.size, 0, none⟩) (Nat.le_refl _) (.slice A' (fourL xs (chunks 5 xs.length)).length c')).setCell (p := ⟨w.heap.size + 1, 0, none⟩) (by simp) .nilIface
        exact hB2.trans (belowK_b (w := w) (Nat.le_refl _) _ D _ _ (by have := HS.out; omega) hK' rfl rfl)
    · rcases hrow.2 with ⟨e, _⟩ | ⟨g, cap, cur, e, hg, _⟩
      · rw [e]; exact .inl rfl
      · rw [e]; right; simp only [Value.ownBlock, ne_eq, Option.some.injEq]; omega
    · rcases hrow.2 with ⟨e, _⟩ | ⟨g, cap, cur, e, hg, _⟩
      · rw [e]; exact .inl rfl
      · rw [e]; right; simp only [Value.ownBlock, ne_eq, Option.some.injEq]; omega
  case stop =>
    rintro D k W hD hk ⟨hno, b0, b1, hB⟩ hK
    gi_wp2
    refine ⟨by simp, .inl ⟨_, _, rfl, run_takeDeferred hK, ?_⟩⟩
    have hcR := cell_kept b0.cell (grownBy_putObj' _ D (.deferred none)) (fun r e => by cases e; exact ⟨_, hK, rfl⟩)
    have hcE := cell_kept b1.cell (grownBy_putObj' _ D (.deferred none)) (fun r e => by cases e; exact ⟨_, hK, rfl⟩)
    refine ⟨_, ?_, .inr ⟨hno, rfl, hB.trans (belowK_b (w := w) (Nat.le_refl _) _ D _ _ (by have := HS.out; omega) hK rfl rfl)⟩⟩
    simp [results, Tryd.f15, go_sem, hcR, hcE]
end Go.Proofs.YtalehbhimnhnjaaDoor
