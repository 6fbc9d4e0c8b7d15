/- Rows of slices of ints of the call's own; slices.Equal; the flag; ferryhythesame.Rows. -/
import Derived.Test.YtbmajajndckfoaaFramesPlain
import Derived.Test.YtbmajajndckfoaaRowsArg
import Derived.Test.YtbmajajndckfoaaInts
namespace Go.Proofs.Ytbmajajndckfoaa
open Go.RowKit
theorem info_row : (Try.prog.info? 22).map (fun i => (i.zero, i.size, i.bytes)) = some (some (.slice none 0 0), 1, 24) := by kernel_rfl
/-- A row of slices of the call's own; each reads as a list; the elements' blocks are as P says, and none is the row's own. -/
def OwnRowsP (P : Nat → Prop) (w : World) (base : Nat) (v : Value) (xss : List (List Int)) : Prop :=
  ∃ cs : List Value, w.ownsRow base 22 1 v xss.length cs ∧ (∀ u ∈ cs, u.oneCell' = true) ∧ ∀ i (h : i < xss.length), ∃ A c, cs[i]? = some (.slice A xss[i].length c) ∧ Rds w 1 A xss[i].length (ic xss[i]) ∧ xss[i].length ≤ c ∧ c ≤ maxLen ∧ (0 < xss[i].length → ∀ a, A = some a → P a.block ∧ v.ownBlock ≠ some a.block)
abbrev OwnRows := OwnRowsP fun _ => True
theorem Rds.lt {w : World} {A : Option Addr} {ys : List Int} (hr : Rds w 1 A ys.length (ic ys)) (h0 : 0 < ys.length) {a : Addr} (ha : A = some a) : a.block < w.heap.size := by
  obtain ⟨b, off, e2, hcell⟩ := hr.2 (by rw [ic_length]; exact h0)
  rw [ha] at e2
  injection e2 with e2
  subst e2
  have := hcell 0 (by rw [ic_length]; exact h0)
  rw [List.getElem?_eq_getElem (by rw [ic_length]; exact h0)] at this
  exact cell_lt this
theorem Rds.zero {w : World} {A : Option Addr} {ys : List Int} (h : ¬ 0 < ys.length) : Rds w 1 A ys.length (ic ys) := by
  have : ys = [] := List.eq_nil_of_length_eq_zero (by omega)
  subst this
  exact ⟨by simp [ic], fun h => absurd h (by simp [ic])⟩
/-- Two rows lie in two blocks. -/
def Sep (u v : Value) : Prop := ∀ b, u.ownBlock = some b → v.ownBlock ≠ some b
theorem Sep.symm {u v : Value} (h : Sep u v) : Sep v u := fun b h1 h2 => h b h2 h1
theorem Sep.grown {u v v' : Value} {m n : Nat} (hs : Sep u v) (hu : ∀ b, u.ownBlock = some b → b < m) (hn : m ≤ n) (h : v'.ownBlock = v.ownBlock ∨ v'.ownBlock = some n) : Sep u v' := by
  intro b h1 h2
  rcases h with h | h
  · rw [h] at h2; exact hs b h1 h2
  · rw [h] at h2
    injection h2 with h2
    have := hu b h1
    omega
theorem own_row_lt {w : World} {base : Nat} {e : TypeId} {size n : Nat} {v : Value} {cs : List Value} (h : w.ownsRow base e size v n cs) : ∀ b, v.ownBlock = some b → b < w.heap.size := fun _ hb => (own_lt h hb).2
theorem Own.far {w w' : World} {base : Nat} {u v : Value} {xs : List Int} (h : Own w base u xs) (hg : w.grownBy w' v.ownBlock) (hs : Sep u v) : Own w' base u xs := by
  refine World.ownsRow.kept h hg ?_
  rcases hu : u.ownBlock with _ | b
  · exact .inl rfl
  · exact .inr fun e => hs b hu e.symm
section
variable {P : Nat → Prop} {w w' : World} {base : Nat} {v : Value} {xss : List (List Int)}
theorem OwnRowsP.nil_ (P : Nat → Prop) (w : World) (base : Nat) : OwnRowsP P w base (.slice none 0 0) [] := ⟨[], ownsRow_nil w base _ 1, by simp, fun i h => absurd h (by simp)⟩
theorem OwnRowsP.shape (h : OwnRowsP P w base v xss) : ∃ A c, v = .slice A xss.length c ∧ xss.length ≤ c ∧ c ≤ maxLen := by
  obtain ⟨cs, ho, _⟩ := h
  exact own_slice ho
theorem OwnRowsP.row_lt (h : OwnRowsP P w base v xss) : ∀ b, v.ownBlock = some b → b < w.heap.size := own_row_lt h.choose_spec.1
theorem OwnRowsP.row_ge (h : OwnRowsP P w base v xss) : ∀ b, v.ownBlock = some b → base ≤ b := fun _ hb => (own_lt h.choose_spec.1 hb).1
theorem OwnRowsP.rows {A : Option Addr} {n c : Nat} (h : OwnRowsP P w base (.slice A n c) xss) : RowsW w A n xss := by
  obtain ⟨A', c', e, _⟩ := h.shape
  cases e
  obtain ⟨cs, ho, _, hx⟩ := h
  refine ⟨rfl, fun i hi => ?_⟩
  obtain ⟨B, d, h1, h2, h3, h4, _⟩ := hx i hi
  have hr := Rds.of_own ho
  obtain ⟨b, off, e, hc⟩ := hr.2 (by have := hr.1; omega)
  refine ⟨b, off, B, d, e, ?_, h2, h3, h4⟩
  rw [hc i (by have := hr.1; omega), h1]
theorem OwnRowsP.below (h : OwnRowsP P w base v xss) (hb : Below w.heap.size w w') : OwnRowsP P w' base v xss := by
  obtain ⟨cs, ho, h1, hx⟩ := h
  refine ⟨cs, own_below ho hb, h1, fun i hi => ?_⟩
  obtain ⟨A, c, e, hr, h2⟩ := hx i hi
  exact ⟨A, c, e, hr.below hb, h2⟩
theorem OwnRowsP.lower {base' : Nat} (h : OwnRowsP P w base v xss) (hb : base' ≤ base) : OwnRowsP P w base' v xss := by
  obtain ⟨cs, ho, h1, hx⟩ := h
  refine ⟨cs, ⟨ho.1, ?_⟩, h1, hx⟩
  rcases ho.2 with h0 | ⟨g, cap, cur, e, hg, h3⟩
  · exact .inl h0
  · exact .inr ⟨g, cap, cur, e, Nat.le_trans hb hg, h3⟩
/-- Another row has grown. -/
theorem OwnRowsP.far {u : Value} (h : OwnRowsP P w base v xss) (hg : w.grownBy w' u.ownBlock) (hs : Sep v u) (hp : ∀ b, P b → u.ownBlock ≠ some b) : OwnRowsP P w' base v xss := by
  obtain ⟨cs, ho, h1, hx⟩ := h
  refine ⟨cs, ?_, h1, fun i hi => ?_⟩
  · refine World.ownsRow.kept ho hg ?_
    rcases hu : v.ownBlock with _ | b
    · exact .inl rfl
    · exact .inr fun e => hs b hu e.symm
  · obtain ⟨A, c, e, hr, h2, h3, h4⟩ := hx i hi
    refine ⟨A, c, e, ?_, h2, h3, h4⟩
    by_cases h0 : 0 < xss[i].length
    · exact hr.grown hg fun a ha => hp _ (h4 h0 a ha).1
    · exact Rds.zero h0
/-- append(s, l): one slice; behind 'at_builtin' (the slice lies in a new block). -/
theorem wp_append_row (w0 : World) {ops : Array Oper} {rest : List Oper} {o : Oper} {a : Act} {Q : Exit → Act → World → Prop} {t : TypeId} {c : Nat} (hgd : o.guard = none) (s x : Operand)
    (ho : o.op = .call { callee := .builtin .append, args := #[s, x], argTypes := #[31, 31] })
    (W : World) (base : Nat) (v : Value) (xss : List (List Int)) (hs : a.eval s = v) (hown : OwnRowsP P w0 base v xss)
    (B : Option Addr) (d : Nat) (l : List Int) (hx : a.eval x = .slice (some ⟨w0.heap.size, 0, none⟩) 1 c) (hl : Rds w0 1 B l.length (ic l)) (hd : l.length ≤ d) (hdm : d ≤ maxLen)
    (hsep : 0 < l.length → ∀ a, B = some a → P a.block ∧ v.ownBlock ≠ some a.block)
    (hlen : xss.length + 1 ≤ 1000000000000) (hbase : base ≤ w0.heap.size) (hB : Below base W w0)
    (h : ∀ A' c' w', OwnRowsP P w' base (.slice A' (xss.length + 1) c') (xss ++ [l]) → Below base W w' → w0.grownBy w' v.ownBlock → ((Value.slice A' (xss.length + 1) c').ownBlock = v.ownBlock ∨ (Value.slice A' (xss.length + 1) c').ownBlock = some (w0.heap.size + 1)) → wpList Try.prog ops Q rest (a.put o.dst (.slice A' (xss.length + 1) c')) w') :
    wpList Try.prog ops Q (o :: rest) a (w0.alloc (.cells #[.slice B l.length d] t)) := by
  obtain ⟨i0, hi, hz0, hz1, hz2⟩ := info_parts info_row
  obtain ⟨cs, hro, h1c, hrow⟩ := hown
  have hba : Below w0.heap.size w0 (w0.alloc (.cells #[.slice B l.length d] t)) := (Below.refl _ _).alloc (Nat.le_refl _) _
  have hnew : Rds (w0.alloc (.cells #[.slice B l.length d] t)) 1 (some ⟨w0.heap.size, 0, none⟩) 1 [.slice B l.length d] := by
    refine ⟨rfl, fun _ => ⟨_, _, rfl, fun j hj => ?_⟩⟩
    match j, hj with
    | 0, _ => rw [World.cell?_alloc_at _ _ _ _ (by simp)]; rfl
  have h1 : ∀ u ∈ [Value.slice B l.length d], u.oneCell' = true := by intro u hu; rw [List.mem_singleton.1 hu]; rfl
  refine wpList_append_rds _ hgd s x 31 ho base 22 i0 (.slice none 0 0) 1 24 Try.underlying31 hi hz0 hz1 hz2 rfl (by omega) v xss.length cs hs (own_below hro hba) _ 1 c _ hx hnew h1 (by unfold maxLen; omega) (by omega) (by simp; omega) ?_
  intro v' w' g1 g2 g3
  obtain ⟨A', c', rfl, hc1, hc2⟩ := own_slice g1
  have hcl : cs.length = xss.length := by have := hro.1; omega
  have hgw : w0.grownBy w' v.ownBlock := by
    refine ⟨g2.os, g2.tape, g2.output, Nat.le_trans (by simp) g2.size, fun k hk hne => ?_⟩
    rw [g2.block k (by simp; omega) hne]
    exact hba.block k hk
  have hvl := own_row_lt hro
  refine h A' c' w' ⟨cs ++ [.slice B l.length d], ?_, ?_, fun i hi => ?_⟩ (below_own (hB.alloc hbase _) g2 (by simp; omega) (own_below hro hba)) hgw (by simpa using g3)
  · rw [List.length_append]; exact g1
  · intro u hu
    rcases List.mem_append.1 hu with hu | hu
    · exact h1c u hu
    · exact h1 u hu
  · have far : ∀ (D : Option Addr) (ys : List Int), Rds w0 1 D ys.length (ic ys) → (0 < ys.length → ∀ a, D = some a → P a.block ∧ v.ownBlock ≠ some a.block) →
        Rds w' 1 D ys.length (ic ys) ∧ (0 < ys.length → ∀ a, D = some a → P a.block ∧ (Value.slice A' (xss.length + 1) c').ownBlock ≠ some a.block) := by
      intro D ys hr hs
      by_cases h0 : 0 < ys.length
      · refine ⟨hr.grown hgw (fun a ha => (hs h0 a ha).2), fun _ a ha => ⟨(hs h0 a ha).1, fun e => ?_⟩⟩
        have hbl := hr.lt h0 ha
        rcases g3 with g3 | g3
        · rw [g3] at e; exact (hs h0 a ha).2 e
        · rw [g3] at e
          injection e with e
          simp at e
          omega
      · exact ⟨Rds.zero h0, fun h => absurd h h0⟩
    rcases Nat.lt_or_ge i xss.length with hlt | hge
    · obtain ⟨D, e, k1, k2, k3, k4, k5⟩ := hrow i hlt
      have hg : (xss ++ [l])[i] = xss[i] := List.getElem_append_left hlt
      rw [hg]
      obtain ⟨m1, m2⟩ := far D xss[i] k2 k5
      exact ⟨D, e, by rw [List.getElem?_append_left (by omega)]; exact k1, m1, k3, k4, m2⟩
    · have hil : i = xss.length := by simp at hi; omega
      subst hil
      have hg : (xss ++ [l])[xss.length] = l := by simp
      rw [hg]
      obtain ⟨m1, m2⟩ := far B l hl hsep
      exact ⟨B, d, by rw [List.getElem?_append_right (by omega), hcl, Nat.sub_self]; rfl, m1, hd, hdm, m2⟩
end

/-! ### slices.Equal, the flag, Rows -/
theorem equal_any (A B : Option Addr) (n c m d : Nat) (xs ys : List Int) (w : World) (hx : Rds w 1 A n (ic xs)) (hy : Rds w 1 B m (ic ys)) (hn : n ≤ maxLen) (hm : m ≤ maxLen) :
    Calls Try.prog 29 #[.slice A n c, .slice B m d] w fun e w' => e = .returned (.bool (decide (xs = ys))) ∧ ∃ k, w' = w.drewN k := by
  have HX := Lib.hid hx.len_int
  have HY := Lib.hid hy.len_int
  unfold maxLen at hn hm
  by_cases hnm : n = m
  · subst hnm
    go_enter Try.func29, Try.ntmps29
    go_wp2_with fail
    go_loopw [13] (fun i wr => ∃ k q : Nat, k ≤ n ∧ i = .int .i64 k ∧ wr = w.drewN q ∧ xs.take k = ys.take k) (fun i _ => n - (intOf i).toNat)
    case atStart => exact ⟨0, 0, Nat.zero_le _, rfl, rfl, rfl⟩
    case round =>
      obtain ⟨k, q, hk, rfl, rfl, hall⟩ := hrel
      have HA := Lib.hid hall
      clear hall
      by_cases hlt : k < n
      · obtain ⟨b, off, hk', rfl, hcell⟩ := hx.int hlt
        obtain ⟨b2, off2, hk2, rfl, hcell2⟩ := hy.int hlt
        by_cases he : xs[k] = ys[k]
        · have he1 : (xs[k] != ys[k]) = false := by simpa using he
          have HE := Lib.hid he
          clear he
          go_wp2
          go_quiet (fail)
          go_wp2
          go_roundw
          case rel =>
            refine ⟨k + 1, _, by omega, by go_num, rfl, ?_⟩
            rw [List.take_succ_eq_append_getElem hk', List.take_succ_eq_append_getElem hk2, HA.out, HE.out]
          case measure => simp [intOf]; omega
        · have he1 : (xs[k] != ys[k]) = true := by simpa using he
          have HE := Lib.hid he
          clear he
          go_wp2
          go_quiet (fail)
          go_wp2
          go_ret
          exact ⟨ret_eq (bool_eq (by symm; rw [decide_eq_false_iff_not]; intro e; exact HE.out (by simp only [e]))), q + _, World.drewN_drewN _ _ _⟩
      · go_wp2
        go_ret
        refine ⟨ret_eq (bool_eq ?_), q, rfl⟩
        symm
        rw [decide_eq_true_iff]
        have h1 := HA.out
        have hx' := HX.out
        have hy' := HY.out
        rwa [List.take_of_length_le (by omega), List.take_of_length_le (by omega)] at h1
  · have hne : ((n : Int) != (m : Int)) = true := by rw [bne_iff_ne]; omega
    go_enter Try.func29, Try.ntmps29
    go_wp2
    go_ret
    refine ⟨ret_eq (bool_eq ?_), 0, rfl⟩
    symm
    rw [decide_eq_false_iff_not]
    rintro rfl
    exact hnm (HX.out.trans HY.out.symm)
theorem flag_any (w : World) : Calls Try.prog 23 #[] w fun e w' => e = .returned (.slice (some ⟨w.heap.size, 0, none⟩) 8 8) ∧ w.alloc (.cells #[.int .i64 0, .int .i64 1, .int .i64 1, .int .i64 1, .int .i64 1, .int .i64 1, .int .i64 1, .int .i64 0] 3) = w' := by
  go_enter Try.func23, Try.ntmps23
  go_wp2
  go_ret
  exact ⟨rfl, rfl⟩
theorem refFlag_any (w : World) : Calls Try.prog 15 #[] w fun e w' => e = .returned (.slice (some ⟨w.heap.size, 0, none⟩) 8 8) ∧ w.alloc (.cells #[.int .i64 0, .int .i64 1, .int .i64 1, .int .i64 1, .int .i64 1, .int .i64 1, .int .i64 1, .int .i64 0] 3) = w' := by
  go_enter Try.func15, Try.ntmps15
  go_wp2
  go_ret
  exact ⟨rfl, rfl⟩
theorem rds_flag (w : World) : Rds (w.alloc (.cells #[.int .i64 0, .int .i64 1, .int .i64 1, .int .i64 1, .int .i64 1, .int .i64 1, .int .i64 1, .int .i64 0] 3)) 1 (some ⟨w.heap.size, 0, none⟩) 8 (ic flagL) := rds_lit w flagL 3
theorem own_flag (w : World) (base : Nat) (hb : base ≤ w.heap.size) : Own (w.alloc (.cells #[.int .i64 0, .int .i64 1, .int .i64 1, .int .i64 1, .int .i64 1, .int .i64 1, .int .i64 1, .int .i64 0] 3)) base (.slice (some ⟨w.heap.size, 0, none⟩) 8 8) flagL :=
  World.ownsRow_lit w (ic flagL).toArray 8 hb (by unfold maxLen; omega) rfl
theorem rows_any (A B : Option Addr) (n c m d : Nat) (xss yss : List (List Int)) (w : World) (hx : RowsW w A n xss) (hy : RowsW w B m yss) (hn : n ≤ maxLen) :
    Calls Try.prog 17 #[.slice A n c, .slice B m d] w fun e w' => e = .returned (.bool (decide (xss = yss))) ∧ ∃ k, w' = w.drewN k := by
  obtain ⟨rfl, hx2⟩ := id hx
  obtain ⟨rfl, hy2⟩ := id hy
  unfold maxLen at hn
  by_cases hnm : xss.length = yss.length
  · have HNM := Lib.hid hnm
    have hnm1 : ((xss.length : Int) != (yss.length : Int)) = false := by rw [bne_eq_false_iff_eq]; omega
    clear hnm
    go_enter Try.func17, Try.ntmps17
    go_wp2_with fail
    go_loopw [5] (fun i wr => ∃ k q : Nat, k ≤ xss.length ∧ i = .int .i64 k ∧ wr = w.drewN q ∧ xss.take k = yss.take k) (fun i _ => xss.length - (intOf i).toNat)
    case atStart => exact ⟨0, 0, Nat.zero_le _, rfl, rfl, rfl⟩
    case round =>
      obtain ⟨k, q, hk, rfl, rfl, hall⟩ := hrel
      have HA := Lib.hid hall
      clear hall
      by_cases hlt : k < xss.length
      · have hlt2 : k < yss.length := by rw [← HNM.out]; exact hlt
        obtain ⟨b, off, C, c', rfl, hc1, hr1, h1, h2⟩ := hx2 k hlt
        obtain ⟨b2, off2, C2, c2', rfl, hc2, hr2, h3, h4⟩ := hy2 k hlt2
        have HTX := Lib.hid (List.take_succ_eq_append_getElem hlt)
        have HTY := Lib.hid (List.take_succ_eq_append_getElem hlt2)
        generalize xss[k] = x at *
        generalize yss[k] = y at *
        replace hc1 := ((below_drewN (Below.refl _ _) q).cell (p := ⟨b, off + k, none⟩) (cell_lt hc1)).trans hc1
        replace hc2 := ((below_drewN (Below.refl _ _) q).cell (p := ⟨b2, off2 + k, none⟩) (cell_lt hc2)).trans hc2
        replace hr1 := hr1.drewN q
        replace hr2 := hr2.drewN q
        generalize hwz : w.drewN q = wz at *
        have HWZ := Lib.hid hwz
        clear hwz
        have HI := Lib.hid (fun q' => ints_any C C2 x.length c' y.length c2' x y (wz.drewN q') (hr1.drewN q') (hr2.drewN q') (Nat.le_trans h1 h2) (Nat.le_trans h3 h4))
        by_cases he : x = y
        · have he1 : decide (x = y) = true := decide_eq_true he
          have HE := Lib.hid he
          rw [he1] at HI
          clear he he1
          go_wp2
          go_quiet ((go_at_call 14; exact Calls.quiet_of (HI.out _)))
          go_wp2
          go_roundw
          case rel =>
            refine ⟨k + 1, _, by omega, by go_num, by rw [← HWZ.out]; exact World.drewN_drewN _ _ _, ?_⟩
            rw [HTX.out, HTY.out, HA.out, HE.out]
          case measure => simp [intOf]; omega
        · have he1 : decide (x = y) = false := decide_eq_false he
          have HE := Lib.hid he
          rw [he1] at HI
          clear he he1
          go_wp2
          go_quiet ((go_at_call 14; exact Calls.quiet_of (HI.out _)))
          go_wp2
          go_ret
          refine ⟨ret_eq (bool_eq ?_), q + _, by rw [← HWZ.out]; exact World.drewN_drewN _ _ _⟩
          symm
          rw [decide_eq_false_iff_not]
          intro e
          have h5 := HTX.out
          have h6 := HTY.out
          have h7 := HA.out
          rw [e, h6, ← e, h7] at h5
          exact HE.out (by simpa using h5.symm)
      · go_wp2
        go_ret
        refine ⟨ret_eq (bool_eq ?_), q, rfl⟩
        symm
        rw [decide_eq_true_iff]
        have h1 := HA.out
        have := HNM.out
        rwa [List.take_of_length_le (by omega), List.take_of_length_le (by omega)] at h1
  · have hne : ((xss.length : Int) != (yss.length : Int)) = true := by rw [bne_iff_ne]; omega
    have HNM := Lib.hid hnm
    clear hnm
    go_enter Try.func17, Try.ntmps17
    go_wp2
    go_ret
    refine ⟨ret_eq (bool_eq ?_), 0, rfl⟩
    symm
    rw [decide_eq_false_iff_not]
    rintro rfl
    exact HNM.out rfl
end Go.Proofs.Ytbmajajndckfoaa
