/- append to a slice that begins inside a block of the call's own: whether there is room or not, what is handed back reads as the two lists together; ints. -/
import Derived.Test.YtalehbhimnhnjaaOwn
import Derived.Deep.RegionLaw
import Derived.Lib.SlBuf
import Derived.Deep.Upon
namespace Go.Proofs.Ytalehbhimnhnjaa
open Go.RowKit

theorem run_append_mid (w : World) (base ty b off n c : Nat) (xs : List Int) (hx : Rds w 1 (some ⟨b, off, none⟩) n (ic xs)) (B : Option Addr) (m d : Nat) (ys : List Int) (hy : Rds w 1 B m (ic ys)) (hm : 0 < m)
    (hb : base ≤ b) (hbase : base ≤ w.heap.size) (hl : n + m ≤ 17592186044416) (hc : c ≤ maxLen)
    (hroom : n + m ≤ c → ∀ j, j < m → (w.cell? ⟨b, off + n + j, none⟩).isSome = true ∧ w.frozen? ⟨b, off + n + j, none⟩ = false) :
    ∃ A' c' w', (Builtin.append_ #[22, 22] ty #[.slice (some ⟨b, off, none⟩) n c, .slice B m d]).run Try.prog w = .ok (.slice A' (n + m) c') w' ∧ Rds w' 1 A' (n + m) (ic (xs ++ ys)) ∧ n + m ≤ c' ∧ c' ≤ maxLen ∧ Below base w w' ∧ w.grownBy w' (some b) := by
  obtain ⟨i0, hi, hz0, hz1, hz2⟩ := info_parts info_int
  have hxl := hx.len_int
  have hyl := hy.len_int
  obtain ⟨b2, off2, rfl, hcy⟩ := hy.2 (by rw [ic_length]; omega)
  have hnews : ∀ j u, (ic ys)[j]? = some u → w.cell? ((⟨b2, off2, none⟩ : Addr).add j) = some u := by
    intro j u hu
    rw [Go.WideShapes.add_plain]
    rw [hcy j (List.getElem?_eq_some_iff.1 hu).1, hu]
  have holds : ∀ j u, (ic xs)[j]? = some u → w.cell? ⟨b, off + j, none⟩ = some u := by
    intro j u hu
    have hj := (List.getElem?_eq_some_iff.1 hu).1
    obtain ⟨b', o', e, hcx⟩ := hx.2 (by omega)
    injection e with e
    injection e with e1 e2
    subst e1; subst e2
    rw [hcx j hj, hu]
  by_cases hr : n + m ≤ c
  · have hro := hroom hr
    have hn1 : (ic ys).length = m * i0.size := by rw [ic_length, hz1]; omega
    have hrun := run_append_room_cells (P := Try.prog) w 22 ty 3 i0 Try.underlying22 hi b off n c ⟨b2, off2, none⟩ m d (ic ys) hn1 hnews (ic_one _) hr
      (fun j hj => by rw [hz1, Nat.mul_one]; exact (hro j (by rw [ic_length] at hj; omega)).1) (fun j hj => by rw [hz1, Nat.mul_one]; exact (hro j (by rw [ic_length] at hj; omega)).2)
    rw [hz1, Nat.mul_one] at hrun
    refine ⟨_, c, _, hrun, ⟨by rw [ic_length, List.length_append]; omega, fun _ => ⟨b, off, rfl, fun j hj => ?_⟩⟩, hr, hc, Lib.below_setCells b hb _ _ (Below.refl _ _), ?_⟩
    · rw [ic_append] at hj ⊢
      rcases Nat.lt_or_ge j n with h | h
      · rw [World.cell?_setCells_out b _ _ _ _ (fun _ _ => .inl (by simp only; omega)), List.getElem?_append_left (by rw [ic_length]; omega)]
        have hj2 : j < (ic xs).length := by rw [ic_length]; omega
        rw [List.getElem?_eq_getElem hj2]
        exact holds j _ (List.getElem?_eq_getElem hj2)
      · obtain ⟨q, rfl⟩ : ∃ q, j = n + q := ⟨j - n, by omega⟩
        have hq : q < (ic ys).length := by rw [List.length_append, ic_length, ic_length] at hj; rw [ic_length]; omega
        rw [show off + (n + q) = off + n + q from by omega, World.cell?_setCells_in b _ _ _ (fun j hj => (hro j (by rw [ic_length] at hj; omega)).1) q hq, List.getElem?_append_right (by rw [ic_length]; omega)]
        rw [ic_length, ← hxl, Nat.add_sub_cancel_left, List.getElem?_eq_getElem hq]
    · have hz := Lib.below_setCells (B := 0) (a := w) b (Nat.zero_le _) (ic ys) (off + n) (Below.refl 0 w)
      exact ⟨hz.os, hz.tape, hz.output, hz.size, fun k hk hne => World.heap_setCells_other w b _ _ hk (fun e => hne (by rw [e]))⟩
  · obtain ⟨v', w', hrun, hown, hg⟩ := run_append_arg_grows (P := Try.prog) w 22 ty 3 i0 (.int .i64 0) 1 8 Try.underlying22 hi hz0 hz1 hz2 rfl (by omega) ⟨b, off, none⟩ n c (ic xs) (by rw [ic_length]; omega)
      (fun j u hu => by rw [Go.WideShapes.add_plain]; exact holds j u hu) ⟨b2, off2, none⟩ m d (ic ys) (by rw [ic_length]; omega) hnews (by omega) (by unfold maxLen; omega) (by omega)
    obtain ⟨A', c', rfl, h1, h2⟩ := own_slice hown
    refine ⟨A', c', w', hrun, ?_, h1, h2, (Below.refl _ _).grown hg hbase (fun k hk => by cases hk), ⟨hg.os, hg.tape, hg.output, hg.size, fun k hk _ => hg.block k hk (fun e => by cases e)⟩⟩
    rw [ic_append]
    exact Rds.of_own hown

/-- The same as one step of a region that draws its order. -/
theorem step_append_mid (w : World) {ops : Array Oper} {o : Oper} {a : Act} {K : Act → World → Prop} {Q : Exit → Act → World → Prop} {E : Prop} (hgd : o.guard = none) (s x : Operand)
    (ho : o.op = .call { callee := .builtin .append, args := #[s, x], argTypes := #[22, 22] })
    (base b off n c : Nat) (xs : List Int) (hs : a.eval s = .slice (some ⟨b, off, none⟩) n c) (hxr : Rds w 1 (some ⟨b, off, none⟩) n (ic xs)) (B : Option Addr) (m d : Nat) (ys : List Int) (hx : a.eval x = .slice B m d) (hy : Rds w 1 B m (ic ys)) (hm : 0 < m)
    (hb : base ≤ b) (hbase : base ≤ w.heap.size) (hl : n + m ≤ 17592186044416) (hc : c ≤ maxLen)
    (hroom : n + m ≤ c → ∀ j, j < m → (w.cell? ⟨b, off + n + j, none⟩).isSome = true ∧ w.frozen? ⟨b, off + n + j, none⟩ = false)
    (h : ∀ A' c' w', Rds w' 1 A' (n + m) (ic (xs ++ ys)) → n + m ≤ c' → c' ≤ maxLen → Below base w w' → w.grownBy w' (some b) → K (a.put o.dst (.slice A' (n + m) c')) w') : if Region.wanted o (yielded ops a.tmps) = true then Oper.wp Try.prog o a w K Q else E := by
  have hw : Region.wanted o (yielded ops a.tmps) = true := by simp [Region.wanted, hgd]
  rw [if_pos hw]
  obtain ⟨A', c', w', hrun, h2, h3, h4, h5, h6⟩ := run_append_mid w base o.type b off n c xs hxr B m d ys hy hm hb hbase hl hc hroom
  unfold Oper.wp
  simp [execOp, ho, resolve, invoke, builtin, hs, hx, hrun, Result.andThen]
  exact h A' c' w' h2 h3 h4 h5 h6
end Go.Proofs.Ytalehbhimnhnjaa
