/- slices.AppendSeq and slices.Collect at parts, at the iterator of slices.Values. -/
import Derived.Test.YtbmajajndckfoaaDoorQVal
import Derived.Maps.AppendAt
import Derived.WalkKit
namespace Go.Proofs.YtbmajajndckfoaaDoor
open Go.RowKit Go.Shelf Go.Maps
attribute [local go_sem] Oper.semAt_some


theorem cell_three_new (w : World) (x y z : Value) (t : TypeId) : ∀ j u, [x, y, z][j]? = some u → (w.alloc (.cells #[x, y, z] t)).cell? ((⟨w.heap.size, 0, none⟩ : Addr).add j) = some u := by
  intro j u hj
  match j, hj with
  | 0, hj => simp at hj; subst hj; simp [Addr.add]
  | 1, hj => simp at hj; subst hj; simp [Addr.add]
  | 2, hj => simp at hj; subst hj; simp [Addr.add]

/-- A block of a part's cells. -/
def Trip (W : World) (B : Nat) (x : Pt) : Prop := W.heap[B]? = some (.cells #[.int .i64 x.1, .bool x.2.1, .string x.2.2] 50 (0, 0))
theorem Trip.cells {W : World} {B : Nat} {x : Pt} (h : Trip W B x) : W.cell? ⟨B, 0, none⟩ = some (.int .i64 x.1) ∧ W.cell? ⟨B, 1, none⟩ = some (.bool x.2.1) ∧ W.cell? ⟨B, 2, none⟩ = some (.string x.2.2) := by
  refine ⟨?_, ?_, ?_⟩ <;> simp [World.cell?, show W.heap[B]? = _ from h]
theorem trip_own (B : Nat) (x : Pt) : Go.Own (fun (_ : Unit) W => Trip W B x) := fun s X Y row hs hg hrow =>
  (hg.block B (Array.getElem?_eq_some_iff.1 hs).1 (fun e' => by obtain ⟨o, ho, hc⟩ := hrow B e'.symm; rw [show X.heap[B]? = _ from hs] at ho; cases ho; cases hc)).trans hs

set_option maxRecDepth 100000 in
set_option maxHeartbeats 4000000 in
theorem qappend_in (F : Fence) (q : Nat) (hF : F.fn 58) (hF1 : F.fn 52) (hro : F.round = none) (hq : 3 ≤ q) (A : Option Addr) (n c Bs n₀ : Nat) (xs : List Pt) (hn : n ≤ 1000000) (w : World) (hBs : Bs < w.heap.size) (hn₀ : n₀ ≤ w.heap.size)
    (hc : w.cell? ⟨Bs, 0, none⟩ = some (.slice A n c)) (hr : Rds w 3 A n (qc xs)) (hlow : ∀ a, A = some a → 0 < n → a.block < n₀) :
    CallsIn F q Tryd.prog 58 #[.slice none 0 0, .func (.func 52) #[] #[.pointer (some ⟨Bs, 0, none⟩)]] w fun e W' => ∃ v, e = .returned v ∧ W'.ownsRow n₀ 50 3 v xs.length (qc xs) ∧ (v = .slice none 0 0 ↔ xs = []) ∧ Below n₀ w W' := by
  have h1 : 1 ≤ q := by omega
  obtain ⟨i0, hi, hz0, hz1, hz2⟩ := info_parts info_part
  obtain rfl : n = xs.length := hr.qlen
  refine callsIn_of_wp_marks Tryd.func58 rfl hF ?_ hro
  simp only [Tryd.ntmps58, List.size_toArray, List.length_cons, List.length_nil, Nat.reduceAdd, Nat.reduceSub, Array.replicate_succ, Array.replicate_zero, List.push_toArray, List.append_toArray, List.nil_append, List.cons_append]
  gi_wp2
  have bO := Boxed.new w 23 (.slice none 0 0)
  have hB0 : Below n₀ w (w.alloc (.cells #[.slice none 0 0] 23)) := (Below.refl _ w).alloc hn₀ _
  have hr0 := hr.below ((Below.refl w.heap.size w).alloc (Nat.le_refl _) (.cells #[.slice none 0 0] 23))
  have hc0 := (Below.cell ((Below.refl w.heap.size w).alloc (Nat.le_refl _) (.cells #[.slice none 0 0] 23)) (p := ⟨Bs, 0, none⟩) hBs).trans hc
  obtain ⟨W0, hW0⟩ : ∃ W0, w.alloc (.cells #[.slice none 0 0] 23) = W0 := ⟨_, rfl⟩
  have hs0 : W0.heap.size = w.heap.size + 1 := by rw [← hW0]; simp
  rw [hW0] at bO hB0 hc0 hr0 ⊢
  refine wpIn_rangeFunc_ownH hro h1 (gf := 52) (lb := #[.pointer (some ⟨Bs, 0, none⟩)]) rfl hF1 (enters_of Tryd.func52 (by kernel_rfl) rfl)
    (qvalues_stops F (q - 1) hF1 hro (by omega) A xs.length c Bs n₀ xs hn W0 (by omega) (by omega) hc0 hr0 hlow) belowK_t (belowK_b (by omega)) (Below.refl _ _) (fun _ => rfl)
    (fun pre W => (∃ v, Boxed W w.heap.size 23 v ∧ W.ownsRow n₀ 50 3 v pre.length (qc pre) ∧ (v = .slice none 0 0 ↔ pre = [])) ∧ Below n₀ w W)
    (fun _ _ _ => False)
    (OwnFrom.and (Own.from (holdsRow_own n₀ w.heap.size 23 50 3 (fun pre => pre.length) qc (fun pre v => v = .slice none 0 0 ↔ pre = [])) _) (ownFrom_below hn₀ (by omega)))
    (fun _ _ _ _ _ hs _ _ => hs)
    ⟨⟨_, bO, World.ownsRow_nil _ _ _ _, by simp⟩, hB0⟩
    (fun x a' W => ∃ Bx, Trip W Bx x ∧ a' = { tmps := #[.slice none 0 0, .func (.func 52) #[] #[.pointer (some ⟨Bs, 0, none⟩)], .pointer (some ⟨w.heap.size, 0, none⟩), undef, .slice none 0 0, .pointer (some ⟨Bx, 0, none⟩), .func (.func 52) #[] #[.pointer (some ⟨Bs, 0, none⟩)], .agg #[.int .i64 x.1, .bool x.2.1, .string x.2.2], undef, undef, undef, undef, undef], defers := [] })
    (fun x a' _ X Y row hs hg hr => by obtain ⟨Bx, e1, e2⟩ := hs; exact ⟨Bx, trip_own Bx x () X Y row e1 hg (fun r e => (hr r e).2), e2⟩)
    ?assign ?body ?done ?stop
  case assign =>
    rintro l pre x W K ⟨⟨v, hv, hrow, hnil⟩, hB⟩ hK
    gi_wp2
    exact hK _ _ ((KeepsOthers.alloc _ _).from _) ((Below.refl _ W).alloc (Nat.le_trans hn₀ hB.size) _) ⟨⟨v, hv.alloc _, hrow.alloc _, hnil⟩, hB.alloc (Nat.le_trans hn₀ hB.size) _⟩ ⟨W.heap.size, World.alloc_heap_new W _, rfl⟩
  case body =>
    rintro l pre x a' W hl ⟨r, hr⟩ ⟨⟨v, hv, hrow, hnil⟩, hB⟩ ⟨Bx, hP, rfl⟩ hlt
    have hc := hv.cell
    obtain ⟨hp1, hp2, hp3⟩ := hP.cells
    gi_wp2_with (gi_at_builtin; refine wpListIn_append_own _ rfl _ _ 23 rfl n₀ 50 i0 (.agg #[.int .i64 0, .bool false, .string ⟨#[]⟩]) 3 32 Tryd.underlying23 hi hz0 hz1 hz2 rfl (by decide) _ _ _ rfl (hrow.alloc _) ⟨W.heap.size, 0, none⟩ 1 1 [.int .i64 x.1, .bool x.2.1, .string x.2.2] rfl rfl (cell_three_new _ _ _ _ _) (by simp [Value.oneCell']) (by simp [maxLen]; omega) (by omega) (by have := hB.size; simp; omega) ?_; intro v' w1 hown' hgrow _; obtain ⟨g', cap', rfl⟩ := ownsRow_succ hown'; obtain ⟨hv1, hv2, hr2, hk2, hb2⟩ := hv.appended (by decide) hrow (Nat.le_trans hn₀ hB.size) hn₀ hown' hgrow; have hc1 := hv1.cell; have hf1 := hv1.frozen)
    exact ⟨hk2.from _, hb2, ⟨_, hv2, by simpa [qc] using hr2, by simp⟩, hB.trans hb2⟩
  case done =>
    rintro D ys W hD rfl ⟨⟨v, hv, hrow, hnil⟩, hB⟩ hK
    have hc := hv.cell
    gi_wp2
    refine ⟨by simp, .inl ⟨_, _, rfl, run_takeDeferred hK, ?_⟩⟩
    exact ⟨_, results_tmp rfl _ _ _, v, rfl, ownsRow_putObj hrow _ hK rfl, hnil, hB.trans (belowK_b (w := w) hn₀ W D _ _ (by omega) hK rfl rfl)⟩
  case stop =>
    rintro D c pre W _ _ h _
    exact h.elim

set_option maxRecDepth 100000 in
set_option maxHeartbeats 1000000 in
theorem qcollect_in (F : Fence) (q : Nat) (hF : F.fn 50) (hFa : F.fn 58) (hF1 : F.fn 52) (hro : F.round = none) (hq : 4 ≤ q) (A : Option Addr) (n c Bs n₀ : Nat) (xs : List Pt) (hn : n ≤ 1000000) (w : World) (hBs : Bs < w.heap.size) (hn₀ : n₀ ≤ w.heap.size)
    (hc : w.cell? ⟨Bs, 0, none⟩ = some (.slice A n c)) (hr : Rds w 3 A n (qc xs)) (hlow : ∀ a, A = some a → 0 < n → a.block < n₀) :
    CallsIn F q Tryd.prog 50 #[.func (.func 52) #[] #[.pointer (some ⟨Bs, 0, none⟩)]] w fun e W' => ∃ v, e = .returned v ∧ W'.ownsRow n₀ 50 3 v xs.length (qc xs) ∧ (v = .slice none 0 0 ↔ xs = []) ∧ Below n₀ w W' := by
  have h1 : 1 ≤ q := by omega
  refine callsIn_of_wp Tryd.func50 rfl hF ?_ hro
  simp only [Tryd.ntmps50, List.size_toArray, List.length_cons, List.length_nil, Nat.reduceAdd, Nat.reduceSub, Array.replicate_succ, Array.replicate_zero, List.push_toArray, List.append_toArray, List.nil_append, List.cons_append]
  gi_wp2_with (gi_at_call 58; refine (qappend_in F (q - 1) hFa hF1 hro (by omega) A n c Bs n₀ xs hn _ hBs hn₀ hc hr hlow).mono ?_; rintro e w' ⟨v, rfl, g1, g2, g3⟩)
  go_ret
  exact ⟨v, rfl, g1, g2, g3⟩
end Go.Proofs.YtbmajajndckfoaaDoor
