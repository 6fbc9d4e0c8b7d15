/- slices.AppendSeq and slices.Collect at prefixes, at the iterator of slices.Values. -/
import Derived.Test.YtfgpppgehbpblaaDoorPfx
import Derived.Maps.AppendAt
import Derived.WalkKit
namespace Go.Proofs.YtfgpppgehbpblaaDoor
open Go.RowKit Go.Shelf Go.Maps
attribute [local go_sem] Oper.semAt_some

theorem info_pfx : (Tryd.prog.info? 23).map (fun i => (i.zero, i.size, i.bytes)) = some (some (.agg #[.int .i64 0, .int .i64 0]), 2, 16) := by kernel_rfl

theorem cell_two_new (w : World) (x y : Value) (t : TypeId) : ∀ j u, [x, y][j]? = some u → (w.alloc (.cells #[x, y] t)).cell? ((⟨w.heap.size, 0, none⟩ : Addr).add j) = some u := by
  intro j u hj
  match j, hj with
  | 0, hj => simp at hj; subst hj; simp [Addr.add]
  | 1, hj => simp at hj; subst hj; simp [Addr.add]

/-- A block of two cells. -/
def Pair (W : World) (B : Nat) (x : Int × Int) : Prop := W.heap[B]? = some (.cells #[.int .i64 x.1, .int .i64 x.2] 23 (0, 0))
theorem Pair.cells {W : World} {B : Nat} {x : Int × Int} (h : Pair W B x) : W.cell? ⟨B, 0, none⟩ = some (.int .i64 x.1) ∧ W.cell? ⟨B, 1, none⟩ = some (.int .i64 x.2) := by
  constructor <;> simp [World.cell?, show W.heap[B]? = _ from h]
theorem pair_own (B : Nat) (x : Int × Int) : Own (fun (_ : Unit) W => Pair W B x) := fun s X Y row hs hg hrow =>
  (hg.block B (Array.getElem?_eq_some_iff.1 hs).1 (fun e' => by obtain ⟨o, ho, hc⟩ := hrow B e'.symm; rw [show X.heap[B]? = _ from hs] at ho; cases ho; cases hc)).trans hs

set_option maxRecDepth 100000 in
set_option maxHeartbeats 4000000 in
theorem pappend_in (F : Fence) (q : Nat) (hF : F.fn 57) (hF1 : F.fn 49) (hro : F.round = none) (hq : 3 ≤ q) (A : Option Addr) (n c Bs n₀ : Nat) (xs : List (Int × Int)) (hn : n ≤ 1000000) (w : World) (hBs : Bs < w.heap.size) (hn₀ : n₀ ≤ w.heap.size)
    (hc : w.cell? ⟨Bs, 0, none⟩ = some (.slice A n c)) (hr : Rds w 2 A n (pc xs)) (hlow : ∀ a, A = some a → 0 < n → a.block < n₀) :
    CallsIn F q Tryd.prog 57 #[.slice none 0 0, .func (.func 49) #[] #[.pointer (some ⟨Bs, 0, none⟩)]] w fun e W' => ∃ v, e = .returned v ∧ W'.ownsRow n₀ 23 2 v xs.length (pc xs) ∧ (v = .slice none 0 0 ↔ xs = []) ∧ Below n₀ w W' := by
  have h1 : 1 ≤ q := by omega
  obtain ⟨i0, hi, hz0, hz1, hz2⟩ := info_parts info_pfx
  obtain rfl : n = xs.length := hr.plen
  refine callsIn_of_wp_marks Tryd.func57 rfl hF ?_ hro
  simp only [Tryd.ntmps57, List.size_toArray, List.length_cons, List.length_nil, Nat.reduceAdd, Nat.reduceSub, Array.replicate_succ, Array.replicate_zero, List.push_toArray, List.append_toArray, List.nil_append, List.cons_append]
  gi_wp2
  have bO := Boxed.new w 24 (.slice none 0 0)
  have hB0 : Below n₀ w (w.alloc (.cells #[.slice none 0 0] 24)) := (Below.refl _ w).alloc hn₀ _
  have hr0 := hr.below ((Below.refl w.heap.size w).alloc (Nat.le_refl _) (.cells #[.slice none 0 0] 24))
  have hc0 := (Below.cell ((Below.refl w.heap.size w).alloc (Nat.le_refl _) (.cells #[.slice none 0 0] 24)) (p := ⟨Bs, 0, none⟩) hBs).trans hc
  obtain ⟨W0, hW0⟩ : ∃ W0, w.alloc (.cells #[.slice none 0 0] 24) = W0 := ⟨_, rfl⟩
  have hs0 : W0.heap.size = w.heap.size + 1 := by rw [← hW0]; simp
  rw [hW0] at bO hB0 hc0 hr0 ⊢
  refine wpIn_rangeFunc_ownH hro h1 (gf := 49) (lb := #[.pointer (some ⟨Bs, 0, none⟩)]) rfl hF1 (enters_of Tryd.func49 (by kernel_rfl) rfl)
    (pvalues_stops F (q - 1) hF1 hro (by omega) A xs.length c Bs n₀ xs hn W0 (by omega) (by omega) hc0 hr0 hlow) belowK_t (belowK_b (by omega)) (Below.refl _ _) (fun _ => rfl)
    (fun pre W => (∃ v, Boxed W w.heap.size 24 v ∧ W.ownsRow n₀ 23 2 v pre.length (pc pre) ∧ (v = .slice none 0 0 ↔ pre = [])) ∧ Below n₀ w W)
    (fun _ _ _ => False)
    (OwnFrom.and (Own.from (holdsRow_own n₀ w.heap.size 24 23 2 (fun pre => pre.length) pc (fun pre v => v = .slice none 0 0 ↔ pre = [])) _) (ownFrom_below hn₀ (by omega)))
    (fun _ _ _ _ _ hs _ _ => hs)
    ⟨⟨_, bO, World.ownsRow_nil _ _ _ _, by simp⟩, hB0⟩
    (fun x a' W => ∃ Bx, Pair W Bx x ∧ a' = { tmps := #[.slice none 0 0, .func (.func 49) #[] #[.pointer (some ⟨Bs, 0, none⟩)], .pointer (some ⟨w.heap.size, 0, none⟩), undef, .slice none 0 0, .pointer (some ⟨Bx, 0, none⟩), .func (.func 49) #[] #[.pointer (some ⟨Bs, 0, none⟩)], .agg #[.int .i64 x.1, .int .i64 x.2], undef, undef, undef, undef, undef], defers := [] })
    (fun x a' _ X Y row hs hg hr => by obtain ⟨Bx, e1, e2⟩ := hs; exact ⟨Bx, pair_own Bx x () X Y row e1 hg (fun r e => (hr r e).2), e2⟩)
    ?assign ?body ?done ?stop
  case assign =>
    rintro l pre x W K ⟨⟨v, hv, hrow, hnil⟩, hB⟩ hK
    gi_wp2
    exact hK _ _ ((KeepsOthers.alloc _ _).from _) ((Below.refl _ W).alloc (Nat.le_trans hn₀ hB.size) _) ⟨⟨v, hv.alloc _, hrow.alloc _, hnil⟩, hB.alloc (Nat.le_trans hn₀ hB.size) _⟩ ⟨W.heap.size, World.alloc_heap_new W _, rfl⟩
  case body =>
    rintro l pre x a' W hl ⟨r, hr⟩ ⟨⟨v, hv, hrow, hnil⟩, hB⟩ ⟨Bx, hP, rfl⟩ hlt
    have hc := hv.cell
    obtain ⟨hp1, hp2⟩ := hP.cells
    gi_wp2_with (gi_at_builtin; refine wpListIn_append_own _ rfl _ _ 24 rfl n₀ 23 i0 (.agg #[.int .i64 0, .int .i64 0]) 2 16 Tryd.underlying24 hi hz0 hz1 hz2 rfl (by decide) _ _ _ rfl (hrow.alloc _) ⟨W.heap.size, 0, none⟩ 1 1 [.int .i64 x.1, .int .i64 x.2] rfl rfl (cell_two_new _ _ _ _) (by simp [Value.oneCell']) (by simp [maxLen]; omega) (by omega) (by have := hB.size; simp; omega) ?_; intro v' w1 hown' hgrow _; obtain ⟨g', cap', rfl⟩ := ownsRow_succ hown'; obtain ⟨hv1, hv2, hr2, hk2, hb2⟩ := hv.appended (by decide) hrow (Nat.le_trans hn₀ hB.size) hn₀ hown' hgrow; have hc1 := hv1.cell; have hf1 := hv1.frozen)
    exact ⟨hk2.from _, hb2, ⟨_, hv2, by simpa [pc] using hr2, by simp⟩, hB.trans hb2⟩
  case done =>
    rintro D ys W hD rfl ⟨⟨v, hv, hrow, hnil⟩, hB⟩ hK
    have hc := hv.cell
    gi_wp2
    refine ⟨by simp, .inl ⟨_, _, rfl, run_takeDeferred hK, ?_⟩⟩
    exact ⟨_, results_tmp rfl _ _ _, v, rfl, ownsRow_putObj hrow _ hK rfl, hnil, hB.trans (belowK_b (w := w) hn₀ W D _ _ (by omega) hK rfl rfl)⟩
  case stop =>
    rintro D c pre W _ _ h _
    exact h.elim

set_option maxRecDepth 100000 in
set_option maxHeartbeats 1000000 in
theorem pcollect_in (F : Fence) (q : Nat) (hF : F.fn 47) (hFa : F.fn 57) (hF1 : F.fn 49) (hro : F.round = none) (hq : 4 ≤ q) (A : Option Addr) (n c Bs n₀ : Nat) (xs : List (Int × Int)) (hn : n ≤ 1000000) (w : World) (hBs : Bs < w.heap.size) (hn₀ : n₀ ≤ w.heap.size)
    (hc : w.cell? ⟨Bs, 0, none⟩ = some (.slice A n c)) (hr : Rds w 2 A n (pc xs)) (hlow : ∀ a, A = some a → 0 < n → a.block < n₀) :
    CallsIn F q Tryd.prog 47 #[.func (.func 49) #[] #[.pointer (some ⟨Bs, 0, none⟩)]] w fun e W' => ∃ v, e = .returned v ∧ W'.ownsRow n₀ 23 2 v xs.length (pc xs) ∧ (v = .slice none 0 0 ↔ xs = []) ∧ Below n₀ w W' := by
  have h1 : 1 ≤ q := by omega
  refine callsIn_of_wp Tryd.func47 rfl hF ?_ hro
  simp only [Tryd.ntmps47, List.size_toArray, List.length_cons, List.length_nil, Nat.reduceAdd, Nat.reduceSub, Array.replicate_succ, Array.replicate_zero, List.push_toArray, List.append_toArray, List.nil_append, List.cons_append]
  gi_wp2_with (gi_at_call 57; refine (pappend_in F (q - 1) hFa hF1 hro (by omega) A n c Bs n₀ xs hn _ hBs hn₀ hc hr hlow).mono ?_; rintro e w' ⟨v, rfl, g1, g2, g3⟩)
  go_ret
  exact ⟨v, rfl, g1, g2, g3⟩
end Go.Proofs.YtfgpppgehbpblaaDoor
