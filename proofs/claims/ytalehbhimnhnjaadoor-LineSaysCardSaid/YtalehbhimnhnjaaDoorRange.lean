/- A range over core.Chunks: the iterator writes the box of its list between two rounds; so the given laws, by which an iterator writes no cells, do not serve. A law of its own: rounds are counted, the body may go on or return. -/
import Derived.RangeFuncNested
import Derived.RangeFuncBound
import Derived.RangeFuncCalls
import Derived.RangeFuncLeaves
import Derived.Shelf.Abstract
import Derived.Shelf.RegionOpen
import Derived.OwnWalkIn
import Derived.TacticsInMore
import Derived.LoopNIn
import Derived.LoopIn
import Derived.Test.YtalehbhimnhnjaaDoorOwn
namespace Go.Proofs.YtalehbhimnhnjaaDoor
open Go.RowKit Go.Shelf

section
variable {F : Fence} {n : Nat} {P : Program}

/-- What a round that goes on keeps: all below n₀, and the iterator's two boxes c, c + 1. -/
structure Kept (n₀ c : Nat) (A B : World) : Prop where
  below : Below n₀ A B
  box : B.heap[c]? = A.heap[c]?
  box' : B.heap[c + 1]? = A.heap[c + 1]?

theorem Kept.trans {n₀ c : Nat} {A B C : World} (h : Kept n₀ c A B) (k : Kept n₀ c B C) : Kept n₀ c A C :=
  ⟨h.below.trans k.below, k.box.trans h.box, k.box'.trans h.box'⟩
theorem Kept.turn {n₀ c l : Nat} {W : World} {o : Obj} (hn : n₀ ≤ W.heap.size) (h1 : n₀ ≤ l) (h2 : c + 1 < l) (o' : Obj) (_ : W.heap[l]? = some o) : Kept n₀ c W (W.putObj l o') :=
  ⟨(Below.refl n₀ W).grown (grownBy_putObj' W l o') hn (fun k e => by cases e; exact h1), World.putObj_heap_other (by omega), World.putObj_heap_other (by omega)⟩

/-- The counted contract of an iterator: N rounds, the k-th one of enc k; it may write the block c between two. -/
def Counted (F : Fence) (n : Nat) (P : Program) (gf : Nat) (lb : Array Value) (enc : Nat → Value) (n₀ c N : Nat) (w : World) : Prop :=
  ∀ (l : Nat) (J Jx : Nat → World → Prop) (W : World), Below w.heap.size w W → (∀ k A v, J k A → J k (A.setCell ⟨c, 0, none⟩ v)) →
    (∀ k W1, J k W1 → k < N → YieldAt F (n - 1) P l #[enc k] W1 fun e W' =>
      (e = .returned (.bool true) ∧ J (k + 1) W' ∧ Kept n₀ c W1 W') ∨ (e = .returned (.bool false) ∧ Jx k W')) →
    J 0 W →
    CallsIn F n P gf (#[.func (.yield l) #[] #[]] ++ lb) W fun e W' => (∃ v, e = .returned v) ∧ (J N W' ∨ ∃ k, k < N ∧ Jx k W')

/-- How a round's body is left: it goes on, or it returns. -/
def roundOut (n₀ c : Nat) (I Ix : Nat → World → Prop) (k : Nat) (W : World) : Exit → Act → World → Prop
  | .normal, _, W' => KeepsOthers W W' ∧ Kept n₀ c W W' ∧ I (k + 1) W'
  | .ret, _, W' => KeepsOthers W W' ∧ Ix k W'
  | _, _, _ => False

theorem range_counted {g : Operand} {ps : Array Tmp} {assign body : Code} {Q : Exit → Act → World → Prop} {a : Act} {w : World}
    (hro : F.round = none) (h1 : 1 ≤ n) {gf : Nat} {lb : Array Value} (hg : a.eval g = .func (.func gf) #[] lb) (hFg : F.fn gf)
    (eg : ∀ args w, (callFunc gf args).run P w = .ok (.enter gf args) w)
    {enc : Nat → Value} {n₀ c N : Nat} (hn₀ : n₀ ≤ w.heap.size) (hcw : c + 1 < w.heap.size) (hseq : Counted F (n - 1) P gf lb enc n₀ c N w) (hps : ps.size = 1)
    (I Ix : Nat → World → Prop) (hI : OwnFrom w.heap.size I) (hIx : OwnFrom w.heap.size Ix) (hIc : ∀ k A v, I k A → I k (A.setCell ⟨c, 0, none⟩ v)) (h0 : I 0 w) (a₁ : Nat → Act)
    (hassign : ∀ (l k : Nat) (W : World) (K : Act → World → Prop), K (a₁ k) W →
      assign.wpIn (F.inRound l) (n - 1 - 1) P (Exit.then K (fun _ _ _ => False)) { tmps := (ps.zip #[enc k]).foldl (fun t (p, v) => t.setIfInBounds p v) a.tmps, defers := [] } W)
    (hbody : ∀ (l k : Nat) (W : World), I k W → k < N → body.wpIn (F.inRound l) (n - 1 - 1) P (roundOut n₀ c I Ix k W) (a₁ k) W)
    (hdone : ∀ (D : Nat) (W : World), w.heap.size ≤ D → I N W → W.heap[D]? = some (.deferred (some [])) → Q .normal { a with defers := { target := .collected D, args := #[] } :: a.defers } W)
    (hstop : ∀ (D k : Nat) (W : World), w.heap.size ≤ D → k < N → Ix k W → W.heap[D]? = some (.deferred (some [])) → Code.ret.wpIn F n P Q { a with defers := { target := .collected D, args := #[] } :: a.defers } W) :
    (Code.rangeFunc g ps assign body).wpIn F n P Q a w := by
  refine wpIn_rangeFunc fun fn hfn => ?_
  rw [hro]
  let D := w.heap.size
  let L := w.heap.size + 1
  let rec_ : LoopState → Option Code → Loop := fun st pe => { state := st, pending := pe, fn, tmps := a.tmps, params := ps, assign, body, defers := D }
  -- what the books say: the loop's record and the block for deferred calls
  let Bk : Loop → World → Prop := fun r W => W.heap[L]? = some (.loop r) ∧ W.heap[D]? = some (.deferred (some []))
  have lenL : ∀ {r : Loop} {W : World}, Bk r W → L < W.heap.size := @fun _ _ h => (Array.getElem?_eq_some_iff.1 h.1).1
  have turn : ∀ {r : Loop} (r' : Loop) {W : World}, Bk r W → Bk r' (W.putObj L (.loop r')) := @fun _ r' W h =>
    ⟨World.putObj_heap_same (lenL h), (World.putObj_heap_other (by show D ≠ D + 1; omega)).trans h.2⟩
  have kept : ∀ {r : Loop} {A B : World}, KeepsOthers A B → Bk r A → Bk r B := @fun _ _ _ hk h => ⟨hk.same _ _ h.1 rfl, hk.same _ _ h.2 rfl⟩
  have hIp : ∀ {X : Nat → World → Prop}, OwnFrom w.heap.size X → ∀ {k : Nat} {r : Loop} (r' : Loop) {W : World}, Bk r W → X k W → X k (W.putObj L (.loop r')) :=
    @fun _ hX _ _ r' _ h hx => hX.putObj _ hx (Nat.le_succ _) h.1 rfl
  have hKp : ∀ {r : Loop} (r' : Loop) {W : World}, Bk r W → Kept n₀ c W (W.putObj L (.loop r')) := @fun _ r' W h => by
    have := lenL h
    exact Kept.turn (by omega) (by omega) (by omega) _ h.1
  let W0 := (w.alloc (.deferred (some []))).alloc (.loop (rec_ .ready none))
  have hb0 : Bk (rec_ .ready none) W0 := by
    constructor
    · have := World.alloc_heap_new (w.alloc (.deferred (some []))) (.loop (rec_ .ready none)); rwa [World.size_alloc] at this
    · exact (Below.heap_alloc _ _ _ (by simp [D])).trans (World.alloc_heap_new w _)
  refine ⟨L, [{ target := .collected D, args := #[] }], W0, { target := .fn (.func gf) lb, args := #[.func (.yield L) #[] #[]] }, W0, gf,
    #[.func (.yield L) #[] #[]] ++ lb, W0, run_enterLoop_outer _ _ _ _ _, ?_, ?_, ?_, fun _ => h1, ?_⟩
  · simp only [resolve, hg]
    simp [go_sem]
  · intro f' hf'; simp [Target.leads] at hf'; subst hf'; exact hFg
  · simp [invoke, go_sem, eg]
  refine (hseq L (fun k W => I k W ∧ Bk (rec_ .ready none) W) (fun k W => Ix k W ∧ Bk (rec_ .done (some .ret)) W) W0
    (((Below.refl _ w).alloc (Nat.le_refl _) _).alloc (by simp) _)
    (fun k A v h => ⟨hIc k A v h.1, (Below.heap_setCell A _ v L (by show D + 1 ≠ c; omega)).trans h.2.1, (Below.heap_setCell A _ v D (by show D ≠ c; omega)).trans h.2.2⟩)
    ?_ ⟨hI.alloc _ (hI.alloc _ h0), hb0⟩).mono ?_
  · rintro k W ⟨hi, hb⟩ hk
    refine ⟨fn, _, assign, body, run_yield hb.1 (by simp [rec_, hps]), roundIn_of_wpIn hfn (hassign _ k W _ ⟨_, run_beginRound hb.1 rfl, ?_⟩)⟩
    have hb2 := turn { rec_ .ready none with state := .busy } hb
    refine wpIn_mono (hbody _ k _ (hIp hI _ hb hi) hk) ?_
    intro e a3 W3 hp
    cases e with
    | normal =>
      obtain ⟨hk3, hkp3, hi3⟩ := hp
      have hb3 := kept hk3 hb2
      exact ⟨_, _, run_endRound (P := P) none hb3.1, .inl ⟨rfl, ⟨hIp hI _ hb3 hi3, turn _ hb3⟩, ((hKp _ hb).trans hkp3).trans (hKp _ hb3)⟩⟩
    | ret =>
      obtain ⟨hk3, hi3⟩ := hp
      have hb3 := kept hk3 hb2
      exact ⟨_, _, run_endRound (P := P) (some .ret) hb3.1, .inr ⟨rfl, hIp hIx _ hb3 hi3, turn _ hb3⟩⟩
    | exit id => exact hp.elim
    | goto t => exact hp.elim
    | panic ch => exact hp.elim
    | outgrown => exact hp.elim
  · rintro e W2 ⟨⟨v, rfl⟩, (⟨hi, hb⟩ | ⟨k, hk, hi, hb⟩)⟩
    · exact ⟨none, _, run_endLoop (P := P) hb.1 (by simp [rec_]), hdone D _ (Nat.le_refl _) (hIp hI _ hb hi) (turn _ hb).2⟩
    · exact ⟨some .ret, _, run_endLoop (P := P) hb.1 (by simp [rec_]), hstop D k _ (Nat.le_refl _) hk (hIp hIx _ hb hi) (turn _ hb).2⟩
end
end Go.Proofs.YtalehbhimnhnjaaDoor
