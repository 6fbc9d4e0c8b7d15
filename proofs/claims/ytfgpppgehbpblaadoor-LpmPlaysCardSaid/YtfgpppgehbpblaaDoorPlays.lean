/- The program's table and the document's beside each other in memory. -/
import Derived.Test.YtfgpppgehbpblaaDoorRefFind
namespace Go.Proofs.YtfgpppgehbpblaaDoor
open Go.RowKit Lp
/-- The program's table at tb, and at xb the document's, whose list is xs. -/
structure Play (lo tb xb : Nat) (w : World) (h : Hops) (many : Int) (xs : List Rt) (A : Option Addr) (c r : Nat) (F : Nat → Nat → Option Nat) (S : Nat → Prop) : Prop where
  tab : TabIn lo w tb r F h many S
  cell : w.cell? ⟨xb, 0, none⟩ = some (.slice A xs.length c)
  fz : w.frozen? ⟨xb, 0, none⟩ = false
  own : OwnT w lo (.slice A xs.length c) xs
  apart : ∀ b off, A = some ⟨b, off, none⟩ → ¬ S b ∧ b ≠ xb
  box : ¬ S xb
  low : lo ≤ xb
section
variable {lo tb xb : Nat} {w w' : World} {h h' : Hops} {many m' : Int} {xs ys : List Rt} {A A' : Option Addr} {c c' r : Nat} {F F' : Nat → Nat → Option Nat} {S S' : Nat → Prop}
theorem Play.lt (p : Play lo tb xb w h many xs A c r F S) : xb < w.heap.size := cell_lt p.cell
theorem Play.size (p : Play lo tb xb w h many xs A c r F S) : lo ≤ w.heap.size := Nat.le_trans p.low (Nat.le_of_lt p.lt)
theorem Play.hi (p : Play lo tb xb w h many xs A c r F S) : ∀ i, S i → i < w.heap.size := fun i hi => (p.tab.lows i hi).2
theorem Play.below (p : Play lo tb xb w h many xs A c r F S) (hb : Below w.heap.size w w') : Play lo tb xb w' h many xs A c r F S :=
  ⟨p.tab.below hb, (hb.cell (p := ⟨xb, 0, none⟩) p.lt).trans p.cell, (hb.frozen (p := ⟨xb, 0, none⟩) p.lt).trans p.fz, p.own.keep hb, p.apart, p.box, p.low⟩
/-- A new list is laid into the document's table. -/
theorem Play.put (p : Play lo tb xb w h many xs A c r F S) (ho : OwnT w' lo (.slice A' ys.length c') ys) (hA : ∀ b off, A' = some ⟨b, off, none⟩ → A' = A ∨ w.heap.size ≤ b) (hb : Below w.heap.size w w') :
    Play lo tb xb (w'.setCell ⟨xb, 0, none⟩ (.slice A' ys.length c')) h many ys A' c' r F S ∧ Below lo w (w'.setCell ⟨xb, 0, none⟩ (.slice A' ys.length c')) := by
  have q := p.below hb
  have hap : ∀ b off, A' = some ⟨b, off, none⟩ → ¬ S b ∧ b ≠ xb := fun b off e => by
    rcases hA b off e with h1 | h1
    · exact p.apart b off (h1 ▸ e)
    · refine ⟨fun hs => ?_, fun e2 => ?_⟩
      · have := p.hi b hs; omega
      · have := p.lt; omega
  refine ⟨⟨⟨q.tab.tab.keep fun i hs _ => Below.heap_setCell w' _ _ i (fun e => p.box (by have e2 : i = xb := e; rw [← e2]; exact hs)), fun i hi => ?_⟩, ?_, ?_, ho.setCell _ _ (fun b off e => (hap b off e).2), hap, p.box, p.low⟩, (hb.mono p.size).setCell (p := ⟨xb, 0, none⟩) p.low _⟩
  · have := q.tab.lows i hi
    simpa using this
  · exact World.cell?_setCell_same' _ _ _ (by rw [q.cell]; rfl)
  · rw [World.frozen?_setCell]; exact q.fz
theorem OwnT.chg {w w' : World} {base n c : Nat} {A : Option Addr} {xs : List Rt} {S : Nat → Prop} (h : OwnT w base (.slice A n c) xs) (hc : Chg S w w') (hA : ∀ b off, A = some ⟨b, off, none⟩ → ¬ S b) : OwnT w' base (.slice A n c) xs := by
  refine ⟨h.1, ?_⟩
  rcases h.2 with h0 | ⟨g, cap, cur, e, hg, hh, h3⟩
  · exact .inl h0
  · refine .inr ⟨g, cap, cur, e, hg, (hc.block g (heap_lt hh) ?_).trans hh, h3⟩
    injection e with q1 _ _
    exact hA _ _ q1
/-- The program's table has changed. -/
theorem Play.tabTo (p : Play lo tb xb w h many xs A c r F S) (T : TabTo w S tb r h' m' w' S' F') : Play lo tb xb w' h' m' xs A c r F' S' ∧ Below lo w w' := by
  obtain ⟨t2, hb⟩ := p.tab.to p.size T
  have hn : ∀ b, b < w.heap.size → ¬ S b → ¬ S' b := fun b hb hs hs' => by
    rcases T.new b hs' with h1 | h1
    · exact hs h1
    · omega
  have hfz : w'.frozen? ⟨xb, 0, none⟩ = w.frozen? ⟨xb, 0, none⟩ := World.frozen?_of_block (w := w) (T.chg.block xb p.lt p.box)
  exact ⟨⟨t2, T.chg.cell p.box p.cell, hfz.trans p.fz, p.own.chg T.chg fun b off e => (p.apart b off e).1, fun b off e => ⟨hn b (by subst e; exact p.own.at_.2) (p.apart b off e).1, (p.apart b off e).2⟩, hn xb p.lt p.box, p.low⟩, hb⟩
end
/-- What the laws compare at the end. -/
theorem found_same {h : Hops} {many : Int} {xs : List Rt} (s : Same h many xs) {x : Nat} (hx : x < 65536) {z l k : Int}
    (hf : (k = 5 ∧ z = 0 ∧ l = 0 ∧ ∀ t ∈ xs, inPB t.1 t.2.1 x = false) ∨ (k = 0 ∧ ∃ t ∈ xs, inPB t.1 t.2.1 x = true ∧ z = t.2.2 ∧ l = t.2.1 ∧ ∀ u ∈ xs, inPB u.1 u.2.1 x = true → u.2.1 ≤ t.2.1)) :
    ((best h x 17).1 < 0 → k = 5 ∧ z = 0 ∧ l = 0) ∧ (0 ≤ (best h x 17).1 → k = 0 ∧ z = (best h x 17).1 ∧ l = ((best h x 17).2 : Nat)) := by
  have hl := s.list
  subst hl
  constructor
  · intro hn
    rcases hf with ⟨h1, h2, h3, _⟩ | ⟨_, t, ht, hi, _⟩
    · exact ⟨h1, h2, h3⟩
    · rw [long_neg hn ht] at hi; cases hi
  · intro hn
    obtain ⟨t0, ht0, hi0, hl0⟩ := long_there hx hn
    rcases hf with ⟨_, _, _, h4⟩ | ⟨h1, t, ht, hi, h2, h3, h4⟩
    · rw [h4 t0 ht0] at hi0; cases hi0
    · obtain ⟨g1, g2⟩ := long_pos hn ht hi
      have := h4 t0 ht0 hi0
      have e : t.2.1 = ((best h x 17).2 : Nat) := by omega
      exact ⟨h1, by rw [h2]; exact g2 e, by rw [h3]; exact e⟩
end Go.Proofs.YtfgpppgehbpblaaDoor
