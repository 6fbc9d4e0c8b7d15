/- A table of routes in memory: a tree of blocks, one for each prefix that was ever made; the table says which hop each prefix has. -/
import Derived.Test.YtfgpppgehbpblaaDoorLpmPlain
import Derived.Test.YtfgpppgehbpblaaDoorGrown
import Derived.Laws.Rows
namespace Go.Proofs.YtfgpppgehbpblaaDoor
open Go.RowKit Px Lp
def ptrV (o : Option Nat) : Value := .pointer (o.map fun b => ⟨b, 0, none⟩)
theorem ptrV_none : ptrV none = .pointer none := rfl
theorem ptrV_some (b : Nat) : ptrV (some b) = .pointer (some ⟨b, 0, none⟩) := rfl
abbrev Hops := Nat → Nat → Int
structure TabF (w : World) (S : Nat → Prop) (tb r : Nat) (F : Nat → Nat → Option Nat) (h : Hops) (many : Int) : Prop where
  tab : w.heap[tb]? = some (.cells #[.pointer (some ⟨r, 0, none⟩), .int .i64 many] 83)
  root : F 0 0 = some r
  node : ∀ k v b, F k v = some b → w.heap[b]? = some (.cells #[ptrV (F (k + 1) (2 * v)), ptrV (F (k + 1) (2 * v + 1)), .int .i64 (h k v)] 81)
  deep : ∀ k v b, F k v = some b → k ≤ 16
  inj : ∀ k v k' v' b, F k v = some b → F k' v' = some b → k = k' ∧ v = v'
  up : ∀ k v, F (k + 1) v ≠ none → F k (v / 2) ≠ none
  no : ∀ k v, F k v = none → h k v = -1
  rng : ∀ k v, -1 ≤ h k v ∧ h k v ≤ 9
  mine : ∀ k v b, F k v = some b → S b ∧ b ≠ tb
  tmine : S tb
  mrng : -1000 ≤ many ∧ many ≤ 32
  small : ∀ k v b, F k v = some b → v < 2 ^ k
/-- The world has changed at blocks of S alone; it may have new blocks. -/
structure Chg (S : Nat → Prop) (w w' : World) : Prop where
  os : w'.os = w.os
  tape : w'.tape = w.tape
  output : w'.output = w.output
  size : w.heap.size ≤ w'.heap.size
  block : ∀ i, i < w.heap.size → ¬ S i → w'.heap[i]? = w.heap[i]?
theorem Chg.refl (S : Nat → Prop) (w : World) : Chg S w w := ⟨rfl, rfl, rfl, Nat.le_refl _, fun _ _ _ => rfl⟩
theorem Chg.trans {S S' : Nat → Prop} {a b c : World} (h : Chg S a b) (k : Chg S' b c) (hS : ∀ i, S' i → S i ∨ a.heap.size ≤ i) : Chg S a c :=
  ⟨k.os.trans h.os, k.tape.trans h.tape, k.output.trans h.output, Nat.le_trans h.size k.size, fun i hi hn => by
    rw [k.block i (Nat.lt_of_lt_of_le hi h.size) (fun hs => by
      rcases hS i hs with h1 | h1
      · exact hn h1
      · omega), h.block i hi hn]⟩
theorem Chg.of_below {S : Nat → Prop} {w w' : World} (h : Below w.heap.size w w') : Chg S w w' := ⟨h.os, h.tape, h.output, h.size, fun i hi _ => h.block i hi⟩
theorem Chg.of_grew {S : Nat → Prop} {w w' : World} (h : Grew w w') : Chg S w w' := .of_below h.below
theorem Chg.below {S : Nat → Prop} {w w' : World} {lo : Nat} (h : Chg S w w') (hlo : ∀ i, i < lo → ¬ S i) (hl : lo ≤ w.heap.size) : Below lo w w' :=
  ⟨h.os, h.tape, h.output, h.size, fun i hi => h.block i (by omega) (hlo i hi)⟩
theorem Chg.setCell {S : Nat → Prop} {w w' : World} (h : Chg S w w') {b : Nat} (hb : S b ∨ w.heap.size ≤ b) (i : Nat) (v : Value) : Chg S w (w'.setCell ⟨b, i, none⟩ v) :=
  ⟨h.os, h.tape, h.output, by have := h.size; simpa using this, fun j hj hn => by
    rw [heap_setCell_other w' ⟨b, i, none⟩ j v (by
      rintro rfl
      rcases hb with h1 | h1
      · exact hn h1
      · omega)]
    exact h.block j hj hn⟩
theorem Chg.alloc {S : Nat → Prop} {w w' : World} (h : Chg S w w') (o : Obj) : Chg S w (w'.alloc o) :=
  h.trans (.of_below ((Below.refl _ _).alloc (Nat.le_refl _) o) (S := S)) (fun _ h => .inl h)
theorem heap_lt {w : World} {b : Nat} {o : Obj} (h : w.heap[b]? = some o) : b < w.heap.size := (Array.getElem?_eq_some_iff.1 h).1
theorem cell_of_heap {w : World} {b i : Nat} {cs : Array Value} {t : TypeId} {v : Value} (h : w.heap[b]? = some (.cells cs t (0, 0))) (hv : cs[i]? = some v) : w.cell? ⟨b, i, none⟩ = some v := by
  simp [World.cell?, h, hv]
section
variable {w w' : World} {S : Nat → Prop} {tb r : Nat} {F : Nat → Nat → Option Nat} {h : Hops} {many : Int}
theorem TabF.keep (t : TabF w S tb r F h many) (hk : ∀ i, S i → i < w.heap.size → w'.heap[i]? = w.heap[i]?) : TabF w' S tb r F h many :=
  { t with
    tab := (hk tb t.tmine (heap_lt t.tab)).trans t.tab
    node := fun k v b hb => (hk b (t.mine k v b hb).1 (heap_lt (t.node k v b hb))).trans (t.node k v b hb) }
theorem TabF.below (t : TabF w S tb r F h many) (hb : Below w.heap.size w w') : TabF w' S tb r F h many := t.keep fun i _ hi => hb.block i hi
theorem TabF.grew (t : TabF w S tb r F h many) (hg : Grew w w') : TabF w' S tb r F h many := t.below hg.below
/-- A table stays where the world has changed at another one's blocks. -/
theorem TabF.other (t : TabF w S tb r F h many) {S' : Nat → Prop} (hc : Chg S' w w') (hd : ∀ i, S i → i < w.heap.size → ¬ S' i) : TabF w' S tb r F h many := t.keep fun i hs hi => hc.block i hi (hd i hs hi)
theorem TabF.wider (t : TabF w S tb r F h many) {S' : Nat → Prop} (hS : ∀ i, S i → S' i) : TabF w S' tb r F h many :=
  { t with mine := fun k v b hb => ⟨hS b (t.mine k v b hb).1, (t.mine k v b hb).2⟩, tmine := hS tb t.tmine }
theorem TabF.root_cell (t : TabF w S tb r F h many) : w.cell? ⟨tb, 0, none⟩ = some (.pointer (some ⟨r, 0, none⟩)) := cell_of_heap t.tab rfl
theorem TabF.many_cell (t : TabF w S tb r F h many) : w.cell? ⟨tb, 1, none⟩ = some (.int .i64 many) := cell_of_heap t.tab rfl
theorem TabF.kid0 (t : TabF w S tb r F h many) {k v b : Nat} (hb : F k v = some b) : w.cell? ⟨b, 0, none⟩ = some (ptrV (F (k + 1) (2 * v))) := cell_of_heap (t.node k v b hb) rfl
theorem TabF.kid1 (t : TabF w S tb r F h many) {k v b : Nat} (hb : F k v = some b) : w.cell? ⟨b, 1, none⟩ = some (ptrV (F (k + 1) (2 * v + 1))) := cell_of_heap (t.node k v b hb) rfl
theorem TabF.hop_cell (t : TabF w S tb r F h many) {k v b : Nat} (hb : F k v = some b) : w.cell? ⟨b, 2, none⟩ = some (.int .i64 (h k v)) := cell_of_heap (t.node k v b hb) rfl
theorem TabF.lt (t : TabF w S tb r F h many) {k v b : Nat} (hb : F k v = some b) : b < w.heap.size := heap_lt (t.node k v b hb)
theorem TabF.unfrozen (t : TabF w S tb r F h many) {k v b : Nat} (hb : F k v = some b) (j : Nat) : w.frozen? ⟨b, j, none⟩ = false := frozen_of_row w b j _ _ (t.node k v b hb)
theorem TabF.tab_unfrozen (t : TabF w S tb r F h many) (j : Nat) : w.frozen? ⟨tb, j, none⟩ = false := frozen_of_row w tb j _ _ t.tab
/-- Nothing stands below a place where nothing stands. -/
theorem TabF.none_below (t : TabF w S tb r F h many) (a : Nat) {j : Nat} (hj : F j (pn a j) = none) : ∀ k, j ≤ k → k ≤ 16 → F k (pn a k) = none
  | k, hjk, hk => by
    rcases Nat.lt_or_ge j k with hlt | hge
    · obtain ⟨m, rfl⟩ : ∃ m, k = m + 1 := ⟨k - 1, by omega⟩
      have ih := t.none_below a hj m (by omega) (by omega)
      have e : pn a (m + 1) / 2 = pn a m := by rw [pn_succ a (by omega)]; omega
      by_cases hn : F (m + 1) (pn a (m + 1)) = none
      · exact hn
      · have := t.up m _ hn
        rw [e] at this
        exact absurd ih this
    · obtain rfl : j = k := by omega
      exact hj
theorem TabF.set_many (t : TabF w S tb r F h many) {m : Int} (hm : -1000 ≤ m ∧ m ≤ 32) : TabF (w.setCell ⟨tb, 1, none⟩ (.int .i64 m)) S tb r F h m :=
  { t with
    tab := by rw [heap_setCell_same w tb 1 _ _ _ t.tab]; rfl
    node := fun k v b hb => by rw [heap_setCell_other w ⟨tb, 1, none⟩ b _ (t.mine k v b hb).2]; exact t.node k v b hb
    mrng := hm }
theorem TabF.set_hop (t : TabF w S tb r F h many) {k v b : Nat} (hb : F k v = some b) {z : Int} (hz : -1 ≤ z ∧ z ≤ 9) : TabF (w.setCell ⟨b, 2, none⟩ (.int .i64 z)) S tb r F (upd h k v z) many :=
  { t with
    tab := by rw [heap_setCell_other w ⟨b, 2, none⟩ tb _ (fun e => (t.mine k v b hb).2 e.symm)]; exact t.tab
    node := fun k' v' b' hb' => by
      by_cases e : b' = b
      · subst e
        obtain ⟨rfl, rfl⟩ := t.inj _ _ _ _ _ hb hb'
        rw [heap_setCell_same w b' 2 _ _ _ (t.node _ _ _ hb), upd_at]
        rfl
      · rw [heap_setCell_other w ⟨b, 2, none⟩ b' _ e, upd_ne]
        · exact t.node k' v' b' hb'
        · rintro ⟨rfl, rfl⟩
          rw [hb] at hb'
          injection hb' with hb'
          exact e hb'.symm
    no := fun k' v' hn => by
      rw [upd_ne]
      · exact t.no k' v' hn
      · rintro ⟨rfl, rfl⟩; rw [hb] at hn; cases hn
    rng := fun k' v' => by
      unfold upd
      split
      · exact hz
      · exact t.rng k' v' }
def addF (F : Nat → Nat → Option Nat) (k v b : Nat) : Nat → Nat → Option Nat := fun k' v' => if k' = k ∧ v' = v then some b else F k' v'
theorem addF_at (F : Nat → Nat → Option Nat) (k v b : Nat) : addF F k v b k v = some b := by unfold addF; rw [if_pos ⟨rfl, rfl⟩]
theorem addF_ne {F : Nat → Nat → Option Nat} {k v b k' v' : Nat} (hn : ¬ (k' = k ∧ v' = v)) : addF F k v b k' v' = F k' v' := by unfold addF; rw [if_neg hn]
/-- A new place in the tree. -/
theorem TabF.add (t : TabF w S tb r F h many) {k v b j : Nat} (hb : F k v = some b) (hj : j < 2) (hn : F (k + 1) (2 * v + j) = none) (hk : k < 16) :
    TabF ((w.alloc (.cells #[.pointer none, .pointer none, .int .i64 (-1)] 81)).setCell ⟨b, j, none⟩ (.pointer (some ⟨w.heap.size, 0, none⟩))) (fun i => S i ∨ i = w.heap.size) tb r (addF F (k + 1) (2 * v + j) w.heap.size) h many := by
  have hbl := t.lt hb
  have hnew : ∀ k' v' b', F k' v' = some b' → b' ≠ w.heap.size := fun k' v' b' e => Nat.ne_of_lt (t.lt e)
  have hold : ∀ i, i < w.heap.size → (w.alloc (.cells #[.pointer none, .pointer none, .int .i64 (-1)] 81)).heap[i]? = w.heap[i]? := fun i hi => Below.heap_alloc w _ i hi
  have hkid : ∀ v', F (k + 2) v' = none ∨ ∀ i, v' ≠ 2 * (2 * v + j) + i ∨ 2 ≤ i := by
    intro v'
    by_cases e : F (k + 2) v' = none
    · exact .inl e
    · right
      intro i
      by_cases hi : i < 2
      · left
        rintro rfl
        have := t.up (k + 1) _ e
        rw [show (2 * (2 * v + j) + i) / 2 = 2 * v + j from by omega] at this
        exact this hn
      · exact .inr (by omega)
  refine { t with tab := ?_, root := ?_, node := ?_, deep := ?_, inj := ?_, up := ?_, no := ?_, mine := ?_, tmine := .inl t.tmine, small := ?_ }
  · rw [heap_setCell_other _ ⟨b, j, none⟩ tb _ (fun e => (t.mine k v b hb).2 e.symm), hold tb (heap_lt t.tab)]
    exact t.tab
  · rw [addF_ne (by omega)]; exact t.root
  · intro k' v' b' hb'
    by_cases e : k' = k + 1 ∧ v' = 2 * v + j
    · obtain ⟨rfl, rfl⟩ := e
      rw [addF_at] at hb'
      injection hb' with hb'
      subst hb'
      rw [heap_setCell_other _ ⟨b, j, none⟩ _ _ (by show w.heap.size ≠ b; omega)]
      have e1 : addF F (k + 1) (2 * v + j) w.heap.size (k + 1 + 1) (2 * (2 * v + j)) = none := by
        rw [addF_ne (by omega)]
        rcases hkid (2 * (2 * v + j)) with h1 | h1
        · exact h1
        · rcases h1 0 with h1 | h1
          · exact absurd rfl h1
          · omega
      have e2 : addF F (k + 1) (2 * v + j) w.heap.size (k + 1 + 1) (2 * (2 * v + j) + 1) = none := by
        rw [addF_ne (by omega)]
        rcases hkid (2 * (2 * v + j) + 1) with h1 | h1
        · exact h1
        · rcases h1 1 with h1 | h1
          · exact absurd rfl h1
          · omega
      rw [e1, e2, t.no _ _ hn, ptrV_none]
      show (w.heap.push _)[w.heap.size]? = _
      simp
    · rw [addF_ne e] at hb'
      have hb'l := t.lt hb'
      by_cases e2 : b' = b
      · subst e2
        obtain ⟨rfl, rfl⟩ := t.inj _ _ _ _ _ hb hb'
        rw [heap_setCell_same (w.alloc _) b' j _ _ _ ((hold b' hb'l).trans (t.node _ _ _ hb))]
        have hj' : j = 0 ∨ j = 1 := by omega
        rcases hj' with rfl | rfl
        · have e0 : addF F (k + 1) (2 * v + 0) w.heap.size (k + 1) (2 * v) = some w.heap.size := addF_at F (k + 1) (2 * v) w.heap.size
          have e1 : addF F (k + 1) (2 * v + 0) w.heap.size (k + 1) (2 * v + 1) = F (k + 1) (2 * v + 1) := addF_ne (by omega)
          rw [e0, e1, ptrV_some]; rfl
        · have e0 : addF F (k + 1) (2 * v + 1) w.heap.size (k + 1) (2 * v + 1) = some w.heap.size := addF_at F (k + 1) (2 * v + 1) w.heap.size
          have e1 : addF F (k + 1) (2 * v + 1) w.heap.size (k + 1) (2 * v) = F (k + 1) (2 * v) := addF_ne (by omega)
          rw [e0, e1, ptrV_some]; rfl
      · rw [heap_setCell_other _ ⟨b, j, none⟩ b' _ e2, hold b' hb'l, t.node k' v' b' hb']
        have h1 : ∀ i, i < 2 → addF F (k + 1) (2 * v + j) w.heap.size (k' + 1) (2 * v' + i) = F (k' + 1) (2 * v' + i) := by
          intro i hi
          refine addF_ne ?_
          rintro ⟨h1, h2⟩
          obtain rfl : k' = k := by omega
          obtain rfl : v' = v := by omega
          rw [hb] at hb'
          injection hb' with hb'
          exact e2 hb'.symm
        have h10 : addF F (k + 1) (2 * v + j) w.heap.size (k' + 1) (2 * v') = F (k' + 1) (2 * v') := h1 0 (by omega)
        have h11 : addF F (k + 1) (2 * v + j) w.heap.size (k' + 1) (2 * v' + 1) = F (k' + 1) (2 * v' + 1) := h1 1 (by omega)
        rw [h10, h11]
  · intro k' v' b' hb'
    by_cases e : k' = k + 1 ∧ v' = 2 * v + j
    · omega
    · rw [addF_ne e] at hb'; exact t.deep _ _ _ hb'
  · intro k1 v1 k2 v2 b' h1 h2
    by_cases e1 : k1 = k + 1 ∧ v1 = 2 * v + j
    · obtain ⟨rfl, rfl⟩ := e1
      rw [addF_at] at h1
      injection h1 with h1
      by_cases e2 : k2 = k + 1 ∧ v2 = 2 * v + j
      · exact ⟨e2.1.symm, e2.2.symm⟩
      · rw [addF_ne e2] at h2; exact absurd h1.symm (hnew _ _ _ h2)
    · rw [addF_ne e1] at h1
      by_cases e2 : k2 = k + 1 ∧ v2 = 2 * v + j
      · obtain ⟨rfl, rfl⟩ := e2
        rw [addF_at] at h2
        injection h2 with h2
        exact absurd h2.symm (hnew _ _ _ h1)
      · rw [addF_ne e2] at h2; exact t.inj _ _ _ _ _ h1 h2
  · intro k' v' hne
    by_cases e : k' = k ∧ v' = 2 * v + j
    · obtain ⟨rfl, rfl⟩ := e
      rw [show (2 * v + j) / 2 = v from by omega, addF_ne (by omega), hb]
      simp
    · rw [addF_ne (by omega)] at hne
      have := t.up k' v' hne
      by_cases e2 : k' = k + 1 ∧ v' / 2 = 2 * v + j
      · rw [e2.1, e2.2, addF_at]; simp
      · rw [addF_ne e2]; exact this
  · intro k' v' hn'
    by_cases e : k' = k + 1 ∧ v' = 2 * v + j
    · obtain ⟨rfl, rfl⟩ := e
      exact t.no _ _ hn
    · rw [addF_ne e] at hn'; exact t.no _ _ hn'
  · intro k' v' b' hb'
    by_cases e : k' = k + 1 ∧ v' = 2 * v + j
    · obtain ⟨rfl, rfl⟩ := e
      rw [addF_at] at hb'
      injection hb' with hb'
      refine ⟨.inr hb'.symm, ?_⟩
      have := heap_lt t.tab
      omega
    · rw [addF_ne e] at hb'
      exact ⟨.inl (t.mine _ _ _ hb').1, (t.mine _ _ _ hb').2⟩
  · intro k' v' b' hb'
    by_cases e : k' = k + 1 ∧ v' = 2 * v + j
    · obtain ⟨rfl, rfl⟩ := e
      have := t.small _ _ _ hb
      rw [Nat.pow_succ]
      omega
    · rw [addF_ne e] at hb'; exact t.small _ _ _ hb'
end
end Go.Proofs.YtfgpppgehbpblaaDoor
