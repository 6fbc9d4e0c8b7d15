/- A table that holds some prefixes, all with one hop: which addresses have it; two tables side by side. -/
import Derived.Test.YtfgpppgehbpblaaLpmFact
import Derived.Test.YtfgpppgehbpblaaCidrUse
namespace Go.Proofs.Ytfgpppgehbpblaa
open Go.RowKit Lp Px
def setH (z : Int) (h : Hops) (x : Int × Int) : Hops := upd h x.2.toNat (pn x.1.toNat x.2.toNat) z
def hopsL (xs : List (Int × Int)) (z : Int) : Hops := xs.foldl (setH z) (fun _ _ => -1)
theorem hopsL_snoc (xs : List (Int × Int)) (z : Int) (k : Nat) (h : k < xs.length) : hopsL (xs.take (k + 1)) z = upd (hopsL (xs.take k) z) xs[k].2.toNat (pn xs[k].1.toNat xs[k].2.toNat) z := by
  unfold hopsL
  rw [List.take_succ_eq_append_getElem h, List.foldl_append]
  rfl
def key (x : Int × Int) : Nat × Nat := (x.2.toNat, pn x.1.toNat x.2.toNat)
theorem hops_fold : ∀ (xs : List (Int × Int)) (z : Int) (h : Hops) (k v : Nat), (xs.foldl (setH z) h) k v = if (∃ x ∈ xs, key x = (k, v)) then z else h k v
  | [], z, h, k, v => by simp
  | x :: t, z, h, k, v => by
    rw [List.foldl_cons, hops_fold t z (setH z h x) k v]
    by_cases h1 : ∃ y ∈ t, key y = (k, v)
    · rw [if_pos h1, if_pos]
      obtain ⟨y, hy, e⟩ := h1
      exact ⟨y, by simp [hy], e⟩
    · rw [if_neg h1]
      unfold setH upd
      by_cases h2 : key x = (k, v)
      · unfold key at h2
        rw [Prod.mk.injEq] at h2
        rw [if_pos ⟨h2.1.symm, h2.2.symm⟩, if_pos ⟨x, by simp, by unfold key; rw [h2.1, ← h2.2, h2.1]⟩]
      · rw [if_neg (by rintro ⟨rfl, rfl⟩; exact h2 rfl), if_neg]
        rintro ⟨y, hy, e⟩
        rcases List.mem_cons.1 hy with rfl | hy
        · exact h2 e
        · exact h1 ⟨y, hy, e⟩
theorem best_hops {xs : List (Int × Int)} (h : errP xs = 0) {z : Int} (hz : 0 ≤ z) (a : Nat) :
    (Cover (xs.map ofI) a → (best (hopsL xs z) a 17).1 = z) ∧ (¬ Cover (xs.map ofI) a → (best (hopsL xs z) a 17).1 = -1) := by
  have hv : ∀ k v, hopsL xs z k v = if (∃ x ∈ xs, key x = (k, v)) then z else -1 := fun k v => hops_fold xs z _ k v
  constructor
  · rintro ⟨p, hp, hh⟩
    obtain ⟨x, hx, rfl⟩ := List.mem_map.1 hp
    obtain ⟨_, _, l0, l1, _⟩ := checkE_ok (errP_all.1 h x hx)
    have hk : x.2.toNat ≤ 16 := by omega
    have he : pn a x.2.toNat = pn x.1.toNat x.2.toNat := by
      unfold Has ofI at hh
      unfold pn
      simp only at hh
      rw [show (16 - x.2).toNat = 16 - x.2.toNat from by omega] at hh
      exact hh
    rcases best_cases (hopsL xs z) a 17 with ⟨_, h2⟩ | ⟨l, _, h2, h3, _⟩
    · have := h2 x.2.toNat (by omega)
      rw [hv, if_pos ⟨x, hx, by unfold key; rw [he]⟩] at this
      omega
    · rw [h3]
      show hopsL xs z l (pn a l) = z
      rw [hv] at h2 ⊢
      split
      · rfl
      · rename_i hn; rw [if_neg hn] at h2; omega
  · intro hn
    rcases best_cases (hopsL xs z) a 17 with ⟨h1, _⟩ | ⟨l, hl, h2, h3, _⟩
    · rw [h1]
    · exfalso
      rw [hv] at h2
      split at h2
      · rename_i hx
        obtain ⟨x, hx, e⟩ := hx
        unfold key at e
        rw [Prod.mk.injEq] at e
        obtain ⟨e1, e2⟩ := e
        obtain ⟨_, _, l0, l1, _⟩ := checkE_ok (errP_all.1 h x hx)
        refine hn ⟨ofI x, List.mem_map_of_mem hx, ?_⟩
        unfold Has ofI
        unfold pn at e2
        simp only
        rw [show (16 - x.2).toNat = 16 - x.2.toNat from by omega]
        rw [e1] at e2 ⊢
        exact e2.symm
      · omega
theorem setE_zero {h : Hops} {many a l z : Int} (h1 : checkE a l = 0) (h2 : inB z 0 9 = true) (h3 : many < 32) : setE h many a l z = 0 := by
  unfold setE
  rw [if_neg (by simpa using h1), if_neg (by rw [h2]; simp), if_neg (by omega)]
def Dis (S S' : Nat → Prop) : Prop := ∀ i, S i → ¬ S' i
theorem TabIn.other {lo : Nat} {w w' : World} {tb r : Nat} {F : Nat → Nat → Option Nat} {h : Hops} {many : Int} {S S' : Nat → Prop} (t : TabIn lo w tb r F h many S) (c : Chg S' w w') (d : Dis S S') : TabIn lo w' tb r F h many S :=
  ⟨t.tab.other c (fun i hi _ => d i hi), fun i hi => ⟨(t.lows i hi).1, Nat.lt_of_lt_of_le (t.lows i hi).2 c.size⟩⟩
theorem Dis.to {w w' : World} {tb r : Nat} {F' : Nat → Nat → Option Nat} {h' : Hops} {m' : Int} {S S' Sb : Nat → Prop} (d : Dis S Sb) (hb : ∀ i, Sb i → i < w.heap.size) (T : TabTo w S tb r h' m' w' S' F') : Dis S' Sb := by
  intro i hi hs
  rcases T.new i hi with h1 | h1
  · exact d i h1 hs
  · have := hb i hs
    omega
theorem Dis.symm {S S' : Nat → Prop} (d : Dis S S') : Dis S' S := fun i h h' => d i h' h
end Go.Proofs.Ytfgpppgehbpblaa
