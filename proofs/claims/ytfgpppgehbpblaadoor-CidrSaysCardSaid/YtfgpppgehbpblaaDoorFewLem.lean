/- The document's few, in the form that its walk asks: what a round adds, and the bound on how many there are. Plain lists; no program. -/
import Derived.Test.YtfgpppgehbpblaaDoorCidrUse
import Derived.Test.YtfgpppgehbpblaaDoorInPB
namespace Go.Proofs.YtfgpppgehbpblaaDoor
open Px
/-- A prefix of some has all of one. -/
def wholeI (xs : List (Int × Int)) (p : Pf) : Bool := wholeB (xs.map ofI) p
def someI (xs : List (Int × Int)) (p : Pf) : Bool := someB (xs.map ofI) p
theorem inPB_hasB {p : Pf} (h : V p) (x : Nat) : inPB (toI p).1 (toI p).2 (x : Int) = hasB p x := by
  unfold inPB
  rw [szI_toI h.1, Bool.eq_iff_iff, decide_eq_true_iff, hasB_iff, has_iff h.2.1]
  unfold toI
  simp only
  omega
theorem inPB_ofI {x : Int × Int} (h : checkE x.1 x.2 = 0) (a : Nat) : inPB x.1 x.2 (a : Int) = hasB (ofI x) a := by
  obtain ⟨v, e⟩ := ofI_v h
  have := inPB_hasB v a
  rwa [e] at this
theorem inPB_of {p : Pf} (hp : V p) {x : Int × Int} (h : checkE x.1 x.2 = 0) : inPB (toI p).1 (toI p).2 x.1 = hasB p (ofI x).1 := by
  obtain ⟨a0, _⟩ := checkE_ok h
  have := inPB_hasB hp (ofI x).1
  unfold ofI at this ⊢
  simp only at this ⊢
  rwa [Int.toNat_of_nonneg a0] at this
theorem wholeI_snoc (xs : List (Int × Int)) (p : Pf) (hp : V p) (k : Nat) (h : k < xs.length) (hc : checkE xs[k].1 xs[k].2 = 0) :
    wholeI (xs.take (k + 1)) p = (wholeI (xs.take k) p || (inPB xs[k].1 xs[k].2 (p.1 : Int) && decide (xs[k].2 ≤ (toI p).2))) := by
  unfold wholeI wholeB
  rw [List.take_succ_eq_append_getElem h, List.map_append, List.any_append, inPB_ofI hc]
  simp only [List.map_cons, List.map_nil, List.any_cons, List.any_nil, Bool.or_false]
  congr 2
  obtain ⟨_, _, l0, l1, _⟩ := checkE_ok hc
  rw [decide_eq_decide]
  have := hp.1
  unfold ofI toI
  simp only
  omega
theorem someI_snoc (xs : List (Int × Int)) (p : Pf) (hp : V p) (k : Nat) (h : k < xs.length) (hc : checkE xs[k].1 xs[k].2 = 0) :
    someI (xs.take (k + 1)) p = (someI (xs.take k) p || inPB (toI p).1 (toI p).2 xs[k].1) := by
  unfold someI someB
  rw [List.take_succ_eq_append_getElem h, List.map_append, List.any_append, inPB_of hp hc]
  simp
theorem any_take_true {α : Type} {f : α → Bool} {xs : List α} {k : Nat} (h : (xs.take k).any f = true) : xs.any f = true := by
  rw [List.any_eq_true] at h ⊢
  obtain ⟨x, hx, hf⟩ := h
  exact ⟨x, List.mem_of_mem_take hx, hf⟩
theorem wholeI_take {xs : List (Int × Int)} {p : Pf} {k : Nat} (h : wholeI (xs.take k) p = true) : wholeI xs p = true := by
  unfold wholeI wholeB at *
  rw [List.map_take] at h
  exact any_take_true h
/-- The document's few of what some have in one. -/
def fewRI (xs : List (Int × Int)) (k a : Nat) : List (Int × Int) := (fewR (xs.map ofI) k a).map toI
theorem fewR_len (l : List Pf) : ∀ k a : Nat, (fewR l k a).length ≤ 2 ^ k
  | 0, a => by unfold fewR; split <;> simp
  | k + 1, a => by
    have h1 := fewR_len l k a
    have h2 := fewR_len l k (a + 2 ^ k)
    have := pow_pos k
    rw [fewR, Nat.pow_succ]
    split
    · simp; omega
    · split
      · split
        · simp; omega
        · rw [List.length_append]; omega
      · simp
theorem fewRI_len (xs : List (Int × Int)) (k a : Nat) (hk : k ≤ 16) : (fewRI xs k a).length ≤ 65536 := by
  have h1 := fewR_len (xs.map ofI) k a
  have h2 : 2 ^ k ≤ 2 ^ 16 := Nat.pow_le_pow_right (by omega) hk
  unfold fewRI
  rw [List.length_map]
  omega
theorem fewRI_whole {xs : List (Int × Int)} {k a : Nat} (h : wholeI xs (a, k) = true) : fewRI xs k a = [toI (a, k)] := by
  unfold wholeI at h
  unfold fewRI
  cases k with
  | zero => rw [fewR, if_pos h]; rfl
  | succ k => rw [fewR, if_pos h]; rfl
theorem fewRI_none {xs : List (Int × Int)} {k a : Nat} (h : wholeI xs (a, k) = false) (h2 : someI xs (a, k) = false) : fewRI xs k a = [] := by
  unfold wholeI at h
  unfold someI at h2
  unfold fewRI
  cases k with
  | zero => rw [fewR, if_neg (by rw [h]; simp)]; rfl
  | succ k => rw [fewR, if_neg (by rw [h]; simp), if_neg (by rw [h2]; simp)]; rfl
/-- Where one has an address itself, whole and some are the same. -/
theorem some_whole_zero {xs : List (Int × Int)} {a : Nat} (h : wholeI xs (a, 0) = false) : someI xs (a, 0) = false := by
  unfold wholeI at h
  unfold someI
  unfold wholeB at h
  unfold someB
  rw [List.any_eq_false] at h ⊢
  intro q hq
  have := h q hq
  simp only [Bool.and_eq_true, decide_eq_true_iff, hasB_iff] at this ⊢
  intro hh
  apply this
  refine ⟨?_, Nat.zero_le _⟩
  unfold Has at hh
  simp only [Nat.pow_zero, Nat.div_one] at hh
  rw [← hh]
  exact has_self q
def oneI (A : List (Int × Int)) (l : Int) : Bool := match A with | [x] => x.2 == l | _ => false
theorem oneI_map (A : List Pf) (k : Nat) : oneI (A.map toI) (16 - (k : Int)) = oneB A k := by
  match A with
  | [] => rfl
  | [p] =>
    show ((toI p).2 == 16 - (k : Int)) = (p.2 == k)
    rw [Bool.eq_iff_iff, beq_iff_eq, beq_iff_eq]
    unfold toI
    simp only
    omega
  | p :: q :: t => rfl
theorem fewRI_succ {xs : List (Int × Int)} {k a : Nat} (h : wholeI xs (a, k + 1) = false) (h2 : someI xs (a, k + 1) = true) :
    fewRI xs (k + 1) a = if (oneI (fewRI xs k a) (16 - (k : Int)) && oneI (fewRI xs k (a + 2 ^ k)) (16 - (k : Int))) = true then [toI (a, k + 1)] else fewRI xs k a ++ fewRI xs k (a + 2 ^ k) := by
  unfold wholeI at h
  unfold someI at h2
  unfold fewRI
  rw [fewR, if_neg (by rw [h]; simp), if_pos h2, oneI_map, oneI_map]
  split
  · rfl
  · rw [List.map_append]
/-- All of them: what the program makes. -/
theorem fewRI_all {xs : List (Int × Int)} (h : errP xs = 0) : fewRI xs 16 0 = fewI xs := by
  obtain ⟨L, e, c, v, _⟩ := few_ok h
  have hl : ∀ q ∈ xs.map ofI, V q := by
    intro q hq
    obtain ⟨x, hx, rfl⟩ := List.mem_map.1 hq
    exact (ofI_v (errP_all.1 h x hx)).1
  have hp := few_part hl 16 0 ⟨by simp only; omega, by simp, by simp⟩
  unfold fewRI
  rw [e]
  congr 1
  refine canon_unique hp.canon c fun x => ?_
  rw [hp.cover, v]
  refine ⟨fun h => h.2, fun h => ⟨?_, h⟩⟩
  obtain ⟨p, hp, hx⟩ := h
  have hv := hl p hp
  have h3 := (has_iff hv.2.1 _).1 hx
  have h4 := top_fit hv.1 hv.2.1 hv.2.2
  rw [has_iff (p := (0, 16)) (by simp)]
  simp only
  omega
end Go.Proofs.YtfgpppgehbpblaaDoor
