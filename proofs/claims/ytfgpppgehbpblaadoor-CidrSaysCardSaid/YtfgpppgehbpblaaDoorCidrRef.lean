/- The document's answer for the fewest prefixes, in plain words: halves, and halves of halves; it is the one list. -/
import Derived.Test.YtfgpppgehbpblaaDoorCidrPlain
namespace Go.Proofs.YtfgpppgehbpblaaDoor.Px

def hasB (p : Pf) (x : Nat) : Bool := x / 2 ^ p.2 == p.1 / 2 ^ p.2
theorem hasB_iff {p : Pf} {x : Nat} : hasB p x = true ↔ Has p x := by unfold hasB Has; exact beq_iff_eq
def wholeB (l : List Pf) (p : Pf) : Bool := l.any fun q => hasB q p.1 && decide (p.2 ≤ q.2)
def someB (l : List Pf) (p : Pf) : Bool := l.any fun q => hasB p q.1
def oneB (A : List Pf) (k : Nat) : Bool := match A with | [p] => p.2 == k | _ => false
def fewR (l : List Pf) : Nat → Nat → List Pf
  | 0, a => if wholeB l (a, 0) then [(a, 0)] else []
  | k + 1, a => if wholeB l (a, k + 1) then [(a, k + 1)] else if someB l (a, k + 1) then
      (if oneB (fewR l k a) k && oneB (fewR l k (a + 2 ^ k)) k then [(a, k + 1)] else fewR l k a ++ fewR l k (a + 2 ^ k))
    else []

theorem canon_nil : Canon [] := ⟨by simp, by simp, by simp⟩
theorem canon_one {p : Pf} (h : V p) : Canon [p] := by
  refine ⟨by simpa using h, by simp, ?_⟩
  intro a ha b hb hs
  simp only [List.mem_singleton] at ha hb
  rw [ha, hb] at hs
  have := hs.2.2.2
  have := pow_pos p.2
  omega
structure Part (l : List Pf) (a k : Nat) (M : List Pf) : Prop where
  canon : Canon M
  sub : ∀ p ∈ M, Sub p (a, k)
  cover : ∀ x, Cover M x ↔ Has (a, k) x ∧ Cover l x
theorem part_whole {l : List Pf} {a k : Nat} (hv : V (a, k)) (h : wholeB l (a, k) = true) : Part l a k [(a, k)] := by
  unfold wholeB at h
  rw [List.any_eq_true] at h
  obtain ⟨q, hq, h⟩ := h
  simp only [Bool.and_eq_true, decide_eq_true_iff, hasB_iff] at h
  refine ⟨canon_one hv, by simp [Sub], fun x => ?_⟩
  rw [show Cover [(a, k)] x ↔ Has (a, k) x from by simp [Cover]]
  refine ⟨fun hx => ⟨hx, q, hq, sub_has (p := (a, k)) (q := q) ⟨h.2, h.1⟩ hx⟩, fun hx => hx.1⟩
theorem no_part {l : List Pf} {a k : Nat} (h : wholeB l (a, k) = false) (h2 : someB l (a, k) = false) : Part l a k [] := by
  refine ⟨canon_nil, by simp, fun x => ?_⟩
  constructor
  · rintro ⟨p, hp, _⟩; simp at hp
  · rintro ⟨hx, q, hq, hqx⟩
    exfalso
    unfold wholeB at h
    unfold someB at h2
    rw [List.any_eq_false] at h h2
    have h3 := h q hq
    have h4 := h2 q hq
    simp only [Bool.and_eq_true, decide_eq_true_iff, hasB_iff] at h3 h4
    rcases Nat.le_total q.2 k with hk | hk
    · exact h4 (sub_has (sub_of_meet (q := (a, k)) hk hqx hx) (has_self q))
    · exact h3 ⟨sub_has (sub_of_meet (p := (a, k)) hk hx hqx) (has_self (a, k)), hk⟩
theorem oneB_iff {A : List Pf} {k : Nat} : oneB A k = true ↔ ∃ p, A = [p] ∧ p.2 = k := by
  unfold oneB
  split
  · rename_i p
    simp only [beq_iff_eq]
    exact ⟨fun h => ⟨p, rfl, h⟩, fun ⟨q, e, h⟩ => by injection e with e; rw [e]; exact h⟩
  · rename_i h
    constructor
    · intro h'; cases h'
    · rintro ⟨p, e, _⟩; exact absurd e (h p)
/-- What is in a part and as great as it is it. -/
theorem part_eq {l : List Pf} {a k : Nat} {M : List Pf} (hal : a % 2 ^ k = 0) (h : Part l a k M) {p : Pf} (hp : p ∈ M) (hk : p.2 = k) : p = (a, k) :=
  sub_antisymm (h.canon.v p hp).2.1 hal (h.sub p hp) ⟨Nat.le_of_eq hk.symm, by rw [(by rw [hk] : p.1 / 2 ^ p.2 = p.1 / 2 ^ k)]; have := (h.sub p hp).2; simp only at this ⊢; rw [hk, this]⟩
theorem part_single {l : List Pf} {a k : Nat} {M : List Pf} (hal : a % 2 ^ k = 0) (h : Part l a k M) (hp : (a, k) ∈ M) : M = [(a, k)] := by
  have hall : ∀ q ∈ M, q = (a, k) := fun q hq => apart_ne h.canon.apart hq hp hal (h.sub q hq)
  match M, h.canon.apart, hp, hall with
  | [q], _, _, hall => rw [hall q (by simp)]
  | q :: r :: t, hap, _, hall =>
    have := (List.pairwise_cons.1 hap).1 r (by simp)
    rw [hall q (by simp), hall r (by simp)] at this
    unfold Apart at this
    simp only at this
    have := pow_pos k
    omega
theorem few_part {l : List Pf} (hl : ∀ q ∈ l, V q) : ∀ (k a : Nat), V (a, k) → Part l a k (fewR l k a)
  | 0, a, hv => by
    unfold fewR
    split
    · exact part_whole hv (by assumption)
    · rename_i h
      have h1 : wholeB l (a, 0) = false := by simpa using h
      refine no_part h1 ?_
      unfold someB wholeB at *
      rw [List.any_eq_false] at h1 ⊢
      intro q hq
      have := h1 q hq
      simp only [Bool.and_eq_true, decide_eq_true_iff, hasB_iff] at this ⊢
      intro hh
      apply this
      refine ⟨?_, Nat.zero_le _⟩
      unfold Has at hh
      simp only [Nat.pow_zero, Nat.div_one] at hh
      rw [← hh]
      exact has_self q
  | k + 1, a, hv => by
    obtain ⟨v0, v1⟩ := half_v hv
    have pA := few_part hl k a v0
    have pB := few_part hl k (a + 2 ^ k) v1
    have hal : a % 2 ^ (k + 1) = 0 := hv.2.1
    have al0 : a % 2 ^ k = 0 := v0.2.1
    have al1 : (a + 2 ^ k) % 2 ^ k = 0 := v1.2.1
    have hsubA : Sub (a, k) (a, k + 1) := ⟨by simp only; omega, rfl⟩
    have hsubB : Sub (a + 2 ^ k, k) (a, k + 1) := ⟨by simp only; omega, half_div hal⟩
    have hcov : ∀ x, Cover (fewR l k a ++ fewR l k (a + 2 ^ k)) x ↔ Has (a, k + 1) x ∧ Cover l x := by
      intro x
      have e : Cover (fewR l k a ++ fewR l k (a + 2 ^ k)) x ↔ Cover (fewR l k a) x ∨ Cover (fewR l k (a + 2 ^ k)) x := by
        unfold Cover
        simp only [List.mem_append]
        constructor
        · rintro ⟨p, hp | hp, h⟩
          · exact .inl ⟨p, hp, h⟩
          · exact .inr ⟨p, hp, h⟩
        · rintro (⟨p, hp, h⟩ | ⟨p, hp, h⟩)
          · exact ⟨p, .inl hp, h⟩
          · exact ⟨p, .inr hp, h⟩
      rw [e, pA.cover, pB.cover, half_has hal]
      constructor
      · rintro (⟨h, h'⟩ | ⟨h, h'⟩)
        · exact ⟨.inl h, h'⟩
        · exact ⟨.inr h, h'⟩
      · rintro ⟨h | h, h'⟩
        · exact .inl ⟨h, h'⟩
        · exact .inr ⟨h, h'⟩
    rw [fewR]
    split
    · exact part_whole hv (by assumption)
    · rename_i h
      split
      · split
        · rename_i _ hone
          rw [Bool.and_eq_true, oneB_iff, oneB_iff] at hone
          obtain ⟨⟨p, e1, e2⟩, q, e3, e4⟩ := hone
          have f1 := part_eq al0 pA (p := p) (by rw [e1]; simp) e2
          have f2 := part_eq al1 pB (p := q) (by rw [e3]; simp) e4
          refine ⟨canon_one hv, by simp [Sub], fun x => ?_⟩
          rw [← hcov, e1, e3, f1, f2]
          rw [show Cover [(a, k + 1)] x ↔ Has (a, k + 1) x from by simp [Cover], half_has hal]
          simp [Cover]
        · rename_i _ hone
          have hr0 : ∀ p ∈ fewR l k a, p.1 + 2 ^ p.2 ≤ a + 2 ^ k := by
            intro p hp
            have hs := pA.sub p hp
            have hvp := pA.canon.v p hp
            have hpp := pow_pos p.2
            have hlast : Has p (p.1 + 2 ^ p.2 - 1) := (has_iff hvp.2.1 _).2 ⟨by omega, by omega⟩
            have := (has_iff (p := (a, k)) al0 _).1 (sub_has hs hlast)
            simp only at this
            omega
          have hr1 : ∀ p ∈ fewR l k (a + 2 ^ k), a + 2 ^ k ≤ p.1 := fun p hp => sub_le (q := (a + 2 ^ k, k)) al1 (pB.sub p hp)
          refine ⟨⟨?_, ?_, ?_⟩, ?_, hcov⟩
          · intro p hp
            rcases List.mem_append.1 hp with hp | hp
            · exact pA.canon.v p hp
            · exact pB.canon.v p hp
          · refine List.pairwise_append.2 ⟨pA.canon.apart, pB.canon.apart, fun p hp q hq => ?_⟩
            have h1 := hr0 p hp
            have h2 := hr1 q hq
            unfold Apart
            omega
          · intro p hp q hq hs
            obtain ⟨s1, s2, s3, s4⟩ := hs
            have hpp := pow_pos p.2
            rcases List.mem_append.1 hp with hp | hp <;> rcases List.mem_append.1 hq with hq | hq
            · exact pA.canon.sib p hp q hq ⟨s1, s2, s3, s4⟩
            · -- one of either half
              rcases Nat.lt_or_ge p.2 k with hk | hk
              · have hm : Sub (p.1, p.2 + 1) (a, k) := sub_of_meet (x := p.1) (by simp only; omega) (has_self _) (sub_has (pA.sub p hp) (has_self p))
                have hq1 : Has (p.1, p.2 + 1) q.1 := (half_has s3 _).2 (.inr (by rw [s4]; exact has_self _))
                have h1 := (has_iff (p := (a, k)) al0 _).1 (sub_has hm hq1)
                have h2 := hr1 q hq
                simp only at h1
                omega
              · have e1 : p.2 = k := Nat.le_antisymm (pA.sub p hp).1 hk
                have f1 := part_eq al0 pA hp e1
                have f2 := part_eq al1 pB hq (by rw [← s1, e1])
                rw [f1] at hp
                rw [f2] at hq
                have g1 := part_single al0 pA hp
                have g2 := part_single al1 pB hq
                apply hone
                rw [Bool.and_eq_true, oneB_iff, oneB_iff]
                exact ⟨⟨_, g1, rfl⟩, _, g2, rfl⟩
            · have h1 := hr0 q hq
              have h2 := hr1 p hp
              have := pow_pos q.2
              omega
            · exact pB.canon.sib p hp q hq ⟨s1, s2, s3, s4⟩
          · intro p hp
            rcases List.mem_append.1 hp with hp | hp
            · exact sub_trans (pA.sub p hp) hsubA
            · exact sub_trans (pB.sub p hp) hsubB
      · exact no_part (by simpa using h) (by simpa using (by assumption : ¬ someB l (a, k + 1) = true))
/-- THE DOCUMENT'S ANSWER IS THE PROGRAM'S. -/
theorem few_eq {l s : List Pf} (hl : ∀ q ∈ l, V q) (hs : s.Pairwise Le) (hm : ∀ p, p ∈ s ↔ p ∈ l) : fewR l 16 0 = fewS s := by
  have h := few_part hl 16 0 ⟨by simp only; omega, by simp, by simp⟩
  have h2 := fewS_ok (fun p hp => hl p ((hm p).1 hp)) hs
  refine canon_unique h.canon h2.1 fun x => ?_
  rw [h.cover, h2.2]
  have e : Cover s x ↔ Cover l x := by unfold Cover; exact ⟨fun ⟨p, hp, hx⟩ => ⟨p, (hm p).1 hp, hx⟩, fun ⟨p, hp, hx⟩ => ⟨p, (hm p).2 hp, hx⟩⟩
  rw [e]
  refine ⟨fun h => h.2, fun h => ⟨?_, h⟩⟩
  obtain ⟨p, hp, hx⟩ := h
  have hv := hl p hp
  have h3 := (has_iff hv.2.1 _).1 hx
  have h4 := top_fit hv.1 hv.2.1 hv.2.2
  rw [has_iff (p := (0, 16)) (by simp)]
  simp only
  omega
end Go.Proofs.YtfgpppgehbpblaaDoor.Px
