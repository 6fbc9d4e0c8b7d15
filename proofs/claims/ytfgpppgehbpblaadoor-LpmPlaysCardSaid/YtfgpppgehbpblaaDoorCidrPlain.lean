/- Prefixes in plain words: a prefix is (its first address, the number of its free bits); the fewest prefixes of a set of addresses are one list. No program stands in it. -/
import Derived.Test.YtfgpppgehbpblaaDoorRows
namespace Go.Proofs.YtfgpppgehbpblaaDoor.Px

abbrev Pf := Nat × Nat
/-- A right prefix: at most 16 free bits, all of them 0. -/
def V (p : Pf) : Prop := p.2 ≤ 16 ∧ p.1 % 2 ^ p.2 = 0 ∧ p.1 < 65536
/-- An address is in a prefix. -/
def Has (p : Pf) (x : Nat) : Prop := x / 2 ^ p.2 = p.1 / 2 ^ p.2
def Sub (p q : Pf) : Prop := p.2 ≤ q.2 ∧ p.1 / 2 ^ q.2 = q.1 / 2 ^ q.2
def Cover (L : List Pf) (x : Nat) : Prop := ∃ p ∈ L, Has p x
def Sib (p q : Pf) : Prop := p.2 = q.2 ∧ p.2 < 16 ∧ p.1 % 2 ^ (p.2 + 1) = 0 ∧ q.1 = p.1 + 2 ^ p.2

theorem pow_pos (k : Nat) : 0 < 2 ^ k := Nat.pow_pos (by omega)
theorem pow_ne (k : Nat) : 2 ^ k ≠ 0 := Nat.pos_iff_ne_zero.1 (pow_pos k)
theorem div_div_pow (x : Nat) {k m : Nat} (h : k ≤ m) : x / 2 ^ m = x / 2 ^ k / 2 ^ (m - k) := by
  rw [Nat.div_div_eq_div_mul, ← Nat.pow_add, show k + (m - k) = m from by omega]
theorem div_up {x y k m : Nat} (h : k ≤ m) (e : x / 2 ^ k = y / 2 ^ k) : x / 2 ^ m = y / 2 ^ m := by
  rw [div_div_pow x h, div_div_pow y h, e]
/-- An aligned number is its quotient's multiple. -/
theorem al_eq {a k : Nat} (h : a % 2 ^ k = 0) : a = 2 ^ k * (a / 2 ^ k) := by
  have := Nat.div_add_mod a (2 ^ k)
  omega
theorem has_iff {p : Pf} (h : p.1 % 2 ^ p.2 = 0) (x : Nat) : Has p x ↔ p.1 ≤ x ∧ x < p.1 + 2 ^ p.2 := by
  have hp := pow_pos p.2
  have he := al_eq h
  unfold Has
  constructor
  · intro e
    have h1 := Nat.div_add_mod x (2 ^ p.2)
    have h2 := Nat.mod_lt x hp
    rw [e, ← he] at h1
    omega
  · rintro ⟨h1, h2⟩
    have : x / 2 ^ p.2 = p.1 / 2 ^ p.2 := by
      apply Nat.le_antisymm
      · rw [← Nat.lt_succ_iff, Nat.div_lt_iff_lt_mul hp, Nat.succ_mul, Nat.mul_comm]
        omega
      · exact Nat.div_le_div_right h1
    exact this
theorem has_self (p : Pf) : Has p p.1 := rfl
theorem sub_has {p q : Pf} (h : Sub p q) {x : Nat} (hx : Has p x) : Has q x := by
  unfold Has at *
  rw [div_up h.1 hx, h.2]
theorem sub_refl (p : Pf) : Sub p p := ⟨Nat.le_refl _, rfl⟩
theorem sub_trans {p q r : Pf} (h : Sub p q) (k : Sub q r) : Sub p r := ⟨Nat.le_trans h.1 k.1, by rw [div_up k.1 h.2, k.2]⟩
/-- Two prefixes that have one address: the smaller one is in the greater one. -/
theorem sub_of_meet {p q : Pf} (hk : p.2 ≤ q.2) {x : Nat} (hp : Has p x) (hq : Has q x) : Sub p q := by
  refine ⟨hk, ?_⟩
  unfold Has at *
  rw [← div_up hk hp, hq]
theorem sub_antisymm {p q : Pf} (hp : p.1 % 2 ^ p.2 = 0) (hq : q.1 % 2 ^ q.2 = 0) (h : Sub p q) (k : Sub q p) : p = q := by
  obtain ⟨a, m⟩ := p
  obtain ⟨b, n⟩ := q
  have e : m = n := Nat.le_antisymm h.1 k.1
  subst e
  have := h.2
  simp only at this hp hq
  rw [al_eq hp, al_eq hq, this]
theorem sub_le {p q : Pf} (hq : q.1 % 2 ^ q.2 = 0) (h : Sub p q) : q.1 ≤ p.1 := by
  have := al_eq hq
  have h1 := Nat.div_add_mod p.1 (2 ^ q.2)
  rw [h.2, ← this] at h1
  omega

/-- The two halves of a prefix. -/
theorem half_has {a k : Nat} (h : a % 2 ^ (k + 1) = 0) (x : Nat) : Has (a, k + 1) x ↔ Has (a, k) x ∨ Has (a + 2 ^ k, k) x := by
  have h0 : a % 2 ^ k = 0 := by
    have := al_eq h
    rw [this, Nat.pow_succ, Nat.mul_assoc]
    exact Nat.mul_mod_right _ _
  have h1 : (a + 2 ^ k) % 2 ^ k = 0 := by rw [Nat.add_mod_right]; exact h0
  rw [has_iff (p := (a, k + 1)) h, has_iff (p := (a, k)) h0, has_iff (p := (a + 2 ^ k, k)) h1]
  simp only [Nat.pow_succ]
  omega
theorem half_al {a k : Nat} (h : a % 2 ^ (k + 1) = 0) : a % 2 ^ k = 0 ∧ (a + 2 ^ k) % 2 ^ k = 0 := by
  have h0 : a % 2 ^ k = 0 := by
    have := al_eq h
    rw [this, Nat.pow_succ, Nat.mul_assoc]
    exact Nat.mul_mod_right _ _
  exact ⟨h0, by rw [Nat.add_mod_right]; exact h0⟩
theorem half_div {a k : Nat} (h : a % 2 ^ (k + 1) = 0) : (a + 2 ^ k) / 2 ^ (k + 1) = a / 2 ^ (k + 1) := by
  have h1 : Has (a, k + 1) (a + 2 ^ k) := (half_has h _).2 (.inr rfl)
  exact h1
/-- 65536 is a multiple of what a prefix has. -/
theorem top_fit {a k : Nat} (hk : k ≤ 16) (h : a % 2 ^ k = 0) (ha : a < 65536) : a + 2 ^ k ≤ 65536 := by
  have e : (65536 : Nat) = 2 ^ k * 2 ^ (16 - k) := by rw [← Nat.pow_add, show k + (16 - k) = 16 from by omega]
  have he := al_eq h
  have hp := pow_pos k
  rw [e] at ha ⊢
  rw [he] at ha ⊢
  have h1 : a / 2 ^ k < 2 ^ (16 - k) := Nat.lt_of_mul_lt_mul_left ha
  have h2 : 2 ^ k * (a / 2 ^ k + 1) ≤ 2 ^ k * 2 ^ (16 - k) := Nat.mul_le_mul_left _ h1
  rw [Nat.mul_add, Nat.mul_one] at h2
  exact h2
theorem half_v {a k : Nat} (h : V (a, k + 1)) : V (a, k) ∧ V (a + 2 ^ k, k) := by
  obtain ⟨h1, h2, h3⟩ := h
  simp only at h1 h2 h3
  have h4 := top_fit h1 h2 h3
  have hp := pow_pos k
  obtain ⟨h5, h6⟩ := half_al h2
  rw [Nat.pow_succ] at h4
  exact ⟨⟨by simp only; omega, h5, h3⟩, ⟨by simp only; omega, h6, by simp only; omega⟩⟩

/-! ### The one list -/
def Apart (p q : Pf) : Prop := p.1 + 2 ^ p.2 ≤ q.1
structure Canon (L : List Pf) : Prop where
  v : ∀ p ∈ L, V p
  apart : L.Pairwise Apart
  sib : ∀ p ∈ L, ∀ q ∈ L, ¬ Sib p q

theorem canon_max {L : List Pf} (hL : Canon L) : ∀ (k a : Nat), V (a, k) → (∀ x, Has (a, k) x → Cover L x) → ∃ p ∈ L, Sub (a, k) p
  | 0, a, _, hc => by
    obtain ⟨p, hp, hx⟩ := hc a (has_self _)
    exact ⟨p, hp, Nat.zero_le _, hx⟩
  | k + 1, a, hv, hc => by
    obtain ⟨v0, v1⟩ := half_v hv
    have hal : a % 2 ^ (k + 1) = 0 := hv.2.1
    obtain ⟨p, hp, s0⟩ := canon_max hL k a v0 (fun x hx => hc x ((half_has hal x).2 (.inl hx)))
    obtain ⟨q, hq, s1⟩ := canon_max hL k (a + 2 ^ k) v1 (fun x hx => hc x ((half_has hal x).2 (.inr hx)))
    by_cases h0 : k + 1 ≤ p.2
    · exact ⟨p, hp, h0, s0.2⟩
    by_cases h1 : k + 1 ≤ q.2
    · refine ⟨q, hq, h1, ?_⟩
      rw [← s1.2]
      exact div_up h1 (half_div hal).symm
    have e0 : p.2 = k := by have := s0.1; simp only at this; omega
    have e1 : q.2 = k := by have := s1.1; simp only at this; omega
    have d0 := s0.2
    have d1 := s1.2
    simp only [e0, e1] at d0 d1
    have ap := (hL.v p hp).2.1
    have aq := (hL.v q hq).2.1
    rw [e0] at ap
    rw [e1] at aq
    have f0 : p.1 = a := by rw [al_eq ap, ← d0, ← al_eq v0.2.1]
    have f1 : q.1 = a + 2 ^ k := by rw [al_eq aq, ← d1, ← al_eq v1.2.1]
    exact absurd ⟨by rw [e0, e1], by have := hv.1; simp only at this; omega, by rw [e0, f0]; exact hal, by rw [f1, f0, e0]⟩ (hL.sib p hp q hq)

theorem apart_ne {L : List Pf} (h : L.Pairwise Apart) {p q : Pf} (hp : p ∈ L) (hq : q ∈ L) (hal : q.1 % 2 ^ q.2 = 0) (hs : Sub p q) : p = q := by
  induction L with
  | nil => cases hp
  | cons r t ih =>
    rw [List.pairwise_cons] at h
    obtain ⟨h1, h2⟩ := h
    have hpp := pow_pos p.2
    have hqp := pow_pos q.2
    have key : Has q p.1 := sub_has hs (has_self p)
    have hd := Nat.div_add_mod p.1 (2 ^ q.2)
    have hd2 := Nat.div_add_mod q.1 (2 ^ q.2)
    have hm := Nat.mod_lt p.1 hqp
    have hm2 := Nat.mod_lt q.1 hqp
    unfold Has at key
    rw [key] at hd
    rcases List.mem_cons.1 hp with e1 | hp' <;> rcases List.mem_cons.1 hq with e2 | hq'
    · rw [e1, e2]
    · subst e1
      have h3 := h1 q hq'
      unfold Apart at h3
      have := sub_le hal hs
      omega
    · subst e2
      have h3 := h1 p hp'
      unfold Apart at h3
      exfalso
      omega
    · exact ih h2 hp' hq'

theorem sorted_ext : ∀ {L M : List Pf}, L.Pairwise Apart → M.Pairwise Apart → (∀ p, p ∈ L ↔ p ∈ M) → L = M
  | [], [], _, _, _ => rfl
  | [], q :: M, _, _, h => by have := (h q).2 (by simp); simp at this
  | p :: L, [], _, _, h => by have := (h p).1 (by simp); simp at this
  | p :: L, q :: M, h1, h2, h => by
    rw [List.pairwise_cons] at h1 h2
    have hpp := pow_pos p.2
    have hqp := pow_pos q.2
    have e : p = q := by
      rcases List.mem_cons.1 ((h p).1 (by simp)) with e | hp
      · exact e
      rcases List.mem_cons.1 ((h q).2 (by simp)) with e | hq
      · exact e.symm
      have a1 := h2.1 p hp
      have a2 := h1.1 q hq
      unfold Apart at a1 a2
      omega
    subst e
    congr 1
    refine sorted_ext h1.2 h2.2 fun r => ?_
    have hr := h r
    simp only [List.mem_cons] at hr
    have n1 : p ∉ L := fun hm => by have := h1.1 p hm; unfold Apart at this; omega
    have n2 : p ∉ M := fun hm => by have := h2.1 p hm; unfold Apart at this; omega
    constructor
    · intro hm
      rcases hr.1 (.inr hm) with e | e
      · subst e; exact absurd hm n1
      · exact e
    · intro hm
      rcases hr.2 (.inr hm) with e | e
      · subst e; exact absurd hm n2
      · exact e

theorem canon_sub {L M : List Pf} (hL : Canon L) (hM : Canon M) (h : ∀ x, Cover L x ↔ Cover M x) {p : Pf} (hp : p ∈ L) : p ∈ M := by
  obtain ⟨q, hq, s1⟩ := canon_max hM p.2 p.1 (hL.v p hp) (fun x hx => (h x).1 ⟨p, hp, hx⟩)
  obtain ⟨r, hr, s2⟩ := canon_max hL q.2 q.1 (hM.v q hq) (fun x hx => (h x).2 ⟨q, hq, hx⟩)
  have e := apart_ne hL.apart hp hr (hL.v r hr).2.1 (sub_trans s1 s2)
  subst e
  rw [sub_antisymm (hL.v p hp).2.1 (hM.v q hq).2.1 s1 s2]
  exact hq
/-- ONE SET OF ADDRESSES HAS ONE SUCH LIST. -/
theorem canon_unique {L M : List Pf} (hL : Canon L) (hM : Canon M) (h : ∀ x, Cover L x ↔ Cover M x) : L = M :=
  sorted_ext hL.apart hM.apart fun _ => ⟨canon_sub hL hM h, canon_sub hM hL (fun x => (h x).symm)⟩

/-! ### How the program makes it: a stack, the last one first -/
def mergeable (p q : Pf) : Bool := p.2 == q.2 && decide (q.2 < 16) && (q.1 % 2 ^ (q.2 + 1) == 0) && (p.1 / 2 ^ (q.2 + 1) == q.1 / 2 ^ (q.2 + 1))
def mergeS : List Pf → List Pf
  | p :: q :: t => if mergeable p q then mergeS ((q.1, q.2 + 1) :: t) else p :: q :: t
  | l => l
termination_by l => l.length
def stepS (S : List Pf) (p : Pf) : List Pf :=
  match S with
  | q :: _ => if decide (p.2 ≤ q.2) && (p.1 / 2 ^ q.2 == q.1 / 2 ^ q.2) then S else mergeS (p :: S)
  | [] => [p]
/-- A stack: the later one stands behind. -/
structure Stack (S : List Pf) (done : List Pf) : Prop where
  v : ∀ p ∈ S, V p
  apart : S.Pairwise (fun p q => Apart q p)
  sib : ∀ p ∈ S, ∀ q ∈ S, ¬ Sib p q
  anch : ∀ p ∈ S, ∃ d ∈ done, d.1 = p.1 ∧ d.2 ≤ p.2
  cover : ∀ x, Cover S x ↔ Cover done x

theorem cover_cons (p : Pf) (S : List Pf) (x : Nat) : Cover (p :: S) x ↔ Has p x ∨ Cover S x := by
  unfold Cover
  simp only [List.mem_cons]
  constructor
  · rintro ⟨q, rfl | hq, h⟩
    · exact .inl h
    · exact .inr ⟨q, hq, h⟩
  · rintro (h | ⟨q, hq, h⟩)
    · exact ⟨p, .inl rfl, h⟩
    · exact ⟨q, .inr hq, h⟩
theorem mergeable_iff {p q : Pf} (hp : V p) (ha : Apart q p) : mergeable p q = true ↔ Sib q p := by
  unfold mergeable Sib
  simp only [Bool.and_eq_true, beq_iff_eq, decide_eq_true_iff]
  unfold Apart at ha
  constructor
  · rintro ⟨⟨⟨h1, h2⟩, h3⟩, h4⟩
    refine ⟨h1.symm, h2, h3, ?_⟩
    -- p's first address lies in the double of q, behind q, and is aligned
    have h5 : Has (q.1, q.2 + 1) p.1 := h4
    rw [half_has h3] at h5
    have a1 := half_al h3
    rcases h5 with h5 | h5
    · rw [has_iff (p := (q.1, q.2)) a1.1] at h5
      simp only at h5
      omega
    · have hp2 := hp.2.1
      rw [h1] at hp2
      have e : p.1 / 2 ^ q.2 = (q.1 + 2 ^ q.2) / 2 ^ q.2 := h5
      rw [al_eq hp2, e, ← al_eq a1.2]
  · rintro ⟨h1, h2, h3, h4⟩
    refine ⟨⟨⟨h1.symm, h2⟩, h3⟩, ?_⟩
    rw [h4]
    exact half_div h3
theorem merge_stack : ∀ (n : Nat) (S : List Pf) (p : Pf) (done : List Pf), S.length = n → V p → (∀ q ∈ S, V q) → (∀ q ∈ S, Apart q p) → S.Pairwise (fun p q => Apart q p) → (∀ r ∈ S, ∀ q ∈ S, ¬ Sib r q) →
    (∀ r ∈ p :: S, ∃ d ∈ done, d.1 = r.1 ∧ d.2 ≤ r.2) → (∀ x, Cover (p :: S) x ↔ Cover done x) → Stack (mergeS (p :: S)) done := by
  intro n
  induction n with
  | zero =>
    intro S p done hn hp hS ha hpw hsib hanch hcov
    have : S = [] := List.eq_nil_of_length_eq_zero hn
    subst this
    rw [mergeS]
    · refine ⟨by simpa using hp, by simp, ?_, hanch, hcov⟩
      intro a ha' b hb' hs
      simp only [List.mem_singleton] at ha' hb'
      rw [ha', hb'] at hs
      have := hs.2.2.2
      have := pow_pos p.2
      omega
    · intro p q t h; simp at h
  | succ n ih =>
    intro S p done hn hp hS ha hpw hsib hanch hcov
    match S, hn with
    | q :: t, hn =>
      have hq := hS q (by simp)
      have haq := ha q (by simp)
      rw [List.pairwise_cons] at hpw
      rw [mergeS]
      by_cases hm : mergeable p q = true
      · rw [if_pos hm]
        obtain ⟨e1, e2, e3, e4⟩ := (mergeable_iff hp haq).1 hm
        refine ih t (q.1, q.2 + 1) done (by simpa using hn) ⟨by simp only; omega, e3, hq.2.2⟩ (fun r hr => hS r (by simp [hr])) (fun r hr => hpw.1 r hr) hpw.2 (fun r hr s hs => hsib r (by simp [hr]) s (by simp [hs])) ?_ ?_
        · intro r hr
          rcases List.mem_cons.1 hr with rfl | hr
          · obtain ⟨d, hd, h1, h2⟩ := hanch q (by simp)
            exact ⟨d, hd, h1, by simp only; omega⟩
          · exact hanch r (by simp [hr])
        · intro x
          rw [← hcov x, cover_cons, cover_cons, cover_cons, half_has e3]
          have hpe : p = (q.1 + 2 ^ q.2, q.2) := by rw [← e4, e1]
          have hqe : q = (q.1, q.2) := rfl
          rw [hpe]
          constructor
          · rintro ((h | h) | h)
            · exact .inr (.inl h)
            · exact .inl h
            · exact .inr (.inr h)
          · rintro (h | h | h)
            · exact .inl (.inr h)
            · exact .inl (.inl h)
            · exact .inr h
      · rw [if_neg hm]
        refine ⟨?_, ?_, ?_, hanch, hcov⟩
        · intro r hr
          rcases List.mem_cons.1 hr with rfl | hr
          · exact hp
          · exact hS r hr
        · rw [List.pairwise_cons]
          exact ⟨ha, List.pairwise_cons.2 hpw⟩
        · intro r hr s hs hsb
          have hrp := pow_pos r.2
          have hsp := pow_pos s.2
          have hqp := pow_pos q.2
          have he := hsb.2.2.2
          rcases List.mem_cons.1 hr with e1 | hr' <;> rcases List.mem_cons.1 hs with e2 | hs'
          · rw [e1, e2] at he; have := pow_pos p.2; omega
          · have := ha s hs'; unfold Apart at this; rw [e1] at he; have := pow_pos p.2; omega
          · rw [e2] at hsb he
            rcases List.mem_cons.1 hr' with e3 | hr''
            · rw [e3] at hsb
              exact hm ((mergeable_iff hp haq).2 hsb)
            · have h1 := hpw.1 r hr''
              unfold Apart at h1 haq
              omega
          · exact hsib r hr' s hs' hsb

/-- In the order in which the program takes them: by address, the greater prefix first. -/
def Le (p q : Pf) : Prop := p.1 < q.1 ∨ p.1 = q.1 ∧ q.2 ≤ p.2
theorem step_stack {S done : List Pf} {p : Pf} (h : Stack S done) (hp : V p) (hle : ∀ d ∈ done, Le d p) : Stack (stepS S p) (done ++ [p]) := by
  have hcov : ∀ x, Cover (done ++ [p]) x ↔ Cover done x ∨ Has p x := by
    intro x
    unfold Cover
    simp only [List.mem_append, List.mem_singleton]
    constructor
    · rintro ⟨q, hq | rfl, hx⟩
      · exact .inl ⟨q, hq, hx⟩
      · exact .inr hx
    · rintro (⟨q, hq, hx⟩ | hx)
      · exact ⟨q, .inl hq, hx⟩
      · exact ⟨p, .inr rfl, hx⟩
  have hanch : ∀ r ∈ S, ∃ d ∈ done ++ [p], d.1 = r.1 ∧ d.2 ≤ r.2 := by
    intro r hr
    obtain ⟨d, hd, h1⟩ := h.anch r hr
    exact ⟨d, by simp [hd], h1⟩
  match S, h, hanch with
  | [], h, _ =>
    refine ⟨by simpa [stepS] using hp, by simp [stepS], ?_, ?_, ?_⟩
    · intro a ha b hb hs
      simp only [stepS, List.mem_singleton] at ha hb
      rw [ha, hb] at hs
      have := hs.2.2.2
      have := pow_pos p.2
      omega
    · intro r hr
      simp only [stepS, List.mem_singleton] at hr
      subst hr
      exact ⟨r, by simp, rfl, Nat.le_refl _⟩
    · intro x
      rw [hcov, ← h.cover]
      simp [stepS, Cover]
  | q :: t, h, hanch =>
    have hq := h.v q (by simp)
    have hpw := List.pairwise_cons.1 h.apart
    unfold stepS
    simp only
    split
    · rename_i hc
      simp only [Bool.and_eq_true, beq_iff_eq, decide_eq_true_iff] at hc
      refine ⟨h.v, h.apart, h.sib, hanch, fun x => ?_⟩
      rw [hcov, ← h.cover]
      constructor
      · exact .inl
      · rintro (hx | hx)
        · exact hx
        · exact ⟨q, by simp, sub_has hc hx⟩
    · rename_i hc
      have hns : ¬ Sub p q := fun hs => hc (by simp only [Bool.and_eq_true, beq_iff_eq, decide_eq_true_iff]; exact hs)
      obtain ⟨d, hd, d1, d2⟩ := h.anch q (by simp)
      have hdl := hle d hd
      have hqp : q.1 ≤ p.1 := by unfold Le at hdl; omega
      have hap : Apart q p := by
        unfold Apart
        rcases Nat.lt_or_ge p.1 (q.1 + 2 ^ q.2) with hlt | hge
        · exfalso
          have hh : Has q p.1 := (has_iff hq.2.1 _).2 ⟨hqp, hlt⟩
          rcases Nat.lt_or_ge q.2 p.2 with hk | hk
          · have hsub := sub_of_meet (Nat.le_of_lt hk) hh (has_self p)
            have := sub_le hp.2.1 hsub
            unfold Le at hdl
            omega
          · exact hns (sub_of_meet hk (has_self p) hh)
        · exact hge
      refine merge_stack _ (q :: t) p (done ++ [p]) rfl hp h.v ?_ h.apart h.sib ?_ ?_
      · intro r hr
        rcases List.mem_cons.1 hr with rfl | hr
        · exact hap
        · have h1 := hpw.1 r hr
          have := pow_pos q.2
          unfold Apart at h1 hap ⊢
          omega
      · intro r hr
        rcases List.mem_cons.1 hr with rfl | hr
        · exact ⟨r, by simp, rfl, Nat.le_refl _⟩
        · exact hanch r hr
      · intro x
        rw [hcov, cover_cons, h.cover]
        exact Or.comm
def stackOf (l : List Pf) : List Pf := l.foldl stepS []
theorem stackOf_snoc (l : List Pf) (p : Pf) : stackOf (l ++ [p]) = stepS (stackOf l) p := by unfold stackOf; rw [List.foldl_append]; rfl
theorem stackOf_take (l : List Pf) (k : Nat) (h : k < l.length) : stackOf (l.take (k + 1)) = stepS (stackOf (l.take k)) l[k] := by
  rw [List.take_succ_eq_append_getElem h, stackOf_snoc]
theorem stackOf_ok : ∀ (n : Nat) (l : List Pf), l.length = n → (∀ p ∈ l, V p) → l.Pairwise Le → Stack (stackOf l) l
  | 0, l, hn, _, _ => by
    have : l = [] := List.eq_nil_of_length_eq_zero hn
    subst this
    exact ⟨by simp [stackOf], by simp [stackOf], by simp [stackOf], by simp [stackOf], fun x => Iff.rfl⟩
  | n + 1, l, hn, hv, hs => by
    have hne : l ≠ [] := by rintro rfl; simp at hn
    rw [← List.dropLast_concat_getLast hne] at hv hs ⊢
    rw [List.pairwise_append] at hs
    rw [stackOf_snoc]
    exact step_stack (stackOf_ok n l.dropLast (by simp [hn]) (fun p hp => hv p (by simp [hp])) hs.1) (hv _ (by simp)) (fun d hd => hs.2.2 d hd _ (by simp))
/-- The fewest prefixes of a sorted list. -/
def fewS (l : List Pf) : List Pf := (stackOf l).reverse
theorem fewS_ok {l : List Pf} (hv : ∀ p ∈ l, V p) (hs : l.Pairwise Le) : Canon (fewS l) ∧ ∀ x, Cover (fewS l) x ↔ Cover l x := by
  have h := stackOf_ok _ l rfl hv hs
  unfold fewS
  refine ⟨⟨fun p hp => h.v p (by simpa using hp), List.pairwise_reverse.2 h.apart, fun p hp q hq => h.sib p (by simpa using hp) q (by simpa using hq)⟩, fun x => ?_⟩
  rw [← h.cover]
  unfold Cover
  simp only [List.mem_reverse]
theorem mergeS_length : ∀ (n : Nat) (l : List Pf), l.length = n → (mergeS l).length ≤ l.length
  | 0, l, h => by have : l = [] := List.eq_nil_of_length_eq_zero h; subst this; simp [mergeS]
  | 1, l, h => by
    match l, h with
    | [p], _ => simp [mergeS]
  | n + 2, l, h => by
    match l, h with
    | p :: q :: t, h =>
      rw [mergeS]
      split
      · have := mergeS_length (n + 1) ((q.1, q.2 + 1) :: t) (by simp at h ⊢; omega)
        simp only [List.length_cons] at this ⊢
        omega
      · exact Nat.le_refl _
theorem stepS_length (S : List Pf) (p : Pf) : (stepS S p).length ≤ S.length + 1 := by
  unfold stepS
  split
  · rename_i q t
    split
    · omega
    · have := mergeS_length _ (p :: q :: t) rfl
      simpa using this
  · simp
theorem stackOf_length : ∀ (n : Nat) (l : List Pf), l.length = n → (stackOf l).length ≤ l.length
  | 0, l, h => by have : l = [] := List.eq_nil_of_length_eq_zero h; subst this; simp [stackOf]
  | n + 1, l, h => by
    have hne : l ≠ [] := by rintro rfl; simp at h
    rw [← List.dropLast_concat_getLast hne, stackOf_snoc]
    have h1 := stackOf_length n l.dropLast (by simp [h])
    have h2 := stepS_length (stackOf l.dropLast) (l.getLast hne)
    simp only [List.length_append, List.length_cons, List.length_nil]
    omega
end Go.Proofs.YtfgpppgehbpblaaDoor.Px
