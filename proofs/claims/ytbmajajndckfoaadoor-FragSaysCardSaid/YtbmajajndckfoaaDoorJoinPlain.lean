/- What joining parts of a text answers, in plain lists. -/
import Derived.Test.YtbmajajndckfoaaDoorFragPlain
namespace Go.Proofs.YtbmajajndckfoaaDoor
/-- May it be? -/
def okP (p : Pt) : Prop := 0 ≤ p.1 ∧ p.1 ≤ 200 ∧ (p.2.2.size : Int) ≤ 200 - p.1
instance (p : Pt) : Decidable (okP p) := inferInstanceAs (Decidable (_ ∧ _ ∧ _))
def byteI (s : ByteArray) (i : Nat) : Int := ((s.get! i).toNat : Int)
theorem byteI_range (s : ByteArray) (i : Nat) : 0 ≤ byteI s i ∧ byteI s i ≤ 255 := by
  unfold byteI
  have := (s.get! i).toNat_lt
  omega
/-- The first k bytes of s, put from a on. -/
def putF (f : Nat → Int) (a : Nat) (s : ByteArray) (k : Nat) : Nat → Int := fun i => if a ≤ i ∧ i < a + k then byteI s (i - a) else f i
theorem putF_zero (f : Nat → Int) (a : Nat) (s : ByteArray) : putF f a s 0 = f := by
  funext i
  unfold putF
  rw [if_neg (by omega)]
theorem putF_succ (f : Nat → Int) (a : Nat) (s : ByteArray) (k : Nat) : putF f a s (k + 1) = fun i => if i = a + k then byteI s k else putF f a s k i := by
  funext i
  unfold putF
  by_cases h : i = a + k
  · rw [if_pos (by omega), if_pos h, show i - a = k from by omega]
  · rw [if_neg h]
    by_cases h2 : a ≤ i ∧ i < a + k
    · rw [if_pos h2, if_pos (by omega)]
    · rw [if_neg h2, if_neg (by omega)]
theorem putF_at (f : Nat → Int) (a : Nat) (s : ByteArray) (k : Nat) : putF f a s k (a + k) = f (a + k) := by
  unfold putF
  rw [if_neg (by omega)]
/-- Do the first k bytes of s stand against what is there? -/
def clashF (f : Nat → Int) (a : Nat) (s : ByteArray) (k : Nat) : Prop := ∃ i, i < k ∧ 0 ≤ f (a + i) ∧ f (a + i) ≠ byteI s i
def clashB (f : Nat → Int) (a : Nat) (s : ByteArray) (k : Nat) : Bool := (List.range k).any fun i => decide (0 ≤ f (a + i) ∧ f (a + i) ≠ byteI s i)
theorem clashB_iff (f : Nat → Int) (a : Nat) (s : ByteArray) (k : Nat) : clashB f a s k = true ↔ clashF f a s k := by
  simp [clashB, clashF]
instance (f : Nat → Int) (a : Nat) (s : ByteArray) (k : Nat) : Decidable (clashF f a s k) := decidable_of_iff _ (clashB_iff f a s k)
theorem clash_zero (f : Nat → Int) (a : Nat) (s : ByteArray) : ¬ clashF f a s 0 := by rintro ⟨i, h, _⟩; omega
theorem clash_succ {f : Nat → Int} {a : Nat} {s : ByteArray} {k : Nat} (h : ¬ clashF f a s k) (h2 : ¬ (0 ≤ f (a + k) ∧ f (a + k) ≠ byteI s k)) : ¬ clashF f a s (k + 1) := by
  rintro ⟨i, hi, h3⟩
  by_cases e : i = k
  · subst e; exact h2 h3
  · exact h ⟨i, by omega, h3⟩
def endI (p : Pt) : Int := p.1 + (p.2.2.size : Int)
/-- What is wrong with a part, where e is the end and f what is there. -/
def stepE (e : Int) (f : Nat → Int) (p : Pt) : Int :=
  if ¬ okP p then 1 else if p.2.1 = false ∧ 0 ≤ e ∧ e ≠ endI p then 6 else if clashF f p.1.toNat p.2.2 p.2.2.size then 6 else 0
def stepN (e : Int) (p : Pt) : Int := if p.2.1 = true then e else endI p
def stepF (f : Nat → Int) (p : Pt) : Nat → Int := putF f p.1.toNat p.2.2 p.2.2.size
def runJ : List Pt → Int → (Nat → Int) → Int × Int × (Nat → Int)
  | [], e, f => (0, e, f)
  | p :: t, e, f => if stepE e f p = 0 then runJ t (stepN e p) (stepF f p) else (stepE e f p, e, f)
theorem runJ_bad {p : Pt} {t : List Pt} {e : Int} {f : Nat → Int} (h : stepE e f p ≠ 0) : runJ (p :: t) e f = (stepE e f p, e, f) := by rw [runJ, if_neg h]
theorem runJ_ok {p : Pt} {t : List Pt} {e : Int} {f : Nat → Int} (h : stepE e f p = 0) : runJ (p :: t) e f = runJ t (stepN e p) (stepF f p) := by rw [runJ, if_pos h]
/-- What is wrong behind all parts. -/
def gapP (e : Int) (f : Nat → Int) : Prop := ∃ i, i < e.toNat ∧ f i < 0
def gapB (e : Int) (f : Nat → Int) : Bool := (List.range e.toNat).any fun i => decide (f i < 0)
theorem gapB_iff (e : Int) (f : Nat → Int) : gapB e f = true ↔ gapP e f := by simp [gapB, gapP]
instance (e : Int) (f : Nat → Int) : Decidable (gapP e f) := decidable_of_iff _ (gapB_iff e f)
def overP (e : Int) (f : Nat → Int) : Prop := ∃ i : Nat, i < 200 ∧ e ≤ (i : Int) ∧ 0 ≤ f i
def overB (e : Int) (f : Nat → Int) : Bool := (List.range 200).any fun i => decide (e ≤ (i : Int) ∧ 0 ≤ f i)
theorem overB_iff (e : Int) (f : Nat → Int) : overB e f = true ↔ overP e f := by simp [overB, overP]
instance (e : Int) (f : Nat → Int) : Decidable (overP e f) := decidable_of_iff _ (overB_iff e f)
def finE (e : Int) (f : Nat → Int) : Int := if e < 0 ∨ gapP e f then 5 else if overP e f then 6 else 0
def outJ (e : Int) (f : Nat → Int) : ByteArray := ⟨((List.range e.toNat).map fun i => UInt8.ofNat (f i).toNat).toArray⟩
def resE (r : Int × Int × (Nat → Int)) : Int := if r.1 = 0 then finE r.2.1 r.2.2 else r.1
def startF : Nat → Int := fun _ => -1
def joinE (ps : List Pt) : Int := if 40 < ps.length then 4 else resE (runJ ps (-1) startF)
def joinT (ps : List Pt) : ByteArray := if joinE ps = 0 then outJ (runJ ps (-1) startF).2.1 (runJ ps (-1) startF).2.2 else ⟨#[]⟩
/-- What holds of the end and of what is there. -/
structure InvJ (e : Int) (f : Nat → Int) : Prop where
  e0 : -1 ≤ e
  e1 : e ≤ 200
  f0 : ∀ i, -1 ≤ f i ∧ f i ≤ 255
theorem InvJ.start : InvJ (-1) startF := ⟨by omega, by omega, fun i => by unfold startF; omega⟩
theorem InvJ.step {e : Int} {f : Nat → Int} (h : InvJ e f) {p : Pt} (hp : okP p) : InvJ (stepN e p) (stepF f p) := by
  obtain ⟨h1, h2, h3⟩ := hp
  refine ⟨?_, ?_, ?_⟩
  · unfold stepN endI
    split
    · exact h.e0
    · omega
  · unfold stepN endI
    split
    · exact h.e1
    · omega
  · intro i
    unfold stepF putF
    split
    · have := byteI_range p.2.2 (i - p.1.toNat)
      omega
    · exact h.f0 i
theorem stepE_ok {e : Int} {f : Nat → Int} {p : Pt} (h : stepE e f p = 0) : okP p ∧ (p.2.1 = false → 0 ≤ e → e = endI p) ∧ ¬ clashF f p.1.toNat p.2.2 p.2.2.size := by
  unfold stepE at h
  split at h
  · omega
  · rename_i h1
    split at h
    · omega
    · rename_i h2
      split at h
      · omega
      · rename_i h3
        refine ⟨Decidable.not_not.1 h1, fun g1 g2 => Decidable.not_not.1 fun g3 => h2 ⟨g1, g2, g3⟩, h3⟩
theorem stepE_cases (e : Int) (f : Nat → Int) (p : Pt) : stepE e f p = 0 ∨ stepE e f p = 1 ∨ stepE e f p = 6 := by
  unfold stepE
  split
  · simp
  · split
    · simp
    · split <;> simp
/-- Behind parts that go together all of them are there, and nothing else. -/
theorem runJ_all : ∀ (ps : List Pt) (e : Int) (f : Nat → Int) (e' : Int) (f' : Nat → Int), runJ ps e f = (0, e', f') →
    (∀ p ∈ ps, okP p ∧ (p.2.1 = false → e' = endI p) ∧ ∀ j, j < p.2.2.size → f' (p.1.toNat + j) = byteI p.2.2 j) ∧ (∀ i, 0 ≤ f i → f' i = f i) ∧ (∀ i, 0 ≤ f' i → 0 ≤ f i ∨ covB ps i = true) ∧ (0 ≤ e → e' = e) ∧ (0 ≤ e' → 0 ≤ e ∨ endB ps = true)
  | [], e, f, e', f', h => by
    simp only [runJ, Prod.mk.injEq, true_and] at h
    obtain ⟨rfl, rfl⟩ := h
    exact ⟨by simp, fun _ _ => rfl, fun _ h => .inl h, fun _ => rfl, fun h => .inl h⟩
  | p :: t, e, f, e', f', h => by
    by_cases hs : stepE e f p = 0
    · rw [runJ_ok hs] at h
      obtain ⟨i1, i2, i3, i4, i5⟩ := runJ_all t _ _ _ _ h
      obtain ⟨g1, g2, g3⟩ := stepE_ok hs
      have hput : ∀ j, j < p.2.2.size → f' (p.1.toNat + j) = byteI p.2.2 j := by
        intro j hj
        have e1 : stepF f p (p.1.toNat + j) = byteI p.2.2 j := by
          unfold stepF putF
          rw [if_pos (by omega), Nat.add_sub_cancel_left]
        rw [i2 _ (by rw [e1]; exact (byteI_range _ _).1), e1]
      have hend : p.2.1 = false → e' = endI p := by
        intro hm
        have e1 : stepN e p = endI p := by unfold stepN; rw [hm]; simp
        rw [i4 (by rw [e1]; unfold endI; have := g1.1; omega), e1]
      refine ⟨?_, ?_, ?_, ?_, ?_⟩
      · intro q hq
        rcases List.mem_cons.1 hq with rfl | hq
        · exact ⟨g1, hend, hput⟩
        · exact i1 q hq
      · intro i hi
        have e1 : stepF f p i = f i := by
          unfold stepF putF
          split
          · rename_i hin
            by_cases hne : f i = byteI p.2.2 (i - p.1.toNat)
            · exact hne.symm
            · exact absurd ⟨i - p.1.toNat, by omega, by rw [show p.1.toNat + (i - p.1.toNat) = i from by omega]; exact ⟨hi, hne⟩⟩ g3
          · rfl
        rw [i2 i (by rw [e1]; exact hi), e1]
      · intro i hi
        rcases i3 i hi with h1 | h1
        · unfold stepF putF at h1
          split at h1
          · rename_i hin
            right
            simp only [covB, List.any_cons, Bool.or_eq_true, inP, decide_eq_true_eq]
            exact .inl hin
          · exact .inl h1
        · right
          simp only [covB, List.any_cons, Bool.or_eq_true] at h1 ⊢
          exact .inr h1
      · intro he
        have e1 : stepN e p = e := by
          unfold stepN
          split
          · rfl
          · rename_i hm
            exact (g2 (by simpa using hm) he).symm
        rw [i4 (by rw [e1]; exact he), e1]
      · intro he
        rcases i5 he with h1 | h1
        · unfold stepN at h1
          split at h1
          · exact .inl h1
          · rename_i hm
            right
            simp only [endB, List.any_cons, Bool.or_eq_true]
            left
            simpa using hm
        · right
          simp only [endB, List.any_cons, Bool.or_eq_true] at h1 ⊢
          exact .inr h1
    · rw [runJ_bad hs] at h
      simp only [Prod.mk.injEq] at h
      exact absurd h.1 hs
theorem outJ_size (e : Int) (f : Nat → Int) : (outJ e f).size = e.toNat := by
  unfold outJ
  simp [ByteArray.size]
theorem outJ_get (e : Int) (f : Nat → Int) (i : Nat) (h : i < (outJ e f).size) : (outJ e f)[i] = UInt8.ofNat (f i).toNat := by
  show (outJ e f).data[i]'h = _
  simp only [outJ, List.getElem_toArray, List.getElem_map, List.getElem_range]
theorem byteI_get (s : ByteArray) (i : Nat) (h : i < s.size) : byteI s i = ((s[i]).toNat : Int) := by
  unfold byteI
  have : s.get! i = s[i] := by
    show s.data[i]! = s.data[i]
    rw [getElem!_pos s.data i h]
  rw [this]
theorem ofNat_byte (s : ByteArray) (i : Nat) (h : i < s.size) : UInt8.ofNat (byteI s i).toNat = s[i] := by
  rw [byteI_get s i h, Int.toNat_natCast, UInt8.ofNat_toNat]
/-- A part goes together with a text. -/
structure Gin (t : ByteArray) (p : Pt) : Prop where
  ok : okP p
  get : ∀ j, j < p.2.2.size → p.1.toNat + j < t.size ∧ byteI p.2.2 j = byteI t (p.1.toNat + j)
  last : p.2.1 = false → endI p = (t.size : Int)
theorem byteI_inj {s t : ByteArray} {i j : Nat} (hi : i < s.size) (hj : j < t.size) (h : byteI s i = byteI t j) : s[i] = t[j] := by
  rw [byteI_get s i hi, byteI_get t j hj] at h
  exact UInt8.toNat_inj.1 (by omega)
theorem gin_of {t : ByteArray} {p : Pt} (h : Pof t p) (ht : t.size ≤ 200) : Gin t p := by
  have h0 := h.p0
  have h1 := h.le
  refine ⟨⟨h0, by omega, by omega⟩, fun j hj => ⟨by omega, ?_⟩, fun hm => ?_⟩
  · rw [byteI_get _ _ hj, byteI_get _ _ (by omega), h.get j hj (by omega)]
  · have := h.last hm
    unfold endI
    omega
/-- What is joined: all parts go together with it, and it is whole. -/
theorem join_good {ps : List Pt} (h : joinE ps = 0) : ps.length ≤ 40 ∧ (joinT ps).size ≤ 200 ∧ (∀ p ∈ ps, Gin (joinT ps) p) ∧ wholeB (joinT ps) ps = true := by
  have h0 := h
  unfold joinE at h
  split at h
  · omega
  rename_i hl
  rcases hr : runJ ps (-1) startF with ⟨x, e, f⟩
  rw [hr] at h
  unfold resE at h
  simp only at h
  split at h
  · rename_i hx
    subst hx
    have hT : joinT ps = outJ e f := by unfold joinT; rw [if_pos h0, hr]
    obtain ⟨i1, i2, i3, i4, i5⟩ := runJ_all _ _ _ _ _ hr
    unfold finE at h
    split at h
    · omega
    rename_i hg
    split at h
    · omega
    rename_i ho
    have he0 : 0 ≤ e := by
      rcases Int.lt_or_le e 0 with h1 | h1
      · exact absurd (.inl h1) hg
      · exact h1
    have hend : endB ps = true := by
      rcases i5 he0 with h1 | h1
      · omega
      · exact h1
    have he2 : e ≤ 200 := by
      have hend2 := hend
      simp only [endB, List.any_eq_true] at hend2
      obtain ⟨p, hp, hm⟩ := hend2
      obtain ⟨g1, g2, _⟩ := i1 p hp
      rw [g2 (by simpa using hm)]
      have := g1.2.2
      unfold endI
      omega
    rw [hT]
    refine ⟨by omega, by rw [outJ_size]; omega, fun p hp => ?_, ?_⟩
    · obtain ⟨g1, g2, g3⟩ := i1 p hp
      refine ⟨g1, fun j hj => ?_, fun hm => ?_⟩
      · have h1 := g3 j hj
        have h2 := (byteI_range p.2.2 j).1
        have h22 := (byteI_range p.2.2 j).2
        rw [← h1] at h2
        have hlt : p.1.toNat + j < e.toNat := by
          have h3 : ¬ (e ≤ ((p.1.toNat + j : Nat) : Int)) := fun h4 => ho ⟨_, by have := g1.2.2; have := g1.1; omega, h4, h2⟩
          omega
        refine ⟨by rw [outJ_size]; exact hlt, ?_⟩
        rw [byteI_get (outJ e f) _ (by rw [outJ_size]; exact hlt), outJ_get, h1]
        have h5 : (byteI p.2.2 j).toNat < 256 := by omega
        rw [UInt8.toNat_ofNat_of_lt' h5]
        omega
      · rw [outJ_size, ← g2 hm]; omega
    · simp only [wholeB, Bool.and_eq_true, List.all_eq_true, List.mem_range, outJ_size]
      refine ⟨hend, fun i hi => ?_⟩
      have h1 : 0 ≤ f i := by
        rcases Int.lt_or_le (f i) 0 with h1 | h1
        · exact absurd (.inr ⟨i, hi, h1⟩) hg
        · exact h1
      rcases i3 i h1 with h2 | h2
      · unfold startF at h2; omega
      · exact h2
  · omega
/-- What parts of a text leave there. -/
theorem runJ_of {t : ByteArray} : ∀ (ps : List Pt) (e : Int) (f : Nat → Int), (∀ p ∈ ps, Gin t p) → (e = -1 ∨ e = (t.size : Int)) → (∀ i, f i = -1 ∨ (i < t.size ∧ f i = byteI t i)) →
    ∃ e' f', runJ ps e f = (0, e', f') ∧ (e' = -1 ∨ e' = (t.size : Int)) ∧ (∀ i, f' i = -1 ∨ (i < t.size ∧ f' i = byteI t i))
  | [], e, f, _, he, hf => ⟨e, f, rfl, he, hf⟩
  | p :: r, e, f, hp, he, hf => by
    have hg := hp p (by simp)
    have hs : stepE e f p = 0 := by
      unfold stepE
      rw [if_neg (fun h => h hg.ok), if_neg, if_neg]
      · rintro ⟨j, hj, h1, h2⟩
        obtain ⟨g1, g2⟩ := hg.get j hj
        rcases hf (p.1.toNat + j) with h3 | h3
        · omega
        · exact h2 (by rw [h3.2, g2])
      · rintro ⟨h1, h2, h3⟩
        rw [hg.last h1] at h3
        omega
    rw [runJ_ok hs]
    refine runJ_of r _ _ (fun q hq => hp q (by simp [hq])) ?_ ?_
    · unfold stepN
      split
      · exact he
      · rename_i hm
        exact .inr (hg.last (by simpa using hm))
    · intro i
      unfold stepF putF
      split
      · rename_i hin
        obtain ⟨g1, g2⟩ := hg.get (i - p.1.toNat) (by omega)
        rw [show p.1.toNat + (i - p.1.toNat) = i from by omega] at g1 g2
        exact .inr ⟨g1, g2⟩
      · exact hf i
/-- Parts that go together with a text are it, if they are whole. -/
theorem join_of {t : ByteArray} {ps : List Pt} (hl : ps.length ≤ 40) (ht : t.size ≤ 200) (hp : ∀ p ∈ ps, Gin t p) :
    (wholeB t ps = true → joinE ps = 0 ∧ joinT ps = t) ∧ (wholeB t ps = false → joinE ps = 5) := by
  obtain ⟨e, f, hr, he, hf⟩ := runJ_of ps (-1) startF hp (.inl rfl) (fun i => .inl rfl)
  obtain ⟨i1, i2, i3, i4, i5⟩ := runJ_all _ _ _ _ _ hr
  have hJ : joinE ps = finE e f := by
    unfold joinE resE
    rw [if_neg (by omega), hr, if_pos rfl]
  have hno : ¬ overP e f ∨ e = -1 := by
    rcases he with h | h
    · exact .inr h
    · left
      rintro ⟨i, h1, h2, h3⟩
      rcases hf i with h4 | h4
      · omega
      · omega
  have hcov : ∀ i, covB ps i = true → 0 ≤ f i := by
    intro i hi
    simp only [covB, List.any_eq_true, inP, decide_eq_true_eq] at hi
    obtain ⟨p, hp1, h1, h2⟩ := hi
    have := (i1 p hp1).2.2 (i - p.1.toNat) (by omega)
    rw [show p.1.toNat + (i - p.1.toNat) = i from by omega] at this
    rw [this]
    exact (byteI_range _ _).1
  have hendE : endB ps = true → e = (t.size : Int) := by
    intro h
    simp only [endB, List.any_eq_true] at h
    obtain ⟨p, hp1, hm⟩ := h
    have hm' : p.2.1 = false := by simpa using hm
    rw [(i1 p hp1).2.1 hm', (hp p hp1).last hm']
  constructor
  · intro hw
    simp only [wholeB, Bool.and_eq_true, List.all_eq_true, List.mem_range] at hw
    obtain ⟨w1, w2⟩ := hw
    have he' := hendE w1
    have h0 : joinE ps = 0 := by
      rw [hJ]
      unfold finE
      rw [if_neg, if_neg]
      · rcases hno with h | h
        · exact h
        · omega
      · rintro (h | ⟨i, h1, h2⟩)
        · omega
        · have := hcov i (w2 i (by omega))
          omega
    refine ⟨h0, ?_⟩
    unfold joinT
    rw [if_pos h0, hr]
    simp only
    refine ByteArray.ext_getElem (by rw [outJ_size]; omega) fun i h1 h2 => ?_
    rw [outJ_get]
    rcases hf i with h3 | h3
    · have := hcov i (w2 i h2)
      omega
    · rw [h3.2, ofNat_byte _ _ h2]
  · intro hw
    rw [hJ]
    unfold finE
    rw [if_pos]
    rcases he with h | h
    · exact .inl (by omega)
    · right
      apply Decidable.byContradiction
      intro hng
      have : wholeB t ps = true := by
        simp only [wholeB, Bool.and_eq_true, List.all_eq_true, List.mem_range]
        refine ⟨?_, fun i hi => ?_⟩
        · rcases i5 (by omega) with h1 | h1
          · omega
          · exact h1
        · rcases Int.lt_or_le (f i) 0 with h1 | h1
          · exact absurd ⟨i, by omega, h1⟩ hng
          · rcases i3 i h1 with h2 | h2
            · unfold startF at h2; omega
            · exact h2
      rw [hw] at this
      cases this
/-- In whatever order: as many parts that are the same answer the same. -/
theorem join_perm {l m : List Pt} (hlen : m.length = l.length) (hmem : ∀ p, p ∈ m ↔ p ∈ l) : (joinE l = 0 ↔ joinE m = 0) ∧ joinT l = joinT m := by
  have hw : ∀ t, wholeB t l = wholeB t m := by
    intro t
    have hc : ∀ i, covB l i = covB m i := by
      intro i
      rw [Bool.eq_iff_iff]
      simp only [covB, List.any_eq_true, hmem]
    have he : endB l = endB m := by
      rw [Bool.eq_iff_iff]
      simp only [endB, List.any_eq_true, hmem]
    unfold wholeB
    rw [he, funext hc]
  have key : ∀ {a b : List Pt}, b.length = a.length → (∀ p, p ∈ b ↔ p ∈ a) → (∀ t, wholeB t a = wholeB t b) → joinE a = 0 → joinE b = 0 ∧ joinT b = joinT a := by
    intro a b h1 h2 h3 h4
    obtain ⟨g1, g2, g3, g4⟩ := join_good h4
    exact (join_of (by omega) g2 (fun p hp => g3 p ((h2 p).1 hp))).1 (by rw [← h3]; exact g4)
  have k1 := key hlen hmem hw
  have k2 := key hlen.symm (fun p => (hmem p).symm) (fun t => (hw t).symm)
  refine ⟨⟨fun h => (k1 h).1, fun h => (k2 h).1⟩, ?_⟩
  by_cases h : joinE l = 0
  · exact (k1 h).2.symm
  · have h2 : joinE m ≠ 0 := fun e => h (k2 e).1
    unfold joinT
    rw [if_neg h, if_neg h2]
theorem join_bad {ps t : List Pt} {p : Pt} {e x : Int} {f : Nat → Int} (hl : ps.length ≤ 40) (h : runJ ps (-1) startF = runJ (p :: t) e f) (hx : stepE e f p = x) (h0 : x ≠ 0) : joinE ps = x ∧ joinT ps = ⟨#[]⟩ := by
  rw [runJ_bad (by rw [hx]; exact h0), hx] at h
  have h1 : joinE ps = x := by
    unfold joinE resE
    rw [if_neg (by omega), h, if_neg h0]
  exact ⟨h1, by unfold joinT; rw [if_neg (by rw [h1]; exact h0)]⟩
theorem join_next {ps t : List Pt} {p : Pt} {e : Int} {f : Nat → Int} (h : runJ ps (-1) startF = runJ (p :: t) e f) (hx : stepE e f p = 0) : runJ ps (-1) startF = runJ t (stepN e p) (stepF f p) := by
  rw [h, runJ_ok hx]
theorem join_end {ps : List Pt} {e : Int} {f : Nat → Int} (hl : ps.length ≤ 40) (h : runJ ps (-1) startF = runJ [] e f) : joinE ps = finE e f ∧ joinT ps = if finE e f = 0 then outJ e f else ⟨#[]⟩ := by
  have h1 : joinE ps = finE e f := by
    unfold joinE resE
    rw [if_neg (by omega), h, runJ, if_pos rfl]
  refine ⟨h1, ?_⟩
  unfold joinT
  rw [h1, h, runJ]
theorem join_full {ps : List Pt} (hl : 40 < ps.length) : joinE ps = 4 ∧ joinT ps = ⟨#[]⟩ := by
  have h1 : joinE ps = 4 := by unfold joinE; rw [if_pos hl]
  exact ⟨h1, by unfold joinT; rw [h1, if_neg (by omega)]⟩
theorem step_not_ok {e : Int} {f : Nat → Int} {p : Pt} (h : ¬ okP p) : stepE e f p = 1 := by unfold stepE; rw [if_pos h]
theorem step_end {e : Int} {f : Nat → Int} {p : Pt} (h : okP p) (h2 : p.2.1 = false) (h3 : 0 ≤ e) (h4 : e ≠ endI p) : stepE e f p = 6 := by
  unfold stepE
  rw [if_neg (fun g => g h), if_pos ⟨h2, h3, h4⟩]
theorem step_clash {e : Int} {f : Nat → Int} {p : Pt} (h : okP p) (h2 : ¬ (p.2.1 = false ∧ 0 ≤ e ∧ e ≠ endI p)) (h3 : clashF f p.1.toNat p.2.2 p.2.2.size) : stepE e f p = 6 := by
  unfold stepE
  rw [if_neg (fun g => g h), if_neg h2, if_pos h3]
theorem step_ok {e : Int} {f : Nat → Int} {p : Pt} (h : okP p) (h2 : ¬ (p.2.1 = false ∧ 0 ≤ e ∧ e ≠ endI p)) (h3 : ¬ clashF f p.1.toNat p.2.2 p.2.2.size) : stepE e f p = 0 := by
  unfold stepE
  rw [if_neg (fun g => g h), if_neg h2, if_neg h3]
end Go.Proofs.YtbmajajndckfoaaDoor
