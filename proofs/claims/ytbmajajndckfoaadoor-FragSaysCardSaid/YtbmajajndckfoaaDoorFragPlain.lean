/- Parts of a text: what of it they cover. -/
import Derived.Test.YtbmajajndckfoaaDoorPartRow
namespace Go.Proofs.YtbmajajndckfoaaDoor
/-- A part of a text. -/
structure Pof (t : ByteArray) (p : Pt) : Prop where
  p0 : 0 ≤ p.1
  le : p.1.toNat + p.2.2.size ≤ t.size
  get : ∀ j (h : j < p.2.2.size) (h' : p.1.toNat + j < t.size), p.2.2[j] = t[p.1.toNat + j]
  last : p.2.1 = false → p.1.toNat + p.2.2.size = t.size
def inP (p : Pt) (i : Nat) : Bool := decide (p.1.toNat ≤ i ∧ i < p.1.toNat + p.2.2.size)
def covB (ps : List Pt) (i : Nat) : Bool := ps.any fun p => inP p i
def endB (ps : List Pt) : Bool := ps.any fun p => !p.2.1
/-- The bytes of a text, and -1 where no part has been. -/
def txt (t : ByteArray) (c : Nat → Bool) (i : Nat) : Int := if c i then ((t.get! i).toNat : Int) else -1
theorem covB_snoc (ps : List Pt) (p : Pt) (i : Nat) : covB (ps ++ [p]) i = (covB ps i || inP p i) := by simp [covB]
theorem endB_snoc (ps : List Pt) (p : Pt) : endB (ps ++ [p]) = (endB ps || !p.2.1) := by simp [endB]
/-- Is the text whole? -/
def wholeB (t : ByteArray) (ps : List Pt) : Bool := endB ps && (List.range t.size).all (covB ps)
theorem covB_lt {t : ByteArray} {ps : List Pt} (h : ∀ p ∈ ps, Pof t p) {i : Nat} (hc : covB ps i = true) : i < t.size := by
  simp only [covB, List.any_eq_true, inP, decide_eq_true_eq] at hc
  obtain ⟨p, hp, h1, h2⟩ := hc
  have := (h p hp).le
  omega
/-- The part from k * size on. -/
def partAt (t : ByteArray) (size k : Nat) : Pt := (((k * size : Nat) : Int), decide (min (k * size + size) t.size < t.size), t.extract (k * size) (min (k * size + size) t.size))
def partsL (t : ByteArray) (size m : Nat) : List Pt := (List.range m).map (partAt t size)
theorem partsL_len (t : ByteArray) (size m : Nat) : (partsL t size m).length = m := by simp [partsL]
theorem partsL_succ (t : ByteArray) (size m : Nat) : partsL t size (m + 1) = partsL t size m ++ [partAt t size m] := by simp [partsL, List.range_succ]
/-- So many parts. -/
structure Cuts (t : ByteArray) (size m : Nat) : Prop where
  one : 1 ≤ m
  before : m = 1 ∨ (m - 1) * size < t.size
  all : t.size ≤ m * size
theorem part_of {t : ByteArray} {size k : Nat} (hk : k * size ≤ t.size) : Pof t (partAt t size k) := by
  have hs : (t.extract (k * size) (min (k * size + size) t.size)).size = min (k * size + size) t.size - k * size := by simp [ByteArray.size_extract]
  refine ⟨by simp only [partAt]; exact Int.natCast_nonneg _, ?_, ?_, ?_⟩
  · simp only [partAt, Int.toNat_natCast, hs]; omega
  · intro j h h'
    simp only [partAt, Int.toNat_natCast] at h h' ⊢
    simp [ByteArray.getElem_extract]
  · intro h
    simp only [partAt, decide_eq_false_iff_not, Int.toNat_natCast, hs] at h ⊢
    omega
theorem Cuts.lt {t : ByteArray} {size m : Nat} (h : Cuts t size m) {k : Nat} (hk : k < m) : k * size ≤ t.size := by
  rcases h.before with h1 | h1
  · obtain rfl : k = 0 := by omega
    simp
  · have : k * size ≤ (m - 1) * size := Nat.mul_le_mul_right _ (by omega)
    omega
theorem cut_of {t : ByteArray} {size m : Nat} (h : Cuts t size m) : ∀ p ∈ partsL t size m, Pof t p := by
  intro p hp
  simp only [partsL, List.mem_map, List.mem_range] at hp
  obtain ⟨k, hk, rfl⟩ := hp
  exact part_of (h.lt hk)
theorem partAt_in {t : ByteArray} {size k : Nat} (hk : k * size ≤ t.size) (i : Nat) : inP (partAt t size k) i = true ↔ (k * size ≤ i ∧ i < k * size + size ∧ i < t.size) := by
  have hs : (t.extract (k * size) (min (k * size + size) t.size)).size = min (k * size + size) t.size - k * size := by simp [ByteArray.size_extract]
  simp only [inP, partAt, Int.toNat_natCast, hs, decide_eq_true_eq]
  omega
/-- All parts of a text are the text. -/
theorem cut_whole {t : ByteArray} {size m : Nat} (h : Cuts t size m) (h0 : 0 < size) {ps : List Pt} (hps : ∀ p ∈ partsL t size m, p ∈ ps) : wholeB t ps = true := by
  have hm := h.one
  have hall := h.all
  have hmem : ∀ k, k < m → partAt t size k ∈ ps := fun k hk => hps _ (by simp only [partsL, List.mem_map, List.mem_range]; exact ⟨k, hk, rfl⟩)
  simp only [wholeB, Bool.and_eq_true]
  constructor
  · simp only [endB, List.any_eq_true]
    refine ⟨_, hmem (m - 1) (by omega), ?_⟩
    have : (m - 1) * size + size = m * size := by
      obtain ⟨j, rfl⟩ : ∃ j, m = j + 1 := ⟨m - 1, by omega⟩
      rw [Nat.add_sub_cancel, Nat.succ_mul]
    simp only [partAt, Bool.not_eq_true', decide_eq_false_iff_not]
    omega
  · rw [List.all_eq_true]
    intro i hi
    have hi' : i < t.size := by simpa using hi
    simp only [covB, List.any_eq_true]
    have h1 : i / size < m := by
      rw [Nat.div_lt_iff_lt_mul h0]; omega
    refine ⟨_, hmem (i / size) h1, (partAt_in (h.lt h1) i).2 ?_⟩
    have h3 := Nat.div_add_mod i size
    have h4 := Nat.mod_lt i h0
    rw [Nat.mul_comm] at h3
    omega
/-- What covers as much is as whole. -/
theorem whole_of {t : ByteArray} {ps qs : List Pt} (hw : wholeB t qs = true) (hc : ∀ p ∈ qs, (∀ i, inP p i = true → covB ps i = true) ∧ (p.2.1 = false → endB ps = true)) : wholeB t ps = true := by
  simp only [wholeB, Bool.and_eq_true, List.all_eq_true, List.mem_range] at hw ⊢
  obtain ⟨h1, h2⟩ := hw
  constructor
  · simp only [endB, List.any_eq_true] at h1
    obtain ⟨p, hp, hp2⟩ := h1
    exact (hc p hp).2 (by simpa using hp2)
  · intro i hi
    have := h2 i hi
    simp only [covB, List.any_eq_true] at this
    obtain ⟨p, hp, hp2⟩ := this
    exact (hc p hp).1 i hp2
theorem covB_mem {ps : List Pt} {p : Pt} (hp : p ∈ ps) {i : Nat} (h : inP p i = true) : covB ps i = true := by
  simp only [covB, List.any_eq_true]
  exact ⟨p, hp, h⟩
theorem endB_mem {ps : List Pt} {p : Pt} (hp : p ∈ ps) (h : p.2.1 = false) : endB ps = true := by
  simp only [endB, List.any_eq_true]
  exact ⟨p, hp, by simp [h]⟩
/-- Parts of a part, that stand where it stands. -/
def shift (p q : Pt) : Pt := (q.1 + p.1, q.2.1 || p.2.1, q.2.2)
theorem shift_of {t : ByteArray} {p q : Pt} (hp : Pof t p) (hq : Pof p.2.2 q) : Pof t (shift p q) := by
  have h1 := hp.p0
  have h2 := hq.p0
  have h3 := hp.le
  have h4 := hq.le
  have e : (q.1 + p.1).toNat = p.1.toNat + q.1.toNat := by omega
  refine ⟨by simp only [shift]; omega, by simp only [shift]; omega, ?_, ?_⟩
  · intro j h h'
    simp only [shift] at h h' ⊢
    rw [hq.get j h (by omega), hp.get (q.1.toNat + j) (by omega) (by omega)]
    congr 1
    omega
  · intro h
    simp only [shift, Bool.or_eq_false_iff] at h ⊢
    have := hp.last h.2
    have := hq.last h.1
    omega
theorem shift_in {p q : Pt} (h1 : 0 ≤ p.1) (h2 : 0 ≤ q.1) (i : Nat) : inP (shift p q) (p.1.toNat + i) = inP q i := by
  have e : (q.1 + p.1).toNat = p.1.toNat + q.1.toNat := by omega
  simp only [inP, shift, e, decide_eq_decide]
  omega
theorem Cuts.mem {t : ByteArray} {size m k : Nat} (hk : k < m) : partAt t size k ∈ partsL t size m := by
  simp only [partsL, List.mem_map, List.mem_range]
  exact ⟨k, hk, rfl⟩
theorem partsL_get {t : ByteArray} {size m k : Nat} (hk : k < (partsL t size m).length) : (partsL t size m)[k] = partAt t size k := by simp [partsL]
/-- All parts but one. -/
def butL (t : ByteArray) (size m k : Nat) : List Pt := (partsL t size m).take k ++ (partsL t size m).drop (k + 1)
theorem but_mem {t : ByteArray} {size m k : Nat} {p : Pt} : p ∈ butL t size m k ↔ ∃ j, j < m ∧ j ≠ k ∧ p = partAt t size j := by
  simp only [butL, List.mem_append, List.mem_take_iff_getElem, List.mem_drop_iff_getElem, partsL_get, partsL_len]
  constructor
  · rintro (⟨i, h, rfl⟩ | ⟨i, h, rfl⟩)
    · exact ⟨i, by omega, by omega, rfl⟩
    · exact ⟨k + 1 + i, by omega, by omega, by simp⟩
  · rintro ⟨j, h1, h2, rfl⟩
    by_cases h : j < k
    · exact .inl ⟨j, by omega, rfl⟩
    · exact .inr ⟨j - (k + 1), by omega, by congr 1; omega⟩
theorem but_of {t : ByteArray} {size m k : Nat} (h : Cuts t size m) : ∀ p ∈ butL t size m k, Pof t p := by
  intro p hp
  obtain ⟨j, hj, _, rfl⟩ := but_mem.1 hp
  exact part_of (h.lt hj)
/-- What is cut again is the text still. -/
theorem again_whole {t : ByteArray} {size m k less m' : Nat} (h : Cuts t size m) (h0 : 0 < size) (hk : k < m) (h' : Cuts (partAt t size k).2.2 less m') (h0' : 0 < less) :
    wholeB t ((partsL (partAt t size k).2.2 less m').map (shift (partAt t size k)) ++ butL t size m k) = true := by
  have hp := part_of (h.lt hk)
  have hw := cut_whole h' h0' (ps := partsL (partAt t size k).2.2 less m') (fun _ h => h)
  refine whole_of (cut_whole h h0 (ps := partsL t size m) (fun _ h => h)) fun p hp' => ?_
  simp only [partsL, List.mem_map, List.mem_range] at hp'
  obtain ⟨j, hj, rfl⟩ := hp'
  by_cases hjk : j = k
  · subst hjk
    simp only [wholeB, Bool.and_eq_true, List.all_eq_true, List.mem_range] at hw
    obtain ⟨w1, w2⟩ := hw
    constructor
    · intro i hi
      have hi' := hi
      simp only [inP, decide_eq_true_eq] at hi'
      have h1 := w2 (i - (partAt t size j).1.toNat) (by omega)
      simp only [covB, List.any_eq_true] at h1
      obtain ⟨q, hq, hq1⟩ := h1
      refine covB_mem (p := shift (partAt t size j) q) (List.mem_append_left _ (List.mem_map_of_mem hq)) ?_
      have := shift_in hp.p0 (cut_of h' q hq).p0 (i - (partAt t size j).1.toNat)
      rw [hq1, show (partAt t size j).1.toNat + (i - (partAt t size j).1.toNat) = i from by omega] at this
      exact this
    · intro hl
      simp only [endB, List.any_eq_true] at w1
      obtain ⟨q, hq, hq1⟩ := w1
      refine endB_mem (p := shift (partAt t size j) q) (List.mem_append_left _ (List.mem_map_of_mem hq)) ?_
      simp only [shift, hl, Bool.or_false]
      simpa using hq1
  · have hm : partAt t size j ∈ (partsL (partAt t size k).2.2 less m').map (shift (partAt t size k)) ++ butL t size m k := List.mem_append_right _ (but_mem.2 ⟨j, hj, hjk, rfl⟩)
    exact ⟨fun i hi => covB_mem hm hi, fun hl => endB_mem hm hl⟩
/-- What lacks is seen. -/
theorem but_lacks {t : ByteArray} {size m k : Nat} (h : Cuts t size m) (h0 : 0 < size) (hk : k < m) : wholeB t (butL t size m k) = false := by
  rw [Bool.eq_false_iff]
  intro hw
  simp only [wholeB, Bool.and_eq_true, List.all_eq_true, List.mem_range] at hw
  obtain ⟨w1, w2⟩ := hw
  by_cases ht : k * size < t.size
  · have h1 := w2 (k * size) ht
    simp only [covB, List.any_eq_true] at h1
    obtain ⟨p, hp, hp1⟩ := h1
    obtain ⟨j, hj, hjk, rfl⟩ := but_mem.1 hp
    obtain ⟨g1, g2, _⟩ := (partAt_in (h.lt hj) _).1 hp1
    have a1 : j ≤ k := Nat.le_of_mul_le_mul_right g1 h0
    have a2 : k * size < (j + 1) * size := by rw [Nat.succ_mul]; exact g2
    have a3 : k < j + 1 := Nat.lt_of_mul_lt_mul_right a2
    omega
  · rcases h.before with hm | hm
    · simp only [endB, List.any_eq_true] at w1
      obtain ⟨p, hp, _⟩ := w1
      obtain ⟨j, hj, hjk, _⟩ := but_mem.1 hp
      omega
    · have : k * size ≤ (m - 1) * size := Nat.mul_le_mul_right _ (by omega)
      omega
end Go.Proofs.YtbmajajndckfoaaDoor
