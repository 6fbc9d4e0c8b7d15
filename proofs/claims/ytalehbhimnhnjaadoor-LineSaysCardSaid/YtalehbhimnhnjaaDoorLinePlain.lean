/- The plain law of the line codes: lists of numbers alone, no program; and bit operations on small numbers. -/
import Derived.Test.YtalehbhimnhnjaaDoorOwn
import Derived.Laws.BitsAllLaws
import Derived.Laws.BitsLemmas
namespace Go.Proofs.YtalehbhimnhnjaaDoor

theorem and_one (a : Nat) (ha : a < 9223372036854775808) : bits .and .i64 (a : Int) 1 = ((a % 2 : Nat) : Int) := by
  have h1 : (BitVec.ofInt 64 (a : Int)).toNat = a := by
    rw [BitVec.ofInt_natCast, BitVec.toNat_ofNat]; exact Nat.mod_eq_of_lt (by omega)
  show IntKind.i64.wrap ((BitVec.ofInt 64 (a : Int) &&& BitVec.ofInt 64 1).toNat : Int) = _
  rw [BitVec.toNat_and, h1, show (BitVec.ofInt 64 1).toNat = 1 from by decide, Nat.and_one_is_mod, IntKind.wrap_i64]
  omega
theorem and_oneI (x : Int) (h0 : 0 ≤ x) (h1 : x ≤ 1000) : bits .and .i64 x 1 = x % 2 := by
  obtain ⟨a, rfl⟩ := Int.eq_ofNat_of_zero_le h0
  rw [and_one a (by omega)]
  omega
theorem xor_00 : bits .xor .i64 0 0 = 0 := by decide
theorem xor_01 : bits .xor .i64 0 1 = 1 := by decide
theorem xor_10 : bits .xor .i64 1 0 = 1 := by decide
theorem xor_11 : bits .xor .i64 1 1 = 0 := by decide

def codesL : List Int := [30, 9, 20, 21, 10, 11, 14, 15, 18, 19, 22, 23, 26, 27, 28, 29]
def codeI (n : Int) : Int := codesL.getD n.toNat 0
def five (n : Int) : List Int := [codeI n / 16 % 2, codeI n / 8 % 2, codeI n / 4 % 2, codeI n / 2 % 2, codeI n % 2]
def fiveL (xs : List Int) : List Int := xs.flatMap five
theorem fiveL_len (xs : List Int) : (fiveL xs).length = 5 * xs.length := by
  induction xs with
  | nil => rfl
  | cons x t ih => simp only [fiveL, List.flatMap_cons, List.length_append, List.length_cons] at ih ⊢; rw [ih]; simp [five]; omega
theorem fiveL_snoc (xs : List Int) (k : Nat) (h : k < xs.length) : fiveL (xs.take (k + 1)) = fiveL (xs.take k) ++ five xs[k] := by
  unfold fiveL; rw [List.take_succ_eq_append_getElem h, List.flatMap_append, List.flatMap_singleton]
theorem codeI_range (n : Int) (h0 : 0 ≤ n) (h1 : n ≤ 15) : 0 ≤ codeI n ∧ codeI n ≤ 31 := by
  obtain ⟨m, rfl⟩ := Int.eq_ofNat_of_zero_le h0
  have : ∀ m : Nat, m < 16 → 0 ≤ codeI m ∧ codeI m ≤ 31 := by decide
  exact this m (by omega)
def Bits (xs : List Int) : Prop := ∀ b ∈ xs, b = 0 ∨ b = 1
theorem bits_of_all {xs : List Int} : allB xs 0 1 = true ↔ Bits xs := by
  unfold allB Bits
  rw [List.all_eq_true]
  refine forall_congr' fun b => forall_congr' fun _ => ?_
  rw [inB_true]; omega
theorem fiveL_bits (xs : List Int) : Bits (fiveL xs) := by
  intro b hb
  simp only [fiveL, List.mem_flatMap] at hb
  obtain ⟨n, _, hb⟩ := hb
  simp only [five, List.mem_cons, List.not_mem_nil, or_false] at hb
  omega

/-- The noughts at the end of a list. -/
def zeroF (xs : List Int) : Int := xs.foldl (fun k b => if b = 1 then 0 else k + 1) 0
theorem zeroF_append (xs : List Int) (b : Int) : zeroF (xs ++ [b]) = if b = 1 then 0 else zeroF xs + 1 := by
  unfold zeroF; rw [List.foldl_append]; rfl
theorem zeroF_snoc (xs : List Int) (k : Nat) (h : k < xs.length) : zeroF (xs.take (k + 1)) = if xs[k] = 1 then 0 else zeroF (xs.take k) + 1 := by
  rw [List.take_succ_eq_append_getElem h, zeroF_append]
/-- One code behind at most two noughts: three at most anywhere, two at most behind it. -/
theorem five_runs : ∀ (m : Nat), m < 16 → ∀ (z : Nat), z < 3 → ∀ p, p < 6 → (((five m).take p).foldl (fun k b => if b = 1 then (0 : Int) else k + 1) (z : Int)) ≤ 3 ∧ 0 ≤ (((five m).take p).foldl (fun k b => if b = 1 then (0 : Int) else k + 1) (z : Int)) ∧
    ((five m).foldl (fun k b => if b = 1 then (0 : Int) else k + 1) (z : Int)) ≤ 2 := by
  decide +kernel
theorem fiveL_runs : ∀ (xs : List Int), (∀ x ∈ xs, 0 ≤ x ∧ x ≤ 15) → ∀ (z : Nat), z ≤ 2 → ∀ i, ((fiveL xs).take i).foldl (fun k b => if b = 1 then (0 : Int) else k + 1) (z : Int) ≤ 3
  | [], _, z, hz, i => by simp [fiveL]; omega
  | x :: t, hx, z, hz, i => by
    obtain ⟨h0, h1⟩ := hx x (by simp)
    obtain ⟨m, rfl⟩ := Int.eq_ofNat_of_zero_le h0
    have e : fiveL ((m : Int) :: t) = five m ++ fiveL t := by simp [fiveL]
    rw [e, List.take_append]
    have hl : (five (m : Int)).length = 5 := rfl
    by_cases hi : i ≤ 5
    · rw [hl, show i - 5 = 0 from by omega, List.take_zero, List.append_nil]
      exact (five_runs m (by omega) z (by omega) i (by omega)).1
    · rw [List.take_of_length_le (by rw [hl]; omega), List.foldl_append]
      have h2 := five_runs m (by omega) z (by omega) 5 (by omega)
      rw [show (five (m : Int)).take 5 = five m from rfl] at h2
      obtain ⟨z2, hz2⟩ := Int.eq_ofNat_of_zero_le h2.2.1
      rw [hz2]
      exact fiveL_runs t (fun y hy => hx y (by simp [hy])) z2 (by omega) _
theorem fiveL_zeros (xs : List Int) (hx : ∀ x ∈ xs, 0 ≤ x ∧ x ≤ 15) (i : Nat) : zeroF ((fiveL xs).take i) ≤ 3 := fiveL_runs xs hx 0 (by omega) i
theorem zeroF_nonneg (xs : List Int) : 0 ≤ zeroF xs := by
  have : ∀ (l : List Int) (k : Int), 0 ≤ k → 0 ≤ l.foldl (fun k b => if b = 1 then (0 : Int) else k + 1) k := by
    intro l
    induction l with
    | nil => intro k hk; exact hk
    | cons b t ih => intro k hk; simp only [List.foldl_cons]; exact ih _ (by split <;> omega)
  exact this xs 0 (by omega)

/-! ### Turns, Bits -/
def xorB (a b : Int) : Int := (a + b) % 2
theorem xor_bits {a b : Int} (ha : a = 0 ∨ a = 1) (hb : b = 0 ∨ b = 1) : bits .xor .i64 a b = xorB a b := by
  rcases ha with rfl | rfl <;> rcases hb with rfl | rfl <;> decide
def turnStep (s : List Int × Int) (b : Int) : List Int × Int := (s.1 ++ [xorB s.2 b], xorB s.2 b)
def turnSt (xs : List Int) : List Int × Int := xs.foldl turnStep ([], 0)
def turnL (xs : List Int) : List Int := (turnSt xs).1
def backStep (s : List Int × Int) (b : Int) : List Int × Int := (s.1 ++ [xorB b s.2], b)
def backSt (xs : List Int) : List Int × Int := xs.foldl backStep ([], 0)
def backL (xs : List Int) : List Int := (backSt xs).1
theorem xorB_bit (a b : Int) : xorB a b = 0 ∨ xorB a b = 1 := by unfold xorB; omega
theorem turnSt_snoc (xs : List Int) (k : Nat) (h : k < xs.length) : turnSt (xs.take (k + 1)) = turnStep (turnSt (xs.take k)) xs[k] := by
  unfold turnSt; rw [List.take_succ_eq_append_getElem h, List.foldl_append]; rfl
theorem backSt_snoc (xs : List Int) (k : Nat) (h : k < xs.length) : backSt (xs.take (k + 1)) = backStep (backSt (xs.take k)) xs[k] := by
  unfold backSt; rw [List.take_succ_eq_append_getElem h, List.foldl_append]; rfl
theorem turnSt_append (xs : List Int) (b : Int) : turnSt (xs ++ [b]) = turnStep (turnSt xs) b := by unfold turnSt; rw [List.foldl_append]; rfl
theorem backSt_append (xs : List Int) (b : Int) : backSt (xs ++ [b]) = backStep (backSt xs) b := by unfold backSt; rw [List.foldl_append]; rfl
theorem snoc_ind {P : List Int → Prop} (h0 : P []) (hs : ∀ xs b, P xs → P (xs ++ [b])) (xs : List Int) : P xs := by
  have : ∀ n, ∀ xs : List Int, xs.length = n → P xs := by
    intro n
    induction n with
    | zero => intro xs h; rw [List.eq_nil_of_length_eq_zero h]; exact h0
    | succ n ih =>
      intro xs h
      have hne : xs ≠ [] := by rintro rfl; simp at h
      rw [← List.dropLast_concat_getLast hne]
      exact hs _ _ (ih _ (by simp [h]))
  exact this _ xs rfl
theorem turn_all (xs : List Int) : (turnL xs).length = xs.length ∧ Bits (turnL xs) ∧ ((turnSt xs).2 = 0 ∨ (turnSt xs).2 = 1) := by
  refine snoc_ind (P := fun xs => (turnL xs).length = xs.length ∧ Bits (turnL xs) ∧ ((turnSt xs).2 = 0 ∨ (turnSt xs).2 = 1)) ⟨rfl, fun b hb => by simp [turnL, turnSt] at hb, .inl rfl⟩ ?_ xs
  intro xs b ⟨h1, h2, h3⟩
  have hb := xorB_bit (turnSt xs).2 b
  unfold turnL at h1 h2 ⊢
  rw [turnSt_append]
  refine ⟨by simp [turnStep, h1], fun d hd => ?_, hb⟩
  simp only [turnStep, List.mem_append, List.mem_singleton] at hd
  rcases hd with hd | rfl
  · exact h2 d hd
  · exact hb
theorem back_all (xs : List Int) (hx : Bits xs) : (backL xs).length = xs.length ∧ Bits (backL xs) ∧ ((backSt xs).2 = 0 ∨ (backSt xs).2 = 1) := by
  revert hx
  refine snoc_ind (P := fun xs => Bits xs → (backL xs).length = xs.length ∧ Bits (backL xs) ∧ ((backSt xs).2 = 0 ∨ (backSt xs).2 = 1)) (fun _ => ⟨rfl, fun b hb => by simp [backL, backSt] at hb, .inl rfl⟩) ?_ xs
  intro xs b ih hx
  obtain ⟨h1, h2, h3⟩ := ih (fun d hd => hx d (by simp [hd]))
  unfold backL at h1 h2 ⊢
  rw [backSt_append]
  refine ⟨by simp [backStep, h1], fun d hd => ?_, hx b (by simp)⟩
  simp only [backStep, List.mem_append, List.mem_singleton] at hd
  rcases hd with hd | rfl
  · exact h2 d hd
  · exact xorB_bit _ _
/-- What was turned is read back. -/
theorem turn_back (xs : List Int) (hx : Bits xs) : backSt (turnL xs) = (xs, (turnSt xs).2) := by
  revert hx
  refine snoc_ind (P := fun xs => Bits xs → backSt (turnL xs) = (xs, (turnSt xs).2)) (fun _ => rfl) ?_ xs
  intro xs b ih hx
  have ih' := ih (fun d hd => hx d (by simp [hd]))
  have h3 := (turn_all xs).2.2
  unfold turnL at ih' ⊢
  rw [turnSt_append]
  simp only [turnStep]
  rw [backSt_append, ih']
  simp only [backStep, Prod.mk.injEq, and_true]
  rcases h3 with e | e <;> rcases hx b (by simp) with rfl | rfl <;> rw [e] <;> rfl

/-- Where each bit differs from the one ahead of it. -/
def dif : Int → List Int → List Int
  | _, [] => []
  | j, b :: t => xorB b j :: dif b t
theorem back_dif : ∀ (xs o : List Int) (j : Int), (xs.foldl backStep (o, j)).1 = o ++ dif j xs
  | [], o, j => by simp [dif]
  | b :: t, o, j => by
    rw [List.foldl_cons, show backStep (o, j) b = (o ++ [xorB b j], b) from rfl, back_dif t]
    simp [dif]
theorem backL_dif (xs : List Int) : backL xs = dif 0 xs := by
  unfold backL backSt
  rw [back_dif]
  simp
theorem dif_flip : ∀ (xs : List Int) (j : Int), Bits xs → (j = 0 ∨ j = 1) → dif (1 - j) (xs.map (1 - ·)) = dif j xs
  | [], _, _, _ => rfl
  | b :: t, j, h, hj => by
    have hb := h b (by simp)
    simp only [List.map_cons, dif]
    rw [dif_flip t b (fun d hd => h d (by simp [hd])) hb]
    congr 1
    unfold xorB; omega
theorem flip_bits {xs : List Int} (h : Bits xs) : Bits (xs.map (1 - ·)) := by
  intro b hb
  simp only [List.mem_map] at hb
  obtain ⟨a, ha, rfl⟩ := hb
  have := h a ha
  omega
end Go.Proofs.YtalehbhimnhnjaaDoor
