/- Merging two sorted neighbours in place (rotations and halves), in plain words: what comes out is sorted, by an order that numbers of the elements make strict. No program stands in it. -/
import Derived.Sort.LotA
namespace Go.Proofs.YtbmajajndckfoaaDoor.Sm
open Go.Sort
variable {α : Type} [Inhabited α]
/-! ### Arrays drawn up by places -/
def byIx (d : Array α) (f : Nat → Nat) : Array α := (Array.range d.size).map fun t => d[f t]!
theorem byIx_size (d : Array α) (f : Nat → Nat) : (byIx d f).size = d.size := by simp [byIx]
theorem byIx_get (d : Array α) (f : Nat → Nat) {t : Nat} (h : t < d.size) : (byIx d f)[t]! = d[f t]! := by
  unfold byIx
  rw [getElem!_pos _ t (by simpa using h)]
  simp
theorem ext_bang {a b : Array α} (hs : a.size = b.size) (h : ∀ t, t < a.size → a[t]! = b[t]!) : a = b :=
  Array.ext hs fun t h1 h2 => by have := h t h1; rwa [getElem!_pos a t h1, getElem!_pos b t h2] at this
theorem byIx_id (d : Array α) {f : Nat → Nat} (h : ∀ t, t < d.size → f t = t) : byIx d f = d :=
  ext_bang (byIx_size _ _) fun t ht => by
    rw [byIx_size] at ht
    rw [byIx_get _ _ ht, h t ht]
theorem byIx_by (d : Array α) {f g e : Nat → Nat} (hg : ∀ t, t < d.size → g t < d.size) (h : ∀ t, t < d.size → f (g t) = e t) : byIx (byIx d f) g = byIx d e :=
  ext_bang (by simp [byIx_size]) fun t ht => by
    rw [byIx_size, byIx_size] at ht
    rw [byIx_get _ _ (by rw [byIx_size]; exact ht), byIx_get _ _ (hg t ht), byIx_get _ _ ht, h t ht]
def swpIx (i j t : Nat) : Nat := if t = j then i else if t = i then j else t
theorem swp_by (d : Array α) {i j : Nat} (hi : i < d.size) (hj : j < d.size) : swp d i j = byIx d (swpIx i j) :=
  ext_bang (by rw [swp_size, byIx_size]) fun t ht => by
    rw [swp_size] at ht
    rw [swp_get d hi hj, byIx_get _ _ ht]
    unfold swpIx
    split
    · rfl
    · split <;> rfl
/-- n elements from a exchanged with n from b. -/
def rngIx (a b n t : Nat) : Nat := if a ≤ t ∧ t < a + n then t - a + b else if b ≤ t ∧ t < b + n then t - b + a else t
def swpR (d : Array α) (a b n : Nat) : Array α := byIx d (rngIx a b n)
theorem swpR_size (d : Array α) (a b n : Nat) : (swpR d a b n).size = d.size := byIx_size _ _
theorem swpR_zero (d : Array α) (a b : Nat) : swpR d a b 0 = d := byIx_id d fun t _ => by unfold rngIx; split <;> (try split) <;> omega
theorem swpR_succ (d : Array α) {a b n : Nat} (h : a + n < b ∨ b + n < a) (ha : a + n < d.size) (hb : b + n < d.size) : swp (swpR d a b n) (a + n) (b + n) = swpR d a b (n + 1) := by
  rw [swp_by _ (by rw [swpR_size]; exact ha) (by rw [swpR_size]; exact hb)]
  refine byIx_by d (fun t ht => ?_) (fun t ht => ?_)
  · unfold swpIx; split <;> (try split) <;> omega
  · unfold swpIx rngIx
    repeat' split
    all_goals omega
/-- [a, m) and [m, b) exchanged. -/
def rotIx (a m b t : Nat) : Nat := if t < a ∨ b ≤ t then t else if t < a + (b - m) then t - a + m else t - (b - m)
def rotA (d : Array α) (a m b : Nat) : Array α := byIx d (rotIx a m b)
theorem rotA_size (d : Array α) (a m b : Nat) : (rotA d a m b).size = d.size := byIx_size _ _
theorem rotA_get (d : Array α) (a m b : Nat) {t : Nat} (h : t < d.size) : (rotA d a m b)[t]! = d[rotIx a m b t]! := byIx_get _ _ h
theorem rotIx_lt {a m b t n : Nat} (h2 : m ≤ b) (hb : b ≤ n) (ht : t < n) : rotIx a m b t < n := by
  unfold rotIx
  repeat' split
  all_goals omega
theorem rotA_left (d : Array α) (a b : Nat) : rotA d a a b = d := byIx_id d fun t _ => by
  unfold rotIx
  repeat' split
  all_goals omega
theorem rotA_right (d : Array α) (a b : Nat) : rotA d a b b = d := byIx_id d fun t _ => by
  unfold rotIx
  repeat' split
  all_goals omega
theorem rot_up (d : Array α) {a k : Nat} (h : a ≤ k) (hk : k + 1 < d.size) : swp (rotA d a (a + 1) (k + 1)) k (k + 1) = rotA d a (a + 1) (k + 2) := by
  rw [swp_by _ (by rw [rotA_size]; omega) (by rw [rotA_size]; omega)]
  refine byIx_by d (fun t ht => ?_) (fun t ht => ?_)
  · unfold swpIx; split <;> (try split) <;> omega
  · unfold swpIx rotIx
    repeat' split
    all_goals omega
theorem rot_down (d : Array α) {k m : Nat} (h : k + 1 ≤ m) (hk : m < d.size) : swp (rotA d (k + 1) m (m + 1)) (k + 1) k = rotA d k m (m + 1) := by
  rw [swp_by _ (by rw [rotA_size]; omega) (by rw [rotA_size]; omega)]
  refine byIx_by d (fun t ht => ?_) (fun t ht => ?_)
  · unfold swpIx; split <;> (try split) <;> omega
  · unfold swpIx rotIx
    repeat' split
    all_goals omega
theorem rot_gt (d : Array α) {m i j : Nat} (hi : j < i) (him : i ≤ m) (hj : m + j ≤ d.size) : rotA (swpR d (m - i) m j) (m - (i - j)) m (m + j) = rotA d (m - i) m (m + j) := by
  refine byIx_by d (fun t ht => rotIx_lt (by omega) hj ht) (fun t ht => ?_)
  unfold rotIx rngIx
  repeat' split
  all_goals omega
theorem rot_lt (d : Array α) {m i j : Nat} (hi : i < j) (him : i ≤ m) (hj : m + j ≤ d.size) : rotA (swpR d (m - i) (m + j - i) i) (m - i) m (m + (j - i)) = rotA d (m - i) m (m + j) := by
  refine byIx_by d (fun t ht => rotIx_lt (by omega) (by omega) ht) (fun t ht => ?_)
  unfold rotIx rngIx
  repeat' split
  all_goals omega
theorem rot_eq (d : Array α) {m i : Nat} (him : i ≤ m) : swpR d (m - i) m i = rotA d (m - i) m (m + i) := by
  refine ext_bang (by rw [swpR_size, rotA_size]) fun t ht => ?_
  rw [swpR_size] at ht
  rw [rotA_get _ _ _ _ ht]
  unfold swpR
  rw [byIx_get _ _ ht]
  congr 1
  unfold rotIx rngIx
  repeat' split
  all_goals omega
theorem rotA_perm (d : Array α) {a m b : Nat} (h1 : a ≤ m) (h2 : m ≤ b) (hb : b ≤ d.size) : PermIn a b d (rotA d a m b) := by
  refine ⟨rotA_size _ _ _ _, fun i hi => ?_, ?_⟩
  · by_cases h : i < d.size
    · rw [rotA_get _ _ _ _ h]
      unfold rotIx
      rw [if_pos hi]
    · rw [getElem!_neg _ i (by rw [rotA_size]; exact h), getElem!_neg _ i h]
  · have e1 : ((rotA d a m b).extract a b).toList = (d.extract m b).toList ++ (d.extract a m).toList := by
      apply List.ext_getElem
      · simp [rotA_size]; omega
      · intro t h3 h4
        have ht : t < b - a := by simp [rotA_size] at h3; omega
        simp only [Array.getElem_toList, Array.getElem_extract]
        rw [← getElem!_pos, rotA_get _ _ _ _ (by omega)]
        rw [List.getElem_append]
        unfold rotIx
        rw [if_neg (by omega)]
        split
        · rename_i h5
          split
          · rename_i h6
            simp only [Array.getElem_toList, Array.getElem_extract]
            rw [getElem!_pos d _ (by omega)]
            congr 1
            omega
          · rename_i h6
            simp only [Array.length_toList, Array.size_extract] at h6
            omega
        · rename_i h5
          split
          · rename_i h6
            simp only [Array.length_toList, Array.size_extract] at h6
            omega
          · rename_i h6
            simp only [Array.length_toList, Array.size_extract] at h6
            simp only [Array.getElem_toList, Array.getElem_extract, Array.length_toList, Array.size_extract]
            rw [getElem!_pos d _ (by omega)]
            congr 1
            omega
    have e2 : (d.extract a b).toList = (d.extract a m).toList ++ (d.extract m b).toList := by
      rw [← Array.toList_append, Array.extract_append_extract]
      congr 2
      · omega
      · omega
    rw [e1, e2]
    exact List.perm_append_comm
/-! ### The order -/
section
variable (lt : α → α → Bool) (tg : α → Nat)
/-- By lt, and by their numbers where lt tells nothing. -/
def lt2 (x y : α) : Bool := lt x y || (!lt y x && decide (tg x < tg y))
variable {lt tg}
omit [Inhabited α] in
theorem lt2_of {x y : α} (h : lt x y = true) : lt2 lt tg x y = true := by unfold lt2; rw [h]; rfl
omit [Inhabited α] in
theorem lt2_false {x y : α} (h : lt2 lt tg x y = false) : lt x y = false := by
  unfold lt2 at h
  rw [Bool.or_eq_false_iff] at h
  exact h.1
omit [Inhabited α] in
/-- x has the lesser number: it may come ahead of y if y is not less. -/
theorem lt2_after {x y : α} (h : lt y x = false) (ht : tg x < tg y) : lt2 lt tg y x = false := by
  unfold lt2
  rw [h, decide_eq_false (by omega)]
  simp
omit [Inhabited α] in
theorem lt2_ahead (hS : SWO lt) {x y : α} (h : lt y x = true) : lt2 lt tg x y = false := by
  unfold lt2
  rw [hS.asymmA h, h]
  rfl
omit [Inhabited α] in
theorem lt2_swo (hS : SWO lt) : SWO (lt2 lt tg) := by
  have key : ∀ x y, lt2 lt tg x y = true ↔ lt x y = true ∨ (lt y x = false ∧ tg x < tg y) := by
    intro x y
    unfold lt2
    simp
  have key0 : ∀ x y, lt2 lt tg x y = false ↔ lt x y = false ∧ (lt y x = true ∨ ¬ tg x < tg y) := by
    intro x y
    unfold lt2
    simp
    intro _
    cases lt y x <;> simp
  refine ⟨fun x => (key0 x x).2 ⟨hS.irrefl x, .inr (by omega)⟩, fun x y z h1 h2 => (key x z).2 ?_, fun x y z h1 h2 => (key0 x z).2 ?_⟩
  · rcases (key x y).1 h1 with h1 | ⟨h1, t1⟩
    · rcases (key y z).1 h2 with h2 | ⟨h2, t2⟩
      · exact .inl (hS.trans _ _ _ h1 h2)
      · cases h : lt x z with
        | true => exact .inl rfl
        | false => have := hS.ntrans _ _ _ h h2; rw [h1] at this; cases this
    · rcases (key y z).1 h2 with h2 | ⟨h2, t2⟩
      · cases h : lt x z with
        | true => exact .inl rfl
        | false => have := hS.ntrans _ _ _ h1 h; rw [h2] at this; cases this
      · exact .inr ⟨hS.ntrans _ _ _ h2 h1, by omega⟩
  · obtain ⟨a1, b1⟩ := (key0 x y).1 h1
    obtain ⟨a2, b2⟩ := (key0 y z).1 h2
    refine ⟨hS.ntrans _ _ _ a1 a2, ?_⟩
    cases h : lt z x with
    | true => exact .inl rfl
    | false =>
      right
      rcases b1 with b1 | b1
      · have := hS.ntrans _ _ _ a2 h
        rw [b1] at this; cases this
      · rcases b2 with b2 | b2
        · have := hS.ntrans _ _ _ h a1
          rw [b2] at this; cases this
        · omega
theorem SortedIn.part {l : α → α → Bool} {a b a' b' : Nat} {d : Array α} (h : SortedIn l a b d) (h1 : a ≤ a') (h2 : b' ≤ b) : SortedIn l a' b' d := fun i j hi hij hj => h i j (by omega) hij (by omega)
theorem SortedIn.cat {l : α → α → Bool} {a m b : Nat} {d : Array α} (h1 : SortedIn l a m d) (h2 : SortedIn l m b d) (h : ∀ i j, a ≤ i → i < m → m ≤ j → j < b → l d[j]! d[i]! = false) : SortedIn l a b d := by
  intro i j hi hij hj
  by_cases c1 : j < m
  · exact h1 i j hi hij c1
  · by_cases c2 : m ≤ i
    · exact h2 i j c2 hij hj
    · exact h i j hi (by omega) (by omega) hj
/-- What a merge begins with. -/
structure Pre (lt : α → α → Bool) (tg : α → Nat) (d : Array α) (a m b : Nat) : Prop where
  left : SortedIn (lt2 lt tg) a m d
  right : SortedIn (lt2 lt tg) m b d
  cross : ∀ i j, a ≤ i → i < m → m ≤ j → j < b → tg d[i]! < tg d[j]!
/-- What it ends with. -/
structure Post (lt : α → α → Bool) (tg : α → Nat) (d : Array α) (a b : Nat) (d' : Array α) : Prop where
  perm : PermIn a b d d'
  sorted : SortedIn (lt2 lt tg) a b d'
theorem Pre.ahead {d : Array α} {a m b : Nat} (h : Pre lt tg d a m b) {i j : Nat} (hi : a ≤ i) (him : i < m) (hj : m ≤ j) (hjb : j < b) (hl : lt d[j]! d[i]! = false) : lt2 lt tg d[j]! d[i]! = false := lt2_after hl (h.cross i j hi him hj hjb)
/-- Rotated at two places that part what comes first from what comes last. -/
theorem rot_get (d : Array α) {s m e p : Nat} (h2 : s ≤ m) (h3 : m ≤ e) (hp : p < d.size) :
    (rotA d s m e)[p]! = if p < s then d[p]! else if p < s + (e - m) then d[p - s + m]! else if p < e then d[p - (e - m)]! else d[p]! := by
  rw [rotA_get _ _ _ _ hp]
  unfold rotIx
  repeat' split
  all_goals first | rfl | omega
/-- The halves of a merge, and what they come to. -/
theorem halves {d : Array α} {a m b s : Nat} (h : Pre lt tg d a m b) (hS : SWO lt) (hmb : m ≤ b) (hb : b ≤ d.size) (mid e : Nat) (has : a ≤ s) (hsm : s ≤ m) (hme : m ≤ e) (heb : e ≤ b) (hse : s + e = mid + m)
    (c1 : ∀ i j, a ≤ i → i < s → e ≤ j → j < b → lt d[j]! d[i]! = false) (c2 : ∀ i j, s ≤ i → i < m → m ≤ j → j < e → lt d[j]! d[i]! = true) :
    Pre lt tg (rotA d s m e) a s mid ∧ (∀ d1, Post lt tg (rotA d s m e) a mid d1 → Pre lt tg d1 mid e b) ∧
      ∀ d1, Post lt tg (rotA d s m e) a mid d1 → ∀ d2, Post lt tg d1 mid b d2 → Post lt tg d a b d2 := by
  have hg := fun p (hp : p < d.size) => rot_get d (p := p) hsm hme hp
  have hmid : mid = s + (e - m) := by omega
  have pre1 : Pre lt tg (rotA d s m e) a s mid := by
    refine ⟨fun i j hi hij hj => ?_, fun i j hi hij hj => ?_, fun i j hi his hj hjm => ?_⟩
    · rw [hg i (by omega), hg j (by omega), if_pos (by omega), if_pos (by omega)]
      exact h.left i j hi hij (by omega)
    · rw [hg i (by omega), hg j (by omega), if_neg (by omega), if_pos (by omega), if_neg (by omega), if_pos (by omega)]
      exact h.right _ _ (by omega) (by omega) (by omega)
    · rw [hg i (by omega), hg j (by omega), if_pos (by omega), if_neg (by omega), if_pos (by omega)]
      exact h.cross _ _ (by omega) (by omega) (by omega) (by omega)
  have pre2 : ∀ d1, Post lt tg (rotA d s m e) a mid d1 → Pre lt tg d1 mid e b := by
    rintro d1 ⟨⟨_, hout, _⟩, _⟩
    refine ⟨fun i j hi hij hj => ?_, fun i j hi hij hj => ?_, fun i j hi his hj hjm => ?_⟩
    · rw [hout i (by omega), hout j (by omega), hg i (by omega), hg j (by omega), if_neg (by omega), if_neg (by omega), if_pos (by omega), if_neg (by omega), if_neg (by omega), if_pos (by omega)]
      exact h.left _ _ (by omega) (by omega) (by omega)
    · rw [hout i (by omega), hout j (by omega), hg i (by omega), hg j (by omega), if_neg (by omega), if_neg (by omega), if_neg (by omega), if_neg (by omega), if_neg (by omega), if_neg (by omega)]
      exact h.right _ _ (by omega) (by omega) (by omega)
    · rw [hout i (by omega), hout j (by omega), hg i (by omega), hg j (by omega), if_neg (by omega), if_neg (by omega), if_pos (by omega), if_neg (by omega), if_neg (by omega), if_neg (by omega)]
      exact h.cross _ _ (by omega) (by omega) (by omega) (by omega)
  refine ⟨pre1, pre2, fun d1 p1 d2 p2 => ?_⟩
  have z1 : d1.size = d.size := p1.perm.1.trans (rotA_size _ _ _ _)
  have mono := @permIn_mono α _
  have trans := @permIn_trans α _
  have all := @permIn_all α _
  have q0 : PermIn a b d (rotA d s m e) := mono d _ s e a b has heb hb (rotA_perm d hsm hme (by omega))
  have q1 : PermIn a b (rotA d s m e) d1 := mono _ _ a mid a b (Nat.le_refl _) (by omega) (by rw [rotA_size]; exact hb) p1.perm
  have q2 : PermIn a b d1 d2 := mono _ _ mid b a b (by omega) (Nat.le_refl _) (by omega) p2.perm
  refine ⟨trans _ _ _ a b (trans _ _ _ a b q0 q1) q2, ?_⟩
  refine SortedIn.cat (m := mid) (fun i j hi hij hj => ?_) p2.sorted ?_
  · rw [p2.perm.2.1 i (by omega), p2.perm.2.1 j (by omega)]
    exact p1.sorted i j hi hij hj
  · -- what stands in the lower half comes ahead of what stands in the upper one
    have low : ∀ i, a ≤ i → i < mid → ∀ j, mid ≤ j → j < b → lt2 lt tg (rotA d s m e)[j]! (rotA d s m e)[i]! = false := by
      intro i hi him j hj hjb
      rw [hg i (by omega), hg j (by omega), if_neg (by omega : ¬ j < s), if_neg (by omega : ¬ j < s + (e - m))]
      by_cases ci : i < s
      · rw [if_pos ci]
        by_cases cj : j < e
        · rw [if_pos cj]
          exact h.left _ _ hi (by omega) (by omega)
        · rw [if_neg cj]
          exact h.ahead hi (by omega) (by omega) hjb (c1 i j hi ci (by omega) hjb)
      · rw [if_neg ci, if_pos (by omega : i < s + (e - m))]
        by_cases cj : j < e
        · rw [if_pos cj]
          exact lt2_ahead hS (c2 _ _ (by omega) (by omega) (by omega) (by omega))
        · rw [if_neg cj]
          exact h.right _ _ (by omega) (by omega) hjb
    have low1 : ∀ i, a ≤ i → i < mid → ∀ j, mid ≤ j → j < b → lt2 lt tg d1[j]! d1[i]! = false := by
      intro i hi him j hj hjb
      rw [p1.perm.2.1 j (by omega)]
      exact all _ _ a mid (fun x => lt2 lt tg (rotA d s m e)[j]! x = false) (by rw [rotA_size]; omega) p1.perm (fun i' h1 h2 => low i' h1 h2 j hj hjb) i hi him
    intro i j hi him hj hjb
    rw [p2.perm.2.1 i (by omega)]
    exact all _ _ mid b (fun x => lt2 lt tg x d1[i]! = false) (by omega) p2.perm (fun j' h1 h2 => low1 i hi him j' h1 h2) j hj hjb
/-- One element ahead of the others. -/
theorem one_left {d : Array α} {a b i : Nat} (h : Pre lt tg d a (a + 1) b) (hS : SWO lt) (hb : b ≤ d.size) (hi : a + 1 ≤ i) (hib : i ≤ b)
    (c1 : ∀ p, a + 1 ≤ p → p < i → lt d[p]! d[a]! = true) (c2 : ∀ p, i ≤ p → p < b → lt d[p]! d[a]! = false) : Post lt tg d a b (rotA d a (a + 1) i) := by
  have hg := fun p (hp : p < d.size) => rot_get d (p := p) (show a ≤ a + 1 from by omega) hi hp
  refine ⟨@permIn_mono α _ d _ a i a b (Nat.le_refl _) hib hb (rotA_perm d (by omega) hi (by omega)), fun p q hp hpq hq => ?_⟩
  rw [hg p (by omega), hg q (by omega), if_neg (by omega : ¬ q < a), if_neg (by omega : ¬ p < a)]
  by_cases k1 : q < a + (i - (a + 1))
  · rw [if_pos k1, if_pos (by omega : p < a + (i - (a + 1)))]
    exact h.right _ _ (by omega) (by omega) (by omega)
  · rw [if_neg k1]
    by_cases k2 : q < i
    · rw [if_pos k2, if_pos (by omega : p < a + (i - (a + 1)))]
      have e : q - (i - (a + 1)) = a := by omega
      rw [e]
      exact lt2_ahead hS (c1 _ (by omega) (by omega))
    · rw [if_neg k2]
      by_cases k3 : p < a + (i - (a + 1))
      · rw [if_pos k3]
        exact h.right _ _ (by omega) (by omega) hq
      · rw [if_neg k3]
        by_cases k4 : p < i
        · rw [if_pos k4]
          have e : p - (i - (a + 1)) = a := by omega
          rw [e]
          exact h.ahead (Nat.le_refl _) (by omega) (by omega) hq (c2 q (by omega) hq)
        · rw [if_neg k4]
          exact h.right _ _ (by omega) (by omega) hq
/-- One element behind the others. -/
theorem one_right {d : Array α} {a m i : Nat} (h : Pre lt tg d a m (m + 1)) (hS : SWO lt) (hb : m < d.size) (hi : a ≤ i) (him : i ≤ m)
    (c1 : ∀ p, a ≤ p → p < i → lt d[m]! d[p]! = false) (c2 : ∀ p, i ≤ p → p < m → lt d[m]! d[p]! = true) : Post lt tg d a (m + 1) (rotA d i m (m + 1)) := by
  have hg := fun p (hp : p < d.size) => rot_get d (p := p) him (show m ≤ m + 1 from by omega) hp
  refine ⟨@permIn_mono α _ d _ i (m + 1) a (m + 1) hi (Nat.le_refl _) hb (rotA_perm d him (by omega) hb), fun p q hp hpq hq => ?_⟩
  rw [hg p (by omega), hg q (by omega)]
  by_cases k1 : p < i
  · rw [if_pos k1]
    by_cases k2 : q < i
    · rw [if_pos k2]
      exact h.left _ _ hp hpq (by omega)
    · rw [if_neg k2]
      by_cases k3 : q < i + (m + 1 - m)
      · rw [if_pos k3]
        have e : q - i + m = m := by omega
        rw [e]
        exact h.ahead hp (by omega) (Nat.le_refl _) (by omega) (c1 p hp k1)
      · rw [if_neg k3, if_pos (by omega)]
        exact h.left _ _ hp (by omega) (by omega)
  · rw [if_neg k1, if_neg (by omega : ¬ q < i), if_neg (by omega : ¬ q < i + (m + 1 - m)), if_pos (by omega : q < m + 1)]
    by_cases k3 : p < i + (m + 1 - m)
    · rw [if_pos k3]
      have e : p - i + m = m := by omega
      rw [e]
      exact lt2_ahead hS (c2 _ (by omega) (by omega))
    · rw [if_neg k3, if_pos (by omega)]
      exact h.left _ _ (by omega) (by omega) (by omega)
/-- The insertion sort goes as it would by the strict order, where the numbers rise. -/
theorem insInner_tag (a : Nat) : ∀ (j : Nat) (d : Array α), j < d.size → (∀ p, a ≤ p → p < j → tg d[p]! < tg d[j]!) → insInner lt a j d = insInner (lt2 lt tg) a j d
  | 0, d, _, _ => rfl
  | j + 1, d, hj, h => by
    rw [insInner, insInner]
    by_cases ha : j + 1 > a
    · have e : lt2 lt tg d[j + 1]! d[j]! = lt d[j + 1]! d[j]! := by
        have := h j (by omega) (by omega)
        unfold lt2
        rw [decide_eq_false (show ¬ tg d[j + 1]! < tg d[j]! from by omega)]
        simp
      rw [e]
      rw [insInner_tag a j (swp d (j + 1) j) (by rw [swp_size]; omega) (fun p hp hpj => by
        rw [swp_get d hj (by omega), swp_get d hj (by omega), if_neg (by omega), if_neg (by omega), if_pos rfl]
        exact h p hp (by omega))]
    · rw [decide_eq_false ha]
      simp
theorem insOuter_tag (hS : SWO lt) (a b : Nat) : ∀ (n i : Nat) (d : Array α), b - i = n → a < i → i ≤ b → b ≤ d.size → SortedIn (lt2 lt tg) a i d → (∀ p q, a ≤ p → p < q → i ≤ q → q < b → tg d[p]! < tg d[q]!) →
    insOuter lt a b i d = insOuter (lt2 lt tg) a b i d
  | 0, i, d, hn, _, hib, _, _, _ => by
    rw [insOuter, if_neg (by omega), insOuter, if_neg (by omega)]
  | n + 1, i, d, hn, hai, hib, hb, hs, ht => by
    have hlt : i < b := by omega
    have h1 := insInner_spec (lt := lt2 lt tg) (lt2_swo hS) swp_permIn permIn_refl permIn_trans a (i + 1) i (by omega) i d (by omega) (Nat.le_refl _) (by omega) ⟨fun p q hap hpq hqi _ hq => hs p q hap hpq (by omega), fun q h1 h2 => by omega⟩
    conv => lhs; rw [insOuter, if_pos hlt]
    conv => rhs; rw [insOuter, if_pos hlt]
    rw [insInner_tag a i d (by omega) (fun p hp hpi => ht p i hp hpi (Nat.le_refl _) hlt)]
    generalize insInner (lt2 lt tg) a i d = d1 at h1
    refine insOuter_tag hS a b n (i + 1) d1 (by omega) (by omega) (by omega) (by rw [h1.1.1]; exact hb) h1.2 (fun p q hp hpq hiq hq => ?_)
    rw [h1.1.2.1 q (by omega)]
    by_cases hpi : p < i + 1
    · exact @permIn_all α _ d d1 a (i + 1) (fun x => tg x < tg d[q]!) (by omega) h1.1 (fun p' h2 h3 => ht p' q h2 (by omega) (by omega) hq) p hp hpi
    · rw [h1.1.2.1 p (by omega)]
      exact ht p q hp hpq (by omega) hq
theorem ins_stable (hS : SWO lt) {d : Array α} {a b : Nat} (hab : a ≤ b) (hb : b ≤ d.size) (ht : ∀ p q, a ≤ p → p < q → q < b → tg d[p]! < tg d[q]!) : Post lt tg d a b (insertionSort lt d a b) := by
  have e : insertionSort lt d a b = insertionSort (lt2 lt tg) d a b := by
    unfold insertionSort
    by_cases h : a = b
    · subst h
      rw [insOuter, if_neg (by omega), insOuter, if_neg (by omega)]
    · exact insOuter_tag hS a b (b - (a + 1)) (a + 1) d rfl (by omega) (by omega) hb (fun i j h1 h2 h3 => by omega) (fun p q h1 h2 _ h4 => ht p q h1 h2 h4)
  obtain ⟨h1, h2⟩ := insertionSort_holds (lt := lt2 lt tg) (lt2_swo hS) d a b hab hb
  rw [e]
  exact ⟨h1, h2⟩
/-! ### The places that a search finds -/
theorem Pre.leftLt {d : Array α} {a m b : Nat} (h : Pre lt tg d a m b) {i j : Nat} (hi : a ≤ i) (hij : i ≤ j) (hj : j < m) (hS : SWO lt) : lt d[j]! d[i]! = false := by
  rcases Nat.lt_or_ge i j with h1 | h1
  · exact lt2_false (h.left i j hi h1 hj)
  · obtain rfl : i = j := by omega
    exact hS.irrefl _
theorem Pre.rightLt {d : Array α} {a m b : Nat} (h : Pre lt tg d a m b) {i j : Nat} (hi : m ≤ i) (hij : i ≤ j) (hj : j < b) (hS : SWO lt) : lt d[j]! d[i]! = false := by
  rcases Nat.lt_or_ge i j with h1 | h1
  · exact lt2_false (h.right i j hi h1 hj)
  · obtain rfl : i = j := by omega
    exact hS.irrefl _
omit [Inhabited α] in
theorem true_of {l : α → α → Bool} {x y : α} (h : l x y = false → False) : l x y = true := by
  cases e : l x y with
  | true => rfl
  | false => exact (h e).elim
theorem search1_up {d : Array α} {a m b h : Nat} (hp : Pre lt tg d a m b) (hS : SWO lt) (hb : h < b) (ht : lt d[h]! d[a]! = true) : ∀ p, m ≤ p → p < h + 1 → lt d[p]! d[a]! = true := by
  intro p h1 h2
  refine true_of fun e => ?_
  have := hS.ntrans _ _ _ (hp.rightLt h1 (by omega) hb hS) e
  rw [ht] at this; cases this
theorem search1_down {d : Array α} {a m b h : Nat} (hp : Pre lt tg d a m b) (hS : SWO lt) (hm : m ≤ h) (ht : lt d[h]! d[a]! = false) : ∀ p, h ≤ p → p < b → lt d[p]! d[a]! = false := by
  intro p h1 h2
  exact hS.ntrans _ _ _ (hp.rightLt hm h1 h2 hS) ht
theorem search2_up {d : Array α} {a m b h : Nat} (hp : Pre lt tg d a m b) (hS : SWO lt) (hb : h < m) (ht : lt d[m]! d[h]! = false) : ∀ p, a ≤ p → p < h + 1 → lt d[m]! d[p]! = false := by
  intro p h1 h2
  exact hS.ntrans _ _ _ ht (hp.leftLt h1 (by omega) hb hS)
theorem search2_down {d : Array α} {a m b h : Nat} (hp : Pre lt tg d a m b) (hS : SWO lt) (ha : a ≤ h) (ht : lt d[m]! d[h]! = true) : ∀ p, h ≤ p → p < m → lt d[m]! d[p]! = true := by
  intro p h1 h2
  refine true_of fun e => ?_
  have := hS.ntrans _ _ _ e (hp.leftLt ha h1 h2 hS)
  rw [ht] at this; cases this
/-- Where the search of a merge begins and ends. -/
def Rng (a m b mid s0 r0 : Nat) : Prop := (mid < m ∧ s0 = mid + m - b ∧ r0 = mid) ∨ (m ≤ mid ∧ s0 = a ∧ r0 = m)
theorem Rng.facts {a m b mid s0 r0 : Nat} (h : Rng a m b mid s0 r0) (ha : a < m) (hb : m < b) (hm : mid = (a + b) / 2) : a ≤ s0 ∧ s0 ≤ r0 ∧ r0 ≤ m ∧ r0 ≤ mid ∧ mid + m - s0 ≤ b := by
  rcases h with ⟨h1, h2, h3⟩ | ⟨h1, h2, h3⟩ <;> omega
theorem search_up {d : Array α} {a m b mid s0 r0 c : Nat} (hp : Pre lt tg d a m b) (hS : SWO lt) (hr : Rng a m b mid s0 r0) (ha : a < m) (hb : m < b) (hm : mid = (a + b) / 2) (h2 : c < r0) (ht : lt d[mid + m - 1 - c]! d[c]! = false) :
    ∀ x, s0 ≤ x → x < c + 1 → lt d[mid + m - 1 - x]! d[x]! = false := by
  have hf := hr.facts ha hb hm
  intro x h3 h4
  exact hS.ntrans _ _ _ (hS.ntrans _ _ _ (hp.rightLt (by omega) (by omega) (by omega) hS) ht) (hp.leftLt (by omega) (by omega) (by omega) hS)
theorem search_down {d : Array α} {a m b mid s0 r0 c : Nat} (hp : Pre lt tg d a m b) (hS : SWO lt) (hr : Rng a m b mid s0 r0) (ha : a < m) (hb : m < b) (hm : mid = (a + b) / 2) (h1 : s0 ≤ c) (ht : lt d[mid + m - 1 - c]! d[c]! = true) :
    ∀ x, c ≤ x → x < r0 → lt d[mid + m - 1 - x]! d[x]! = true := by
  have hf := hr.facts ha hb hm
  intro x h3 h4
  refine true_of fun e => ?_
  have := hS.ntrans _ _ _ (hS.ntrans _ _ _ (hp.rightLt (i := mid + m - 1 - x) (j := mid + m - 1 - c) (by omega) (by omega) (by omega) hS) e) (hp.leftLt (i := c) (j := x) (by omega) h3 (by omega) hS)
  rw [ht] at this; cases this
theorem search_found {d : Array α} {a m b mid s0 r0 s : Nat} (hp : Pre lt tg d a m b) (hS : SWO lt) (hr : Rng a m b mid s0 r0) (ha : a < m) (hb : m < b) (hm : mid = (a + b) / 2) (h1 : s0 ≤ s) (h2 : s ≤ r0)
    (c1 : ∀ x, s0 ≤ x → x < s → lt d[mid + m - 1 - x]! d[x]! = false) (c2 : ∀ x, s ≤ x → x < r0 → lt d[mid + m - 1 - x]! d[x]! = true) :
    (∀ i j, a ≤ i → i < s → mid + m - s ≤ j → j < b → lt d[j]! d[i]! = false) ∧ (∀ i j, s ≤ i → i < m → m ≤ j → j < mid + m - s → lt d[j]! d[i]! = true) := by
  have hf := hr.facts ha hb hm
  constructor
  · intro i j i1 i2 j1 j2
    have h3 : s0 ≤ s - 1 := by
      rcases hr with ⟨q1, q2, q3⟩ | ⟨q1, q2, q3⟩
      · omega
      · omega
    have h4 := c1 (s - 1) h3 (by omega)
    rw [show mid + m - 1 - (s - 1) = mid + m - s from by omega] at h4
    exact hS.ntrans _ _ _ (hS.ntrans _ _ _ (hp.rightLt (i := mid + m - s) (j := j) (by omega) j1 j2 hS) h4) (hp.leftLt (i := i) (j := s - 1) i1 (by omega) (by omega) hS)
  · intro i j i1 i2 j1 j2
    have h3 : s < r0 := by
      rcases hr with ⟨q1, q2, q3⟩ | ⟨q1, q2, q3⟩
      · omega
      · omega
    have h4 := c2 s (Nat.le_refl _) h3
    refine true_of fun e => ?_
    have := hS.ntrans _ _ _ (hS.ntrans _ _ _ (hp.rightLt (i := j) (j := mid + m - 1 - s) j1 (by omega) (by omega) hS) e) (hp.leftLt (i := s) (j := i) (by omega) i1 i2 hS)
    rw [h4] at this; cases this
/-- Nothing to merge. -/
theorem Post.none {d : Array α} {a m b : Nat} (h : Pre lt tg d a m b) (h1 : ¬ (a < m ∧ m < b)) (h2 : a ≤ m) (h3 : m ≤ b) : Post lt tg d a b d := by
  refine ⟨permIn_refl d a b, ?_⟩
  by_cases e : a = m
  · subst e; exact h.right
  · have : m = b := by omega
    subst this; exact h.left
theorem ins_none (l : α → α → Bool) (d : Array α) (a : Nat) : insertionSort l d a a = d := by
  unfold insertionSort
  rw [insOuter, if_neg (by omega)]
/-- Two sorted blocks, ready to be merged. -/
theorem two_blocks {d0 D1 D2 : Array α} {c n : Nat} (hcn : c ≤ n) (hn : n ≤ d0.size) (ht : ∀ p q, p < q → q < n → tg d0[p]! < tg d0[q]!) (p1 : Post lt tg d0 0 c D1) (p2 : Post lt tg D1 c n D2) :
    Pre lt tg D2 0 c n ∧ ∀ D3, Post lt tg D2 0 n D3 → Post lt tg d0 0 n D3 := by
  have z1 : D1.size = d0.size := p1.perm.1
  have z2 : D2.size = D1.size := p2.perm.1
  refine ⟨⟨fun i j hi hij hj => ?_, p2.sorted, fun i j hi hic hj hjn => ?_⟩, fun D3 p3 => ⟨?_, p3.sorted⟩⟩
  · rw [p2.perm.2.1 i (by omega), p2.perm.2.1 j (by omega)]
    exact p1.sorted i j hi hij hj
  · rw [p2.perm.2.1 i (by omega)]
    refine @permIn_all α _ D1 D2 c n (fun x => tg D1[i]! < tg x) (by omega) p2.perm (fun q h1 h2 => ?_) j hj hjn
    rw [p1.perm.2.1 q (by omega)]
    exact @permIn_all α _ d0 D1 0 c (fun x => tg x < tg d0[q]!) (by omega) p1.perm (fun p h3 h4 => ht p q (by omega) h2) i hi hic
  · have q1 : PermIn 0 n d0 D1 := @permIn_mono α _ d0 D1 0 c 0 n (Nat.le_refl _) hcn hn p1.perm
    have q2 : PermIn 0 n D1 D2 := @permIn_mono α _ D1 D2 c n 0 n (Nat.zero_le _) (Nat.le_refl _) (by omega) p2.perm
    exact permIn_trans _ _ _ 0 n (permIn_trans _ _ _ 0 n q1 q2) p3.perm
theorem block_tags {d0 D1 : Array α} {c n : Nat} (ht : ∀ p q, p < q → q < n → tg d0[p]! < tg d0[q]!) (p1 : Post lt tg d0 0 c D1) : ∀ p q, c ≤ p → p < q → q < n → tg D1[p]! < tg D1[q]! := by
  intro p q h1 h2 h3
  rw [p1.perm.2.1 p (by omega), p1.perm.2.1 q (by omega)]
  exact ht p q h2 h3
end
end Go.Proofs.YtbmajajndckfoaaDoor.Sm
