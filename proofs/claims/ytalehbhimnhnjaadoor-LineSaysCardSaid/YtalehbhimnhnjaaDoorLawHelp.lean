/- Contracts of the laws' helpers: in, Behind; one cell of a row of the call's own. -/
import Derived.Test.YtalehbhimnhnjaaDoorOwn
import Derived.Test.YtalehbhimnhnjaaDoorCore
namespace Go.Proofs.YtalehbhimnhnjaaDoor
open Go.RowKit
/-! ### the helpers of the laws -/
theorem in_any (a b c : Int) (w : World) :
    Calls Tryd.prog 26 #[.int .i64 a, .int .i64 b, .int .i64 c] w fun e w' => e = .returned (.bool (inB a b c)) ∧ w = w' := by
  by_cases h : b ≤ a
  · by_cases h2 : a ≤ c
    all_goals
      go_enter Tryd.func26, Tryd.ntmps26
      go_wp2
      go_ret
      exact ⟨by simp [inB, h, h2], rfl⟩
  · go_enter Tryd.func26, Tryd.ntmps26
    go_wp2
    go_ret
    exact ⟨ret_eq (bool_eq (by rw [eq_comm, inB_false]; omega)), rfl⟩

theorem Own.set {w : World} {base g n c i : Nat} {xs : List Int} (h : Own w base (.slice (some ⟨g, 0, none⟩) n c) xs) (v : Int) : Own (w.setCell ⟨g, i, none⟩ (.int .i64 v)) base (.slice (some ⟨g, 0, none⟩) n c) (xs.set i v) := by
  have hl := h.1
  rcases h.2 with ⟨e, _⟩ | ⟨g', cap, cur, e, hg, hh, h1, h2, h3, h4⟩
  · cases e
  injection e with e1 e2 e3
  injection e1 with e1
  injection e1 with e1
  subst e1; subst e3
  refine ⟨by rw [ic_length] at hl ⊢; rw [List.length_set]; exact hl, .inr ⟨g, c, cur.setIfInBounds i (.int .i64 v), by rw [e2, List.length_set], hg, ?_, by simpa using h1, h2, by simpa using h3, ?_⟩⟩
  · obtain ⟨hlt, hk⟩ := Array.getElem?_eq_some_iff.1 hh
    show (w.heap.modify g _)[g]? = _
    rw [Array.getElem?_eq_getElem (by rw [Array.size_modify]; exact hlt), Array.getElem_modify_self, hk]
    rfl
  · rw [Array.toList_setIfInBounds]
    rw [List.length_set, List.take_set, h4]
    simp [ic]

theorem Own.at_ {w : World} {base n c i : Nat} {A : Option Addr} {xs : List Int} (h : Own w base (.slice A n c) xs) (hi : i < xs.length) :
    ∃ g, A = some ⟨g, 0, none⟩ ∧ base ≤ g ∧ w.cell? ⟨g, i, none⟩ = some (.int .i64 xs[i]) ∧ w.frozen? ⟨g, i, none⟩ = false := by
  have hr := h.rds
  rcases h.2 with ⟨_, e⟩ | ⟨g, cap, cur, e, hg, hh, _⟩
  · omega
  · injection e with e1 _ _
    subst e1
    obtain ⟨b', off', e', hcell⟩ := hr.2 (by rw [ic_length]; omega)
    injection e' with e'
    injection e' with e1 e2
    subst e1; subst e2
    refine ⟨g, rfl, hg, ?_, by simp [World.frozen?, hh]⟩
    have := hcell i (by rw [ic_length]; exact hi)
    rwa [Nat.zero_add, ic_get _ _ hi] at this

def RetInts (W : World) (xs : List Int) : Ending → World → Prop := fun e w' => ∃ A c, e = .returned (.slice A xs.length c) ∧ Own w' W.heap.size (.slice A xs.length c) xs ∧ xs.length ≤ c ∧ c ≤ maxLen ∧ Below W.heap.size W w'

theorem behind_any (A : Option Addr) (n c : Nat) (xs : List Int) (v : Int) (w : World) (hr : Rds w 1 A n (ic xs)) (hn : n ≤ 1000) :
    Calls Tryd.prog 18 #[.slice A n c, .int .i64 v] w (RetInts w (xs ++ [v])) := by
  obtain rfl : n = xs.length := hr.len_int
  have hB := Below.refl w.heap.size w
  go_enter Tryd.func18, Tryd.ntmps18
  go_wp2_with (first
    | (at_builtin; refine wp_append_ints w rfl (.tmp 6) (.tmp 7) rfl w w.heap.size (.slice none 0 0) [] rfl (Own.nil_ _ _) A xs.length c xs rfl hr (by simp; omega) (Nat.le_refl _) hB ?_; intro A1 c1 w1 ho1 hc1 hc2 hB1 _ _; simp only [List.length_nil, Nat.zero_add, List.nil_append] at ho1 hc1 ⊢)
    | (at_builtin; refine wp_append_int w1 rfl (.tmp 9) (.tmp 11) rfl w w.heap.size (.slice A1 xs.length c1) xs rfl ho1 v rfl (by omega) hB1.size hB1 ?_; intro A2 c2 w2 ho2 hc3 hc4 hB2 _ _))
  go_ret
  exact ⟨A2, c2, by simp, by simpa using ho2, by simpa using hc3, hc4, hB2⟩

end Go.Proofs.YtalehbhimnhnjaaDoor
