/- The closed fact of package frag. -/
import Derived.Test.YtbmajajndckfoaaFragUse
import Derived.Test.YtbmajajndckfoaaJoin
namespace Go.Proofs.Ytbmajajndckfoaa
open Go.RowKit
def factP : List Pt := [(2, false, ⟨#[99]⟩), (0, true, ⟨#[97, 98]⟩)]
theorem fact_join : joinE factP = 0 ∧ joinT factP = ⟨#[97, 98, 99]⟩ := by
  have hw : wholeB ⟨#[97, 98, 99]⟩ factP = true := by decide +kernel
  refine (join_of (t := ⟨#[97, 98, 99]⟩) (ps := factP) (by simp [factP]) (by decide) fun p hp => ?_).1 hw
  simp only [factP, List.mem_cons, List.not_mem_nil, or_false] at hp
  rcases hp with rfl | rfl
  · refine ⟨⟨by simp, by simp, by decide⟩, fun j hj => ?_, fun _ => by decide⟩
    obtain rfl : j = 0 := by have : j < 1 := hj; omega
    exact ⟨by decide, by decide⟩
  · refine ⟨⟨by simp, by simp, by decide⟩, fun j hj => ?_, fun h => by cases h⟩
    have : j < 2 := hj
    obtain rfl | rfl : j = 0 ∨ j = 1 := by omega
    · exact ⟨by decide, by decide⟩
    · exact ⟨by decide, by decide⟩
theorem fact_cut : cutE ⟨#[97, 98, 99]⟩ 2 = 0 ∧ (cutV ⟨#[97, 98, 99]⟩ 2).length = 2 := by decide +kernel
theorem fact_rds (w : World) : Rds (w.alloc (.cells #[.int .i64 2, .bool false, .string ⟨#[99]⟩, .int .i64 0, .bool true, .string ⟨#[97, 98]⟩] 41)) 3 (some ⟨w.heap.size, 0, none⟩) 2 (qc factP) := by
  refine ⟨rfl, fun _ => ⟨_, _, rfl, fun j hj => ?_⟩⟩
  match j, hj with
  | 0, _ => rw [World.cell?_alloc_at _ _ _ _ (by simp)]; rfl
  | 1, _ => rw [World.cell?_alloc_at _ _ _ _ (by simp)]; rfl
  | 2, _ => rw [World.cell?_alloc_at _ _ _ _ (by simp)]; rfl
  | 3, _ => rw [World.cell?_alloc_at _ _ _ _ (by simp)]; rfl
  | 4, _ => rw [World.cell?_alloc_at _ _ _ _ (by simp)]; rfl
  | 5, _ => rw [World.cell?_alloc_at _ _ _ _ (by simp)]; rfl
set_option maxHeartbeats 1000000 in
theorem fragFact_any (w : World) : Calls Try.prog 18 #[] w fun e w' => e = .returned (.bool true) ∧ Below w.heap.size w w' := by
  obtain ⟨f1, f2⟩ := fact_cut
  obtain ⟨j1, j2⟩ := fact_join
  have HF1 := Lib.hid f1
  have HF2 := Lib.hid f2
  have HJ1 := Lib.hid j1
  have HJ2 := Lib.hid j2
  clear f1 f2 j1 j2
  go_enter Try.func18, Try.ntmps18
  go_wp2_with fail
  (with_reducible refine (cut_law _ _ _ (by decide)).mono ?_)
  rw [HF1.out, errV_zero]
  rintro e w1 ⟨A1, c1, rfl, _, hb1⟩
  rw [HF2.out]
  have HB1 := Lib.hid hb1
  clear hb1
  go_wp2_with fail
  (with_reducible refine (join_any _ 2 _ factP _ (fact_rds w1) (by decide)).mono ?_)
  rintro e w2 ⟨rfl, hb2⟩
  rw [HJ1.out, HJ2.out, errV_zero]
  go_wp2
  go_ret
  exact ⟨rfl, below_call HB1.out (below_call ((Below.refl _ _).alloc (Nat.le_refl _) _) hb2)⟩
end Go.Proofs.Ytbmajajndckfoaa
