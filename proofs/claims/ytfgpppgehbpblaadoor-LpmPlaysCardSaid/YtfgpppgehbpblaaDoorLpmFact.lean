/- The closed fact of tables; the document's In. -/
import Derived.Test.YtfgpppgehbpblaaDoorLpmRouted
import Derived.Test.YtfgpppgehbpblaaDoorInPB
namespace Go.Proofs.YtfgpppgehbpblaaDoor
open Go.RowKit Lp
def h1F : Hops := upd (fun _ _ => -1) 0 0 1
def h2F : Hops := upd h1F 8 1 2
set_option maxHeartbeats 1000000 in
theorem lpmFact_any (w : World) : Calls Tryd.prog 18 #[] w fun e w' => e = .returned (.bool true) ∧ Below w.heap.size w w' := by
  have hB := Below.refl w.heap.size w
  go_enter Tryd.func18, Tryd.ntmps18
  go_wp2_with fail
  (with_reducible refine (lpmNew_in w w.heap.size (Nat.le_refl _)).mono ?_)
  rintro e w1 ⟨rfl, hB1, t1⟩
  generalize w.heap.size + 1 = tb at *
  have HS1 := Lib.hid (set_any 0 0 1 w1 t1.tab (fun i hi => (t1.lows i hi).2))
  go_wp2_with fail
  refine HS1.out.mono ?_
  rintro e w2 ⟨_, h2⟩
  obtain ⟨rfl, S2, F2, T2⟩ := h2 (by decide)
  clear h2
  obtain ⟨t2, hb2⟩ := t1.to hB1.size T2
  have hB2 := hB1.trans hb2
  have t2' : TabIn w.heap.size w2 tb w.heap.size F2 h1F 1 S2 := t2
  clear t2 T2 t1 hb2 HS1
  have HS2 := Lib.hid (set_any 256 8 2 w2 t2'.tab (fun i hi => (t2'.lows i hi).2))
  go_wp2_with fail
  refine HS2.out.mono ?_
  rintro e w3 ⟨_, h3⟩
  obtain ⟨rfl, S3, F3, T3⟩ := h3 (by decide)
  clear h3
  obtain ⟨t3, hb3⟩ := t2'.to hB2.size T3
  have hB3 := hB2.trans hb3
  have t3' : TabIn w.heap.size w3 tb w.heap.size F3 h2F 2 S3 := t3
  clear t3 T3 t2' hb3 HS2
  have HF1 := Lib.hid (find_in 300 w3 t3'.tab (by decide))
  rw [show best h2F 300 17 = (2, 8) from by decide] at HF1
  go_wp2_with fail
  refine HF1.out.mono ?_
  rintro e w4 ⟨_, h4, g4⟩
  obtain rfl := h4 (by decide)
  clear h4
  have t4 := t3'.below g4.below
  have hB4 := below_call hB3 g4.below
  clear g4 t3' HF1
  have HF2 := Lib.hid (find_in 5 w4 t4.tab (by decide))
  rw [show best h2F 5 17 = (1, 0) from by decide] at HF2
  go_wp2_with fail
  refine HF2.out.mono ?_
  rintro e w5 ⟨_, h5, g5⟩
  obtain rfl := h5 (by decide)
  clear h5
  have hB5 := below_call hB4 g5.below
  clear g5 t4 HF2
  go_wp2
  go_ret
  exact ⟨rfl, hB5⟩
theorem inPB_pn {a l x : Nat} (h : checkE a l = 0) : inPB a l x = decide (pn x l = pn a l) := by
  obtain ⟨_, _, _, _, hm⟩ := checkE_ok h
  have hz : szI (l : Int) = ((2 ^ (16 - l) : Nat) : Int) := rfl
  rw [hz] at hm
  have hal : a % 2 ^ (16 - l) = 0 := by
    have : ((a % 2 ^ (16 - l) : Nat) : Int) = 0 := by rw [← hm]; simp
    omega
  unfold inPB
  rw [decide_eq_decide, in_pn hal, hz]
  omega
end Go.Proofs.YtfgpppgehbpblaaDoor
