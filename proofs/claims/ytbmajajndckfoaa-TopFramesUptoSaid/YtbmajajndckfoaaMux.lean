/- The contracts of package mux, at its fourth stream: New, Put, Read. -/
import Derived.Test.YtbmajajndckfoaaJoinPlain
import Derived.Test.YtbmajajndckfoaaBRow
import Derived.Test.YtbmajajndckfoaaWithin
import Derived.Test.YtbmajajndckfoaaErrW
import Derived.Test.YtbmajajndckfoaaGrown
import Derived.Outline
import Derived.Deep.DrawnRows
import Derived.Deep.QuietTactic
import Derived.BigQuiet
import Derived.RegionTactic
import Derived.ChangeAlike
import Derived.BigRegion
namespace Go.Proofs.Ytbmajajndckfoaa
open Go.RowKit
attribute [local go_sem ↓] Go.wp_at_zero Go.wp_at_succ
theorem OnlyAt.drew {b : Nat} {w w' : World} (h : OnlyAt b w w') : OnlyAt b w w'.drew := ⟨h.os, h.tape, h.output, h.size, h.block⟩
theorem OnlyAt.drewN {b : Nat} {w w' : World} (h : OnlyAt b w w') (n : Nat) : OnlyAt b w (w'.drewN n) := ⟨h.os, h.tape, h.output, h.size, h.block⟩
/-- The cells of the ends: three streams of which nothing came, and the fourth one. -/
def cellM (h : Nat → Bool) (d : Nat → Int) (r : Int) (i : Nat) : Value :=
  if i < 1203 then (if i % 401 < 200 then .bool false else if i % 401 < 400 then .int .u8 0 else .int .i64 0)
  else if i < 1403 then .bool (h (i - 1203)) else if i < 1603 then .int .u8 (d (i - 1403)) else .int .i64 r
def muxC (h : Nat → Bool) (d : Nat → Int) (r : Int) : Array Value := ((List.range 1604).map (cellM h d r)).toArray
theorem muxC_size (h : Nat → Bool) (d : Nat → Int) (r : Int) : (muxC h d r).size = 1604 := by simp [muxC]
theorem muxC_ne (h : Nat → Bool) (d : Nat → Int) (r : Int) : ¬ muxC h d r = #[] := fun e => by have := muxC_size h d r; rw [e] at this; cases this
theorem muxC_get (h : Nat → Bool) (d : Nat → Int) (r : Int) (i : Nat) (hi : i < 1604) : (muxC h d r)[i]? = some (cellM h d r i) := by simp [muxC, hi]
theorem muxC_put {h h' : Nat → Bool} {d d' : Nat → Int} {r r' : Int} {k : Nat} {v : Value} (hk : cellM h' d' r' k = v) (ho : ∀ i, i < 1604 → i ≠ k → cellM h' d' r' i = cellM h d r i) : (muxC h d r).setIfInBounds k v = muxC h' d' r' := by
  apply Array.ext
  · simp [muxC]
  · intro j h1 h2
    rw [Array.getElem_setIfInBounds (by simpa using h1)]
    simp only [muxC, List.getElem_toArray, List.getElem_map, List.getElem_range]
    by_cases e : k = j
    · subst e; rw [if_pos rfl, hk]
    · rw [if_neg e, ho j (by simpa [muxC] using h2) (fun h => e h.symm)]
theorem info_mux : (Try.prog.info? 78).map (·.zero) = some (some (.agg (muxC (fun _ => false) (fun _ => 0) 0))) := by kernel_rfl
theorem zeroMux (w : World) : Sem.run Try.prog (zeroValue 78) w = .ok (.agg (muxC (fun _ => false) (fun _ => 0) 0)) w := by
  rcases h : Try.prog.info? 78 with _ | i
  · have := info_mux; rw [h] at this; cases this
  · have hz := info_mux
    rw [h] at hz
    simp only [Option.map_some, Option.some.injEq] at hz
    simp [zeroValue, typeInfo, h, hz]
/-- The block b holds the ends. -/
def Mux (w : World) (b : Nat) (h : Nat → Bool) (d : Nat → Int) (r : Int) : Prop := w.heap[b]? = some (.cells (muxC h d r) 78 (0, 0))
theorem Mux.new' (w : World) {cs : Array Value} {h : Nat → Bool} {d : Nat → Int} {r : Int} (e : cs = muxC h d r) : Mux (w.alloc (.cells cs 78)) w.heap.size h d r := by
  subst e
  show (w.heap.push _)[w.heap.size]? = _
  simp
section
variable {w w' : World} {b : Nat} {h : Nat → Bool} {d : Nat → Int} {r : Int}
theorem Mux.cell (m : Mux w b h d r) {i : Nat} (hi : i < 1604) : w.cell? ⟨b, i, none⟩ = some (cellM h d r i) := by
  unfold Mux at m
  simp [World.cell?, m, muxC_get h d r i hi]
theorem Mux.has (m : Mux w b h d r) {i : Nat} (hi : i < 200) : w.cell? ⟨b, 1203 + i, none⟩ = some (.bool (h i)) := by
  rw [m.cell (by omega)]
  unfold cellM
  rw [if_neg (by omega), if_pos (by omega), Nat.add_sub_cancel_left]
theorem Mux.data (m : Mux w b h d r) {i : Nat} (hi : i < 200) : w.cell? ⟨b, 1403 + i, none⟩ = some (.int .u8 (d i)) := by
  rw [m.cell (by omega)]
  unfold cellM
  rw [if_neg (by omega), if_neg (by omega), if_pos (by omega), Nat.add_sub_cancel_left]
theorem Mux.read (m : Mux w b h d r) : w.cell? ⟨b, 1603, none⟩ = some (.int .i64 r) := by
  rw [m.cell (by omega)]
  unfold cellM
  rw [if_neg (by omega), if_neg (by omega), if_neg (by omega)]
theorem Mux.frozen (m : Mux w b h d r) (i : Nat) : w.frozen? ⟨b, i, none⟩ = false := frozen_of_row w b i _ _ m
theorem Mux.lt (m : Mux w b h d r) : b < w.heap.size := (Array.getElem?_eq_some_iff.1 m).1
theorem Mux.below (m : Mux w b h d r) (hb : Below w.heap.size w w') : Mux w' b h d r := (hb.block b m.lt).trans m
theorem Mux.put2 (m : Mux w b h d r) {i : Nat} (z : Int) (hi : i < 200) : Mux ((w.setCell ⟨b, 1203 + i, none⟩ (.bool true)).setCell ⟨b, 1403 + i, none⟩ (.int .u8 z)) b (fun j => if j = i then true else h j) (fun j => if j = i then z else d j) r := by
  unfold Mux at m ⊢
  have h1 := heap_setCell_same w b (1203 + i) _ _ (.bool true) m
  have h2 := heap_setCell_same _ b (1403 + i) _ _ (.int .u8 z) h1
  rw [h2]
  have e1 : (muxC h d r).setIfInBounds (1203 + i) (.bool true) = muxC (fun j => if j = i then true else h j) d r := muxC_put (by
    unfold cellM
    rw [if_neg (by omega), if_pos (by omega), Nat.add_sub_cancel_left]
    simp) (fun j hlt hj => by
    unfold cellM
    by_cases g1 : j < 1203
    · rw [if_pos g1, if_pos g1]
    · rw [if_neg g1, if_neg g1]
      by_cases g2 : j < 1403
      · rw [if_pos g2, if_pos g2]
        simp only
        rw [if_neg (by omega)]
      · rw [if_neg g2, if_neg g2])
  have e2 : (muxC (fun j => if j = i then true else h j) d r).setIfInBounds (1403 + i) (.int .u8 z) = muxC (fun j => if j = i then true else h j) (fun j => if j = i then z else d j) r := muxC_put (by
    unfold cellM
    rw [if_neg (by omega), if_neg (by omega), if_pos (by omega), Nat.add_sub_cancel_left]
    simp) (fun j hlt hj => by
    unfold cellM
    by_cases g1 : j < 1203
    · rw [if_pos g1, if_pos g1]
    · rw [if_neg g1, if_neg g1]
      by_cases g2 : j < 1403
      · rw [if_pos g2, if_pos g2]
      · rw [if_neg g2, if_neg g2]
        by_cases g3 : j < 1603
        · rw [if_pos g3, if_pos g3]
          simp only
          rw [if_neg (by omega)]
        · rw [if_neg g3, if_neg g3])
  rw [e1, e2]
theorem Mux.setRead (m : Mux w b h d r) (z : Int) : Mux (w.setCell ⟨b, 1603, none⟩ (.int .i64 z)) b h d z := by
  unfold Mux at m ⊢
  rw [heap_setCell_same w b 1603 _ _ (.int .i64 z) m]
  rw [muxC_put (h' := h) (d' := d) (r' := z) (by
    unfold cellM
    rw [if_neg (by omega), if_neg (by omega), if_neg (by omega)]) (fun j hlt hj => by
    unfold cellM
    by_cases g1 : j < 1203
    · rw [if_pos g1, if_pos g1]
    · rw [if_neg g1, if_neg g1]
      by_cases g2 : j < 1403
      · rw [if_pos g2, if_pos g2]
      · rw [if_neg g2, if_neg g2]
        by_cases g3 : j < 1603
        · rw [if_pos g3, if_pos g3]
        · rw [if_neg g3, if_neg g3]
          omega)]
end
attribute [local go_sem] zeroMux muxC_size muxC_ne
theorem muxNew_any (w : World) : Calls Try.prog 24 #[] w fun e w' => e = .returned (.pointer (some ⟨w.heap.size, 0, none⟩)) ∧ Below w.heap.size w w' ∧ Mux w' w.heap.size (fun _ => false) (fun _ => 0) 0 := by
  go_enter Try.func24, Try.ntmps24
  go_wp2_with fail
  go_ret
  exact ⟨rfl, (Below.refl _ _).alloc (Nat.le_refl _) _, Mux.new' w (by first | rfl | kernel_rfl)⟩
def putH (h : Nat → Bool) (a k : Nat) : Nat → Bool := fun i => decide (a ≤ i ∧ i < a + k) || h i
theorem putH_zero (h : Nat → Bool) (a : Nat) : putH h a 0 = h := by
  funext i
  unfold putH
  rw [decide_eq_false (by omega), Bool.false_or]
theorem putH_succ (h : Nat → Bool) (a k : Nat) : putH h a (k + 1) = fun j => if j = a + k then true else putH h a k j := by
  funext i
  unfold putH
  by_cases e : i = a + k
  · rw [if_pos e, decide_eq_true (by omega), Bool.true_or]
  · rw [if_neg e]
    congr 1
    rw [decide_eq_decide]
    omega
attribute [local go_sem] conv_bytes
set_option maxRecDepth 100000 in
set_option maxHeartbeats 4000000 in
theorem put_ok (b an : Nat) (s : ByteArray) (w : World) (h : Nat → Bool) (d : Nat → Int) (m : Mux w b h d 0) (ha : an + s.size ≤ 200) (hc : ∀ j, j < s.size → h (an + j) = true → d (an + j) = byteI s j) :
    Calls Try.prog 25 #[.pointer (some ⟨b, 0, none⟩), .agg #[.int .i64 3, .int .i64 an, .string s]] w fun e w' => e = .returned .nilIface ∧ OnlyAt b w w' ∧ Mux w' b (putH h an s.size) (putF d an s s.size) 0 := by
  have HC := Lib.hid hc
  have hbl := m.lt
  have i1 : inB 3 0 3 = true := rfl
  have i2 : inB (an : Int) 0 200 = true := inB_true.2 ⟨by omega, by omega⟩
  have hd0 : Below w.heap.size w (w.alloc (.cells #[.int .i64 3, .int .i64 an, .string s] 53)) := (Below.refl _ _).alloc (Nat.le_refl _) _
  have hp1 : (w.alloc (.cells #[.int .i64 3, .int .i64 an, .string s] 53)).cell? ⟨w.heap.size, 0, none⟩ = some (.int .i64 3) := by simp
  have hp2 : (w.alloc (.cells #[.int .i64 3, .int .i64 an, .string s] 53)).cell? ⟨w.heap.size, 1, none⟩ = some (.int .i64 an) := by simp
  have hp3 : (w.alloc (.cells #[.int .i64 3, .int .i64 an, .string s] 53)).cell? ⟨w.heap.size, 2, none⟩ = some (.string s) := by simp
  have hm1 := m.below hd0
  have hsub : IntKind.i64.wrap (200 - (an : Int)) = 200 - (an : Int) := IntWalk.i64_in _ (by constructor <;> omega)
  have hle : ¬ (200 : Int) - (an : Int) < (s.size : Int) := by omega
  have I1 := Lib.hid i1
  have I2 := Lib.hid i2
  clear hc m i1 i2
  go_enter Try.func25, Try.ntmps25
  go_wp2_with (first | ((go_at_call 30; (with_reducible refine (within_any _ _ _ _).mono ?_); rintro e w' ⟨rfl, rfl⟩); rw [I1.out]) | ((go_at_call 30; (with_reducible refine (within_any _ _ _ _).mono ?_); rintro e w' ⟨rfl, rfl⟩); rw [I2.out]))
  go_quiet (fail)
  obtain ⟨w1, hw1⟩ : ∃ w1, (w.alloc (.cells #[.int .i64 3, .int .i64 an, .string s] 53)).drewN nq = w1 := ⟨_, rfl⟩
  have hB1 : Below w.heap.size w w1 := by rw [← hw1]; exact below_drewN hd0 nq
  have HS1 : Hid (w.heap.size < w1.heap.size) := Lib.hid (by rw [← hw1]; show w.heap.size < (w.alloc (.cells #[.int .i64 3, .int .i64 an, .string s] 53)).heap.size; simp)
  have hq2 : w1.cell? ⟨w.heap.size, 1, none⟩ = some (.int .i64 an) := by rw [← hw1]; exact hp2
  have hq3 : w1.cell? ⟨w.heap.size, 2, none⟩ = some (.string s) := by rw [← hw1]; exact hp3
  have hm2 : Mux w1 b h d 0 := by rw [← hw1]; exact hm1
  rw [hw1]
  clear hp1 hp2 hp3 hm1 hd0 hw1
  have hd1 : Below w1.heap.size w1 (w1.alloc (.cells (bytesRow s (grownCap w1 s.size 0 5)) 5 ((bytesRow s (grownCap w1 s.size 0 5)).size, (bytesRow s (grownCap w1 s.size 0 5)).size + 1))).drew := ((Below.refl _ _).alloc (Nat.le_refl _) _).drew
  have hby : ∀ j, j < s.size → (w1.alloc (.cells (bytesRow s (grownCap w1 s.size 0 5)) 5 ((bytesRow s (grownCap w1 s.size 0 5)).size, (bytesRow s (grownCap w1 s.size 0 5)).size + 1))).drew.cell? ⟨w1.heap.size, j, none⟩ = some (.int .u8 (byteI s j)) := fun j hj => bytes_cell w1 s _ _ _ hj
  have hB2 := below_call hB1 hd1
  have hm3 := hm2.below hd1
  have hq2b := (hd1.cell (p := ⟨w.heap.size, 1, none⟩) (cell_lt hq2)).trans hq2
  have hq3b := (hd1.cell (p := ⟨w.heap.size, 2, none⟩) (cell_lt hq3)).trans hq3
  have HB2 := Lib.hid hB2
  have HBY := Lib.hid hby
  have HM3 := Lib.hid hm3
  have HQ2 := Lib.hid hq2b
  have HQ3 := Lib.hid hq3b
  clear hB1 hd1 hby hB2 hm2 hm3 hq2 hq2b hq3b
  go_wp2_with fail
  clear hq3
  generalize hw2 : (w1.alloc (.cells (bytesRow s (grownCap w1 s.size 0 5)) 5 ((bytesRow s (grownCap w1 s.size 0 5)).size, (bytesRow s (grownCap w1 s.size 0 5)).size + 1))).drew = w2 at *
  generalize grownCap w1 s.size 0 5 = cap at *
  clear hw2
  go_loopw [39] (fun v wq => ∃ j q : Nat, j ≤ s.size ∧ v = .int .i64 j ∧ wq = w2.drewN q) (fun v _ => s.size - (intOf v).toNat)
  case atStart => exact ⟨0, 0, Nat.zero_le _, rfl, rfl⟩
  case round =>
    obtain ⟨j, q, hj, rfl, rfl⟩ := hrel
    by_cases hjl : j < s.size
    · have hcb := HBY.out j hjl
      have hcp := HQ2.out
      have hch := HM3.out.has (i := an + j) (by omega)
      have hcd := HM3.out.data (i := an + j) (by omega)
      have HCC := Lib.hid (HC.out j hjl)
      generalize byteI s j = y at *
      generalize h (an + j) = hb at *
      generalize d (an + j) = x at *
      have hwi : IntKind.i64.wrap ((an : Int) + (j : Int)) = (an : Int) + (j : Int) := IntWalk.i64_in _ (by constructor <;> omega)
      have hti : ((an : Int) + (j : Int)).toNat = an + j := by omega
      have hi0 : (0 : Int) ≤ (an : Int) + (j : Int) := by omega
      have hi1 : (an : Int) + (j : Int) < 200 := by omega
      rcases hb with _ | _
      · go_wp2_with fail
        go_quiet (fail)
        go_wp2_with fail
        go_roundw
        case rel => exact ⟨j + 1, _, by omega, by go_num, rfl⟩
        case measure => simp [intOf]; omega
      · have hxy : x = y := HCC.out rfl
        subst hxy
        have hxx : (x != x) = false := by simp
        go_wp2_with fail
        go_quiet (fail)
        go_wp2_with fail
        go_roundw
        case rel => exact ⟨j + 1, _, by omega, by go_num, rfl⟩
        case measure => simp [intOf]; omega
    · have HW3 : Hid (∃ w3, w2.drewN q = w3 ∧ Below w.heap.size w w3 ∧ Mux w3 b h d 0 ∧ w3.cell? ⟨w.heap.size, 1, none⟩ = some (.int .i64 an) ∧ w3.cell? ⟨w.heap.size, 2, none⟩ = some (.string s)) := Lib.hid ⟨_, rfl, below_drewN HB2.out q, HM3.out, HQ2.out, HQ3.out⟩
      obtain ⟨w3, hw3, hB3, hm4, hp2, hp3⟩ := HW3.out
      rw [hw3]
      clear HW3 hw3 HB2 HBY HM3 HQ2 HQ3 HC
      have hd1 : Below w3.heap.size w3 (w3.alloc (.cells (bytesRow s (grownCap w3 s.size 0 5)) 5 ((bytesRow s (grownCap w3 s.size 0 5)).size, (bytesRow s (grownCap w3 s.size 0 5)).size + 1))).drew := ((Below.refl _ _).alloc (Nat.le_refl _) _).drew
      have hby : ∀ j, j < s.size → (w3.alloc (.cells (bytesRow s (grownCap w3 s.size 0 5)) 5 ((bytesRow s (grownCap w3 s.size 0 5)).size, (bytesRow s (grownCap w3 s.size 0 5)).size + 1))).drew.cell? ⟨w3.heap.size, j, none⟩ = some (.int .u8 (byteI s j)) := fun j hj => bytes_cell w3 s _ _ _ hj
      have hB4 := below_call hB3 hd1
      have hm5 := hm4.below hd1
      have hPl := cell_lt hp2
      have hq2b := (hd1.cell (p := ⟨w.heap.size, 1, none⟩) (cell_lt hp2)).trans hp2
      have HB4 := Lib.hid hB4
      have HBY := Lib.hid hby
      have HM5 := Lib.hid hm5
      have HQ2 := Lib.hid hq2b
      have HPL := Lib.hid hPl
      have HBS : Hid (b < w3.heap.size) := Lib.hid hm4.lt
      clear hd1 hby hB4 hm5 hm4 hq2b hp2 hB3 hPl
      go_wp2_with fail
      clear hp3
      generalize hw4 : (w3.alloc (.cells (bytesRow s (grownCap w3 s.size 0 5)) 5 ((bytesRow s (grownCap w3 s.size 0 5)).size, (bytesRow s (grownCap w3 s.size 0 5)).size + 1))).drew = w4 at *
      generalize grownCap w3 s.size 0 5 = cap2 at *
      clear hw4
      go_loopw [72] (fun v wq => ∃ j : Nat, j ≤ s.size ∧ v = .int .i64 j ∧ Mux wq b (putH h an j) (putF d an s j) 0 ∧ OnlyAt b w4 wq) (fun v _ => s.size - (intOf v).toNat)
      case atStart => exact ⟨0, Nat.zero_le _, rfl, by rw [putH_zero, putF_zero]; exact HM5.out, OnlyAt.refl _ _⟩
      case round =>
        obtain ⟨j, hj, rfl, hmj, hO⟩ := hrel
        by_cases hjl : j < s.size
        · have hcb := hO.cell (p := ⟨w3.heap.size, j, none⟩) (Nat.ne_of_gt HBS.out) (HBY.out j hjl)
          have hcp := hO.cell (p := ⟨w.heap.size, 1, none⟩) (Nat.ne_of_gt hbl) HQ2.out
          have hz1 := hmj.frozen (1203 + (an + j))
          have hz2 := hmj.frozen (1403 + (an + j))
          have hch := hmj.has (i := an + j) (by omega)
          have hcd := hmj.data (i := an + j) (by omega)
          have hset := hmj.put2 (i := an + j) (byteI s j) (by omega)
          rw [← putH_succ, ← putF_succ] at hset
          have HSET := Lib.hid hset
          have HO2 := Lib.hid ((hO.set (1203 + (an + j)) (.bool true)).set (1403 + (an + j)) (.int .u8 (byteI s j)))
          clear hset hmj
          generalize byteI s j = y at *
          generalize putH h an j (an + j) = hb at *
          generalize putF d an s j (an + j) = x at *
          have hwi : IntKind.i64.wrap ((an : Int) + (j : Int)) = (an : Int) + (j : Int) := IntWalk.i64_in _ (by constructor <;> omega)
          have hti : ((an : Int) + (j : Int)).toNat = an + j := by omega
          have hi0 : (0 : Int) ≤ (an : Int) + (j : Int) := by omega
          have hi1 : (an : Int) + (j : Int) < 200 := by omega
          go_wp2_with fail
          go_region
          go_wp2_with fail
          go_roundw
          case rel => exact ⟨j + 1, by omega, by go_num, HSET.out, HO2.out.drew⟩
          case measure => simp [intOf]; omega
        · obtain rfl : j = s.size := by omega
          go_wp2
          go_ret
          exact ⟨rfl, OnlyAt.trans ⟨HB4.out.os, HB4.out.tape, HB4.out.output, HB4.out.size, fun i hi _ => HB4.out.block i hi⟩ hO, hmj⟩
/-- The bytes of a string. -/
def bytesL (t : ByteArray) : List Int := (List.range t.size).map (byteI t)
theorem bytesL_length (t : ByteArray) : (bytesL t).length = t.size := by simp [bytesL]
theorem bytesL_str (t : ByteArray) : strB (bytesL t) = t := by
  have hs : (strB (bytesL t)).size = t.size := by
    unfold strB bytesL
    show (List.toArray _).size = _
    simp only [List.size_toArray, List.length_map, List.length_range]
  refine ByteArray.ext_getElem hs fun i h1 h2 => ?_
  show (strB (bytesL t)).data[i] = t[i]
  simp only [strB, bytesL, List.getElem_toArray, List.getElem_map, List.getElem_range]
  exact ofNat_byte t i h2
theorem Mux.bytes {w : World} {b : Nat} {h : Nat → Bool} {d : Nat → Int} {r : Int} {t : ByteArray} (m : Mux w b h d r) (ht : t.size ≤ 200) (hd : ∀ i, i < t.size → d i = byteI t i) : Rds w 1 (some ⟨b, 1403, none⟩) t.size (bc (bytesL t)) := by
  refine ⟨by rw [bc_length, bytesL_length]; omega, fun _ => ⟨b, 1403, rfl, fun j hj => ?_⟩⟩
  rw [bc_length, bytesL_length] at hj
  rw [m.data (by omega), bc_get _ j (by rw [bytesL_length]; exact hj), hd j hj]
  simp [bytesL]
def readM (b : Nat) (w : World) : Nat := match w.cell? ⟨b, 1603, none⟩ with
  | some (.int _ z) => z.toNat
  | _ => 0
theorem Mux.readM {w : World} {b : Nat} {h : Nat → Bool} {d : Nat → Int} {n : Nat} (m : Mux w b h d n) : readM b w = n := by
  unfold Go.Proofs.Ytbmajajndckfoaa.readM
  rw [m.read]
  simp
set_option maxRecDepth 100000 in
set_option maxHeartbeats 4000000 in
theorem read_ok (b : Nat) (t : ByteArray) (w : World) (h : Nat → Bool) (d : Nat → Int) (m : Mux w b h d 0) (ht : t.size ≤ 200) (hh : ∀ i, i < 200 → h i = decide (i < t.size)) (hd : ∀ i, i < t.size → d i = byteI t i) :
    Calls Try.prog 26 #[.pointer (some ⟨b, 0, none⟩), .int .i64 3] w fun e w' => e = .returned (.tuple #[.string t, .nilIface]) ∧ OnlyAt b w w' := by
  have HH := Lib.hid hh
  have HD := Lib.hid hd
  have I1 : Hid (inB 3 0 3 = true) := Lib.hid rfl
  have hread := m.read
  have HM := Lib.hid m
  clear hh hd m
  go_enter Try.func26, Try.ntmps26
  go_wp2_with ((go_at_call 30; (with_reducible refine (within_any _ _ _ _).mono ?_); rintro e w' ⟨rfl, rfl⟩); rw [I1.out])
  clear hread
  go_loopw [36] (fun _ wq => ∃ n : Nat, n ≤ t.size ∧ Mux wq b h d n ∧ OnlyAt b w wq) (fun _ wq => 200 - readM b wq)
  case atStart => exact ⟨0, Nat.zero_le _, HM.out, OnlyAt.refl _ _⟩
  case round =>
    obtain ⟨n, hn, hm, hO⟩ := hrel
    have hread := hm.read
    have hz := hm.frozen 1603
    by_cases hlt : n < t.size
    · have hhas := hm.has (i := n) (by omega)
      rw [HH.out n (by omega), decide_eq_true hlt] at hhas
      have hn200 : (n : Int) < 200 := by omega
      have hmq : ∀ q, Mux (wr.drewN q) b h d n := fun _ => hm
      have HSET : Hid (∀ q, Mux ((wr.drewN q).setCell ⟨b, 1603, none⟩ (.int .i64 ((n : Int) + 1))) b h d ((n + 1 : Nat) : Int)) := Lib.hid (fun q => by
        have := (hmq q).setRead ((n : Int) + 1)
        rw [show ((n + 1 : Nat) : Int) = (n : Int) + 1 from by omega]
        exact this)
      have HRM := Lib.hid hm.readM
      clear hm hmq
      go_wp2_with fail
      go_quiet (fail)
      go_wp2_with fail
      go_roundw
      case rel => exact ⟨n + 1, by omega, HSET.out _, (hO.drewN _).set 1603 _⟩
      case measure => rw [(HSET.out _).readM, HRM.out]; omega
    · obtain rfl : n = t.size := by omega
      have hbs := hm.bytes ht HD.out
      have hcv : ∀ q, (convert 62 9 (.slice (some ⟨b, 1403, none⟩) t.size 200)).run Try.prog (wr.drewN q) = .ok (.string t) (wr.drewN q) := fun q => by
        have := conv_str (wr.drewN q) (some ⟨b, 1403, none⟩) t.size 200 (bytesL t) (hbs.drewN q) (fun x hx => by
          simp only [bytesL, List.mem_map] at hx
          obtain ⟨i, _, rfl⟩ := hx
          exact byteI_range t i)
        rw [bytesL_str] at this
        exact this
      have hl63 : t.size ≤ 200 := ht
      have hl64 : (t.size : Int) ≤ 200 := by omega
      have hl65 : (0 : Int) ≤ (t.size : Int) := by omega
      clear hbs
      by_cases h200 : t.size < 200
      · have hhas := hm.has (i := t.size) h200
        rw [HH.out _ h200, decide_eq_false (Nat.lt_irrefl _)] at hhas
        have hn200 : (t.size : Int) < 200 := by omega
        clear hm
        go_wp2_with fail
        go_quiet (fail)
        go_wp2_with fail
        go_quiet (fail)
        go_wp2_with fail
        go_ret2
        exact ⟨rfl, (hO.drewN _).drewN _⟩
      · have hn200 : decide ((t.size : Int) < 200) = false := by rw [decide_eq_false_iff_not]; omega
        clear hm
        go_wp2_with fail
        go_quiet (fail)
        go_wp2_with fail
        go_quiet (fail)
        go_wp2_with fail
        go_ret2
        exact ⟨rfl, (hO.drewN _).drewN _⟩
end Go.Proofs.Ytbmajajndckfoaa
