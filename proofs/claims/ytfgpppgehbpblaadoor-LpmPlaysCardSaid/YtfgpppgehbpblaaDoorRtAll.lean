/- Routes: the closure down the whole tree, the sort, and the row of the routes. -/
import Derived.Test.YtfgpppgehbpblaaDoorRtWalk
import Derived.Test.YtfgpppgehbpblaaDoorRSort
import Derived.Laws.EntriesVeiled
import Derived.RangeFuncNested
namespace Go.Proofs.YtfgpppgehbpblaaDoor
open Go.RowKit Lp
attribute [local go_sem ↓] Go.wp_at_zero Go.wp_at_succ
section
variable {S : Nat → Prop} {tb r : Nat} {F : Nat → Nat → Option Nat} {h : Hops} {many : Int} {n₀ po pw : Nat}
theorem walk_any (hS : ∀ i, S i → i < n₀) : ∀ (n k v b : Nat), n + k = 16 → F k v = some b → ∀ (w : World) (s : Value) (out : List Rt), TabF w S tb r F h many → Wk n₀ po pw w s out → out.length + 4 * 2 ^ n ≤ 900000 →
    Calls Tryd.prog 40 #[.pointer (some ⟨b, 0, none⟩), .agg #[.int .i64 ((v * 2 ^ (16 - k) : Nat) : Int), .int .i64 (k : Int)], .pointer (some ⟨po, 0, none⟩), .pointer (some ⟨pw, 0, none⟩)] w (WkPost n₀ po pw w s (out ++ preR h n k v))
  | 0, k, v, b, hnk, hb, w, s, out, t, hw, hl => walk_step 0 k v b 1 hnk hb hS (fun j _ b' hb' => absurd (t.deep _ _ _ hb') (by omega)) (fun j _ => by simp [kidR]) (by omega) w s out t hw (by simpa using hl)
  | n + 1, k, v, b, hnk, hb, w, s, out, t, hw, hl => walk_step (n + 1) k v b (2 ^ (n + 1)) hnk hb hS (fun j _ b' hb' w s out t hw hl => walk_any hS n (k + 1) (2 * v + j) b' (by omega) hb' w s out t hw (by rw [Nat.pow_succ] at hl; omega)) (fun j _ => by
      have := preR_len h n (k + 1) (2 * v + j)
      show (preR h n (k + 1) (2 * v + j)).length + 1 ≤ _
      omega) (Px.pow_pos _) w s out t hw hl
theorem Wk.of_grown {w w' : World} {v : Value} {out : List Rt} (h : Wk n₀ po pw w v out) (hg : w.grownBy w' v.ownBlock) (ho : OwnT w' n₀ v out) : Wk n₀ po pw w' v out :=
  ⟨h.box.kept hg (h.box.not_row rte_ne h.own), h.fn.kept hg (h.fn.not_row rte_ne2 h.own), ho, Nat.le_trans h.low hg.size, h.gpo, h.gpw, h.ne⟩
def RoutesPost (h : Hops) (w : World) (e : Ending) (w' : World) : Prop :=
  ∃ v, e = .returned v ∧ OwnT w' w.heap.size v (routesL h) ∧ Below w.heap.size w w'
theorem wk_start (w : World) : Wk w.heap.size w.heap.size (w.heap.size + 1) (((w.alloc (.cells #[.slice none 0 0] 47)).alloc (.cells #[.nilFunc] 77)).setCell ⟨w.heap.size + 1, 0, none⟩ (.func (.func 40) #[] #[.pointer (some ⟨w.heap.size, 0, none⟩), .pointer (some ⟨(w.heap.size + 1), 0, none⟩)])) (.slice none 0 0) [] ∧ Below w.heap.size w (((w.alloc (.cells #[.slice none 0 0] 47)).alloc (.cells #[.nilFunc] 77)).setCell ⟨w.heap.size + 1, 0, none⟩ (.func (.func 40) #[] #[.pointer (some ⟨w.heap.size, 0, none⟩), .pointer (some ⟨(w.heap.size + 1), 0, none⟩)])) := by
  have b1 : Boxed ((w.alloc (.cells #[.slice none 0 0] 47)).alloc (.cells #[.nilFunc] 77)) w.heap.size 47 (.slice none 0 0) := (Boxed.new w _ _).alloc _
  have b2 : Boxed ((w.alloc (.cells #[.slice none 0 0] 47)).alloc (.cells #[.nilFunc] 77)) (w.heap.size + 1) 77 .nilFunc := by
    have := Boxed.new (w.alloc (.cells #[.slice none 0 0] 47)) 77 .nilFunc
    simpa using this
  have g0 : Grew w ((w.alloc (.cells #[.slice none 0 0] 47)).alloc (.cells #[.nilFunc] 77)) := ((Grew.refl w).alloc _).alloc _
  have hn : w.heap.size ≠ w.heap.size + 1 := by omega
  refine ⟨⟨Boxed.other b1 hn _, b2.set _, OwnT.nil_ _ _, ?_, Nat.le_refl _, by omega, by omega⟩, ⟨?_, ?_, ?_, ?_, fun i hi => ?_⟩⟩
  · simp; omega
  · first | rfl | simp
  · first | rfl | simp
  · first | rfl | simp
  · simp; omega
  · rw [Below.heap_setCell _ ⟨w.heap.size + 1, 0, none⟩ _ i (by simp; omega)]
    exact g0.below.block i hi
set_option maxRecDepth 100000 in
set_option maxHeartbeats 8000000 in
theorem routes_any (w : World) (t : TabF w S tb r F h many) (hS : ∀ i, S i → i < w.heap.size) :
    Calls Tryd.prog 20 #[.pointer (some ⟨tb, 0, none⟩)] w (RoutesPost h w) := by
  have hr := t.root_cell
  have HT := Lib.hid t
  obtain ⟨hk, hB⟩ := wk_start w
  have hfz : ((w.alloc (.cells #[.slice none 0 0] 47)).alloc (.cells #[.nilFunc] 77)).frozen? ⟨w.heap.size + 1, 0, none⟩ = false := by simp
  have hcz : ((w.alloc (.cells #[.slice none 0 0] 47)).alloc (.cells #[.nilFunc] 77)).cell? ⟨w.heap.size + 1, 0, none⟩ = some .nilFunc := by simp
  obtain ⟨w1, hw1⟩ : ∃ w1, ((w.alloc (.cells #[.slice none 0 0] 47)).alloc (.cells #[.nilFunc] 77)).setCell ⟨w.heap.size + 1, 0, none⟩ (.func (.func 40) #[] #[.pointer (some ⟨w.heap.size, 0, none⟩), .pointer (some ⟨(w.heap.size + 1), 0, none⟩)]) = w1 := ⟨_, rfl⟩
  rw [hw1] at hk hB
  have t1 : TabF w1 S tb r F h many := t.keep fun i hi _ => hB.block i (hS i hi)
  have hr1 := t1.root_cell
  have hnb := hk.fn.cell
  have HK := Lib.hid hk
  have HB := Lib.hid hB
  have HT1 := Lib.hid t1
  clear hk hB t1 t
  go_enter Tryd.func20, Tryd.ntmps20
  go_wp2_with fail
  have hgd : Grew w1 w1.drew := (Grew.refl w1).drewN 1
  have HC : Hid (Calls Tryd.prog 40 #[.pointer (some ⟨r, 0, none⟩), .agg #[.int .i64 0, .int .i64 0], .pointer (some ⟨w.heap.size, 0, none⟩), .pointer (some ⟨w.heap.size + 1, 0, none⟩)] w1.drew (WkPost w.heap.size w.heap.size (w.heap.size + 1) w1.drew (.slice none 0 0) (routesL h))) := Lib.hid (walk_any hS 16 0 0 r rfl (HT1.out).root w1.drew (.slice none 0 0) [] ((HT1.out).grew hgd) ((HK.out).grew hgd) (by decide))
  have HGD := Lib.hid hgd
  clear hgd hfz hcz hw1
  go_region_held3 (fun w' => w'.cell? ⟨tb, 0, none⟩ = some (.pointer (some ⟨r, 0, none⟩)) ∧ w'.cell? ⟨w.heap.size + 1, 0, none⟩ = some (.func (.func 40) #[] #[.pointer (some ⟨w.heap.size, 0, none⟩), .pointer (some ⟨(w.heap.size + 1), 0, none⟩)])) (go_keep) ((go_at_call 40; (with_reducible refine HC.out.mono ?_); rintro e w4 ⟨rfl, s4, hs4, hT4⟩; have HS4 := Lib.hid hs4; have HT4 := Lib.hid ((WkTo.grew _ HGD.out).trans hT4); have hbx := (HS4.out).box.cell; have hp43 := (HS4.out).fn.cell; have hp44 := ((HT1.out).wk hS HK.out HT4.out).root_cell))
  all_goals
    have HB4 := Lib.hid ((HB.out).trans ((HT4.out).below HK.out))
    rcases (HS4.out).own.2 with ⟨h0, hz⟩ | ⟨g', cap', cur, hv, hg, hb, h1, h2, h3, h4⟩
    · subst h0
      have HZ : Hid (OwnT w4 w.heap.size (.slice none 0 0) (routesL h)) := Lib.hid (HS4.out).own
      clear hr hr1 hnb hs4 hT4 hp43 hp44 hz
      go_wp2_with (go_at_call 41; (with_reducible refine (sortR_none _).mono ?_); rintro e w5 ⟨rfl, rfl⟩)
      go_ret
      exact ⟨_, rfl, HZ.out, HB4.out⟩
    · subst hv
      have HSO := Lib.hid (sortR_any g' cap' (routesL h) w.heap.size w4 (routes_sorted h) (by have := preR_len h 16 0 0; show (preR h 16 0 0).length ≤ _; omega) (HS4.out).low (HS4.out).own)
      clear hr hr1 hnb hs4 hT4 hp43 hp44 hg hb h1 h2 h3 h4
      generalize hE : routesL h = xs at *
      go_wp2_with (go_at_call 41; (with_reducible refine HSO.out.mono ?_); rintro e w5 ⟨rfl, ho5, hg5⟩; have HS5 := Lib.hid ((HS4.out).of_grown hg5 ho5); have HG5 := Lib.hid hg5; have hbx5 := (HS5.out).box.cell)
      go_ret
      exact ⟨_, rfl, by rw [hE]; exact (HS5.out).own, below_ownT (v := .slice (some ⟨g', 0, none⟩) xs.length cap') HB4.out HG5.out (HS4.out).low (HS4.out).own⟩
end
end Go.Proofs.YtfgpppgehbpblaaDoor
