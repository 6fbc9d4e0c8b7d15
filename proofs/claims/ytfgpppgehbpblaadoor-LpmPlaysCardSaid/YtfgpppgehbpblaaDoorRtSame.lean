/- E.Routes at twice the same routes; rows of routes where a table has changed. -/
import Derived.Test.YtfgpppgehbpblaaDoorRtAll
namespace Go.Proofs.YtfgpppgehbpblaaDoor
open Go.RowKit Lp
attribute [local go_sem ↓] Go.wp_at_zero Go.wp_at_succ
theorem Rds.chg {S : Nat → Prop} {w w' : World} {A : Option Addr} {n : Nat} {xs : List Rt} (hr : Rds w 3 A n (rc xs)) (hc : Chg S w w') (hA : ∀ b off, A = some ⟨b, off, none⟩ → ¬ S b ∧ b < w.heap.size) : Rds w' 3 A n (rc xs) := by
  refine ⟨hr.1, fun hp => ?_⟩
  obtain ⟨b, off, rfl, hcell⟩ := hr.2 hp
  obtain ⟨h1, h2⟩ := hA b off rfl
  exact ⟨b, off, rfl, fun j hj => (World.cell?_of_block (w := w) (hc.block b h2 h1)).trans (hcell j hj)⟩
theorem OwnT.at_ {w : World} {base n c b off : Nat} {xs : List Rt} (h : OwnT w base (.slice (some ⟨b, off, none⟩) n c) xs) : base ≤ b ∧ b < w.heap.size := own_lt h rfl
set_option maxRecDepth 100000 in
set_option maxHeartbeats 4000000 in
theorem sameRoutes_any (xs : List Rt) (A B : Option Addr) (c d : Nat) (w : World) (hr : Rds w 3 A xs.length (rc xs)) (hs : Rds w 3 B xs.length (rc xs)) (hl : xs.length ≤ 1000000) :
    Calls Tryd.prog 23 #[.slice A xs.length c, .slice B xs.length d] w fun e w' => e = .returned (.bool true) ∧ Grew w w' := by
  have HR := Lib.hid hr
  have HS := Lib.hid hs
  clear hr hs
  go_enter Tryd.func23, Tryd.ntmps23
  go_wp2_with fail
  go_loopw [5] (fun v wr => ∃ i : Nat, i ≤ xs.length ∧ v = .int .i64 i ∧ Grew w wr) (fun v _ => xs.length - (intOf v).toNat)
  case atStart => exact ⟨0, Nat.zero_le _, rfl, Grew.refl _⟩
  case round =>
    obtain ⟨i, hi, rfl, hG⟩ := hrel
    by_cases hlt : i < xs.length
    · obtain ⟨b, off, hk', rfl, hx1, hx2, hx3⟩ := ((HR.out).below hG.below).rte hlt
      obtain ⟨b2, off2, _, rfl, hy1, hy2, hy3⟩ := ((HS.out).below hG.below).rte hlt
      obtain ⟨⟨ta, tl, th⟩, hT⟩ : ∃ t, xs[i] = t := ⟨_, rfl⟩
      rw [hT] at hx1 hx2 hx3 hy1 hy2 hy3
      simp only at hx1 hx2 hx3 hy1 hy2 hy3
      clear hT
      have hz1 : (0 : Int) ≤ (i : Int) ∧ (i : Int) < (xs.length : Int) := by omega
      go_wp2_with fail
      go_quiet (fail)
      go_wp2
      go_roundw
      case rel => exact ⟨i + 1, by omega, by go_num, hG.drewN _⟩
      case measure => simp [intOf]; omega
    · go_wp2
      go_ret
      exact ⟨rfl, hG⟩
end Go.Proofs.YtfgpppgehbpblaaDoor
