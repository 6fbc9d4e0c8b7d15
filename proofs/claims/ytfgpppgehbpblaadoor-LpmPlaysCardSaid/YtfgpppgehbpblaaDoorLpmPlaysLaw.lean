/- The walk of the law LpmPlays: the program's table and the document's answer alike, whatever is set and dropped. -/
import Derived.Test.YtfgpppgehbpblaaDoorPlays
namespace Go.Proofs.YtfgpppgehbpblaaDoor
open Go.RowKit Lp
attribute [local go_sem ↓] Go.wp_at_zero Go.wp_at_succ
section
variable {lo tb xb : Nat} {w : World} {h : Hops} {many : Int} {xs zs : List Rt} {A : Option Addr} {c r : Nat} {F : Nat → Nat → Option Nat} {S : Nat → Prop}
/-- What a change of the program's table comes to. -/
def PlayTo (lo tb xb : Nat) (w : World) (zs : List Rt) (A : Option Addr) (c : Nat) (ys : List Rt) (k : Int) (e : Ending) (w' : World) : Prop :=
  e = .returned (errV k) ∧ Below lo w w' ∧ ∃ (h' : Hops) (m' : Int) (r : Nat) (F' : Nat → Nat → Option Nat) (S' : Nat → Prop), Play lo tb xb w' h' m' zs A c r F' S' ∧ Same h' m' ys
theorem set_play (p : Play lo tb xb w h many zs A c r F S) (s : Same h many xs) (a l z : Int) :
    Calls Tryd.prog 22 #[.pointer (some ⟨tb, 0, none⟩), .agg #[.int .i64 a, .int .i64 l, .int .i64 z]] w (PlayTo lo tb xb w zs A c (if setR xs a l z = 0 then setL xs a l z else xs) (setR xs a l z)) := by
  refine (set_any a l z w p.tab.tab p.hi).mono ?_
  rintro e w' ⟨h1, h2⟩
  rw [s.setE] at h1 h2
  by_cases hE : setR xs a l z = 0
  · obtain ⟨rfl, S', F', T⟩ := h2 hE
    obtain ⟨q, hb⟩ := p.tabTo T
    rw [if_pos hE, hE]
    exact ⟨by rw [errV_zero], hb, _, _, _, _, _, q, s.set hE⟩
  · obtain ⟨rfl, g⟩ := h1 hE
    rw [if_neg hE]
    exact ⟨by rw [errV_ne hE], g.below.mono p.size, _, _, _, _, _, p.below g.below, s⟩
theorem drop_play (p : Play lo tb xb w h many zs A c r F S) (s : Same h many xs) (a l : Int) :
    Calls Tryd.prog 24 #[.pointer (some ⟨tb, 0, none⟩), .agg #[.int .i64 a, .int .i64 l]] w (PlayTo lo tb xb w zs A c (if dropR xs a l = 0 then dropL xs a l else xs) (dropR xs a l)) := by
  refine (drop_any a l w p.tab.tab (by have := s.many; omega)).mono ?_
  rintro e w' ⟨h1, h2⟩
  rw [s.dropE] at h1 h2
  by_cases hE : dropR xs a l = 0
  · obtain ⟨rfl, T⟩ := h2 hE
    obtain ⟨q, hb⟩ := p.tabTo T
    rw [if_pos hE, hE]
    exact ⟨by rw [errV_zero], hb, _, _, _, _, _, q, s.drop hE⟩
  · obtain ⟨rfl, g⟩ := h1 hE
    rw [if_neg hE]
    exact ⟨by rw [errV_ne hE], g.below.mono p.size, _, _, _, _, _, p.below g.below, s⟩
theorem routes_play (p : Play lo tb xb w h many zs A c r F S) (s : Same h many xs) :
    Calls Tryd.prog 20 #[.pointer (some ⟨tb, 0, none⟩)] w fun e w' => ∃ B d, e = .returned (.slice B xs.length d) ∧ Rds w' 3 B xs.length (rc xs) ∧ Below w.heap.size w w' := by
  refine (routes_any w p.tab.tab p.hi).mono ?_
  rintro e w' ⟨v, rfl, ho, hb⟩
  rw [s.list] at ho
  obtain ⟨B, d, rfl⟩ := ho.shape
  exact ⟨B, d, rfl, ho.rds, hb⟩
end
set_option maxRecDepth 100000 in
set_option maxHeartbeats 2000000 in
theorem lpmPlays_any (A : Option Addr) (n c : Nat) (xss : List (List Int)) (ad : Int) (w : World) (hr : RowsW w A n xss) (hn : n ≤ maxLen) (hl : LaidW w) :
    Calls Tryd.prog 6 #[.slice A n c, .int .i64 ad] w fun e w' => e = .returned (.bool true) ∧ Below w.heap.size w w' := by
  obtain ⟨rfl, _⟩ := id hr
  have HRW := Lib.hid hr
  have HL := Lib.hid hl
  clear hr hl
  go_enter Tryd.func6, Tryd.ntmps6
  go_wp2_with fail
  (with_reducible refine (lpmNew_in w w.heap.size (Nat.le_refl _)).mono ?_)
  rintro e w1 ⟨rfl, hB1, t1⟩
  generalize w.heap.size + 1 = tb at *
  go_wp2_with fail
  obtain ⟨xb, hxb⟩ : ∃ xb, w1.heap.size = xb := ⟨_, rfl⟩
  have HXB := Lib.hid hxb
  obtain ⟨w2, hw2⟩ : ∃ w2, w1.alloc (.cells #[.slice none 0 0] 59) = w2 := ⟨_, rfl⟩
  rw [hxb, hw2]
  have HP0 : Hid (Play w.heap.size tb xb w2 (fun _ _ => -1) 0 [] none 0 w.heap.size (fun k v => if k = 0 ∧ v = 0 then some w.heap.size else none) (fun i => i = w.heap.size ∨ i = tb)) := Lib.hid (by
    rw [← hw2, ← hxb]
    refine ⟨t1.below ((Below.refl _ _).alloc (Nat.le_refl _) _), by simp, by simp, OwnT.nil_ _ _, (fun b off e => by cases e), (fun hs => ?_), hB1.size⟩
    have := (t1.lows _ hs).2
    omega)
  have HB2 : Hid (Below w.heap.size w w2) := Lib.hid (by rw [← hw2]; exact hB1.alloc hB1.size _)
  clear hw2 t1 hB1 hxb
  go_loopw [7] (fun i wr => ∃ (k : Nat) (h : Hops) (many : Int) (xs : List Rt) (B : Option Addr) (d r : Nat) (F : Nat → Nat → Option Nat) (S : Nat → Prop), k ≤ xss.length ∧ i = .int .i64 k ∧ k ≤ 60 ∧ Hid (Play w.heap.size tb xb wr h many xs B d r F S) ∧ Hid (Same h many xs) ∧ Hid (Below w.heap.size w wr)) (fun i _ => xss.length - (intOf i).toNat)
  case atStart => exact ⟨0, _, _, [], _, _, _, _, _, Nat.zero_le _, rfl, by omega, HP0, Lib.hid Same.start, HB2⟩
  case round =>
    clear HP0 HB2
    obtain ⟨k, h, many, xs, B, d, r, F, S, hk, rfl, hk60, HP, HS, HB⟩ := hrel
    by_cases hlt : k < xss.length
    · by_cases h60 : k < 60
      · obtain ⟨b, off, C, c', rfl, hcl, hrd, hc1, hc2⟩ := ((HRW.out).below HB.out).2 k hlt
        have hk60' : (k : Int) < 60 := by omega
        obtain ⟨l, hl⟩ : ∃ l, xss[k] = l := ⟨_, rfl⟩
        rw [hl] at hcl hrd hc1
        clear hl
        by_cases h3 : l.length = 3
        · match l, h3 with
          | [x0, x1, x2], _ =>
            obtain ⟨b2, o2, _, rfl, hx0⟩ := hrd.int (k := 0) (by simp)
            obtain ⟨_, _, _, e1, hx1⟩ := hrd.int (k := 1) (by simp)
            obtain ⟨_, _, _, e2, hx2⟩ := hrd.int (k := 2) (by simp)
            injection e1 with e1
            injection e1 with e1 e1'
            subst e1
            subst e1'
            injection e2 with e2
            injection e2 with e2 e2'
            subst e2
            subst e2'
            simp only [List.getElem_cons_zero, List.getElem_cons_succ, Nat.add_zero] at hx0 hx1 hx2
            simp only [List.length_cons, List.length_nil, Nat.zero_add, Nat.reduceAdd] at hcl hc1 ⊢
            have hb2 : b2 < wr.heap.size := cell_lt hx0
            have ha0 := (World.cell?_alloc_lt wr (.cells #[.int .i64 0, .int .i64 0, .int .i64 0] 52) ⟨b2, o2, none⟩ hb2).trans hx0
            have ha1 := (World.cell?_alloc_lt wr (.cells #[.int .i64 0, .int .i64 0, .int .i64 0] 52) ⟨b2, o2 + 1, none⟩ hb2).trans hx1
            have ha2 := (World.cell?_alloc_lt wr (.cells #[.int .i64 0, .int .i64 0, .int .i64 0] 52) ⟨b2, o2 + 2, none⟩ hb2).trans hx2
            clear hrd
            go_wp2_with fail
            go_region
            obtain ⟨q, hq⟩ : ∃ q, wr.heap.size = q := ⟨_, rfl⟩
            have hw5 : Below wr.heap.size wr (wr.alloc (.cells #[.int .i64 x0, .int .i64 x1, .int .i64 x2] 52)).drew := ((Below.refl _ _).alloc (Nat.le_refl _) _).drew
            have hq0 : (wr.alloc (.cells #[.int .i64 x0, .int .i64 x1, .int .i64 x2] 52)).drew.cell? ⟨q, 0, none⟩ = some (.int .i64 x0) := by rw [← hq]; simp
            have hq1 : (wr.alloc (.cells #[.int .i64 x0, .int .i64 x1, .int .i64 x2] 52)).drew.cell? ⟨q, 1, none⟩ = some (.int .i64 x1) := by rw [← hq]; simp
            have hq2 : (wr.alloc (.cells #[.int .i64 x0, .int .i64 x1, .int .i64 x2] 52)).drew.cell? ⟨q, 2, none⟩ = some (.int .i64 x2) := by rw [← hq]; simp
            have hxq : xb < q := by rw [← hq]; exact HP.out.lt
            have hxc := HP.out.below hw5
            have HB5 := Lib.hid (HB.out.trans (hw5.mono HP.out.size))
            rw [hq]
            clear ha0 ha1 ha2 hx0 hx1 hx2 hw5 hcl hc1 hc2 hb2 HB hq HP
            generalize (wr.alloc (.cells #[.int .i64 x0, .int .i64 x1, .int .i64 x2] 52)).drew = w5 at *
            have HP5 := Lib.hid hxc
            have hx5 := hxc.cell
            have hf5 := hxc.fz
            have hxl := HS.out.few
            have HDS := Lib.hid (refSet_any xs B d w.heap.size x0 x1 x2 w5 hxc.own hxc.size (by omega) HS.out.sorted)
            obtain ⟨E, hE⟩ : ∃ E, setR xs x0 x1 x2 = E := ⟨_, rfl⟩
            have HSP := Lib.hid (fun (v : World) (zs : List Rt) A c r F S (p : Play w.heap.size tb xb v h many zs A c r F S) => set_play p HS.out x0 x1 x2)
            rw [hE] at HDS HSP
            obtain ⟨ys, hys⟩ : ∃ ys, (if E = 0 then setL xs x0 x1 x2 else xs) = ys := ⟨_, rfl⟩
            rw [hys] at HDS HSP
            clear hys hE hxc
            go_wp2_with fail
            (with_reducible refine HDS.out.mono ?_)
            rintro e w6 ⟨B', d', rfl, ho, hA, hb⟩
            obtain ⟨P7, hB7⟩ := HP5.out.put ho hA hb
            have hx6 := (hb.cell (p := ⟨xb, 0, none⟩) HP5.out.lt).trans hx5
            have hf6 := (hb.frozen (p := ⟨xb, 0, none⟩) HP5.out.lt).trans hf5
            have hy0 : (w6.setCell ⟨xb, 0, none⟩ (.slice B' ys.length d')).cell? ⟨q, 0, none⟩ = some (.int .i64 x0) := (World.cell?_of_block (w := w6) (Below.heap_setCell w6 _ _ q (by show q ≠ xb; omega))).trans ((hb.cell (p := ⟨q, 0, none⟩) (cell_lt hq0)).trans hq0)
            have hy1 : (w6.setCell ⟨xb, 0, none⟩ (.slice B' ys.length d')).cell? ⟨q, 1, none⟩ = some (.int .i64 x1) := (World.cell?_of_block (w := w6) (Below.heap_setCell w6 _ _ q (by show q ≠ xb; omega))).trans ((hb.cell (p := ⟨q, 1, none⟩) (cell_lt hq1)).trans hq1)
            have hy2 : (w6.setCell ⟨xb, 0, none⟩ (.slice B' ys.length d')).cell? ⟨q, 2, none⟩ = some (.int .i64 x2) := (World.cell?_of_block (w := w6) (Below.heap_setCell w6 _ _ q (by show q ≠ xb; omega))).trans ((hb.cell (p := ⟨q, 2, none⟩) (cell_lt hq2)).trans hq2)
            have HB7 := Lib.hid (HB5.out.trans hB7)
            have HS7 := Lib.hid (HSP.out _ ys B' d' r F S P7)
            clear P7 hB7 ho hA hb hx5 hf5 hq0 hq1 hq2 HDS HSP HP5 HB5
            go_wp2_with fail
            (with_reducible refine HS7.out.mono ?_)
            rintro e w8 ⟨rfl, hb8, h', m', r', F', S', P8, SS⟩
            have HB8 := Lib.hid (HB7.out.trans hb8)
            clear hb8 hy0 hy1 hy2 hx6 hf6 HS7 HB7
            have HER := Lib.hid (error_same E _ (HL.out.below HB8.out.drew))
            (have hx8 := P8.cell); (have hxl8 := P8.lt); (have hyl := SS.few); (have HP8 := Lib.hid P8); (have HSS := Lib.hid SS); (clear P8 SS); (go_wp2_with fail); (go_region_held3 (fun v => v.cell? ⟨xb, 0, none⟩ = some (.slice B' ys.length d')) (go_keep) ((first | (go_at_call 8; (with_reducible refine HER.out.mono ?_); rintro e w9 ⟨rfl, hb9⟩; have y1 := (hb9.cell (p := ⟨xb, 0, none⟩) hxl8).trans hx8; have P9 := HP8.out.below ((Below.refl _ _).drew.trans hb9); have HP9 := Lib.hid P9; have hxl9 := P9.lt; have HB9 := Lib.hid (HB8.out.trans (((Below.refl _ _).drew.trans hb9).mono HP8.out.size)); clear P9 hb9) | (go_at_call 20; (with_reducible refine (routes_play HP9.out HSS.out).mono ?_); rintro e w10 ⟨B2, d2, rfl, hr10, hb10⟩; have y2 := (hb10.cell (p := ⟨xb, 0, none⟩) hxl9).trans y1; have P10 := HP9.out.below hb10; have HP10 := Lib.hid P10; have hxl10 := P10.lt; have hr11 := P10.own.rds; have HB10 := Lib.hid (HB9.out.trans (hb10.mono HP9.out.size)); clear P10 hb10) | (go_at_call 23; (with_reducible refine (sameRoutes_any ys B2 B' d2 d' w10 hr10 hr11 (by omega)).mono ?_); rintro e w11 ⟨rfl, g11⟩; have y3 := g11.cell hxl10 y2)))); (all_goals (try go_simp); (go_wp2_with fail); (go_roundw); (case rel => exact ⟨k + 1, h', m', ys, B', d', r', F', S', by omega, by go_num, by omega, Lib.hid (HP10.out.below g11.below), HSS, Lib.hid (HB10.out.trans (g11.below.mono HP10.out.size))⟩); (case measure => simp [intOf]; omega))
        · have h3' : ((l.length : Int) == 3) = false := by rw [beq_eq_false_iff_ne]; omega
          by_cases h2 : l.length = 2
          · match l, h2 with
            | [x0, x1], _ =>
              obtain ⟨b2, o2, _, rfl, hx0⟩ := hrd.int (k := 0) (by simp)
              obtain ⟨_, _, _, e1, hx1⟩ := hrd.int (k := 1) (by simp)
              injection e1 with e1
              injection e1 with e1 e1'
              subst e1
              subst e1'
              simp only [List.getElem_cons_zero, List.getElem_cons_succ, Nat.add_zero] at hx0 hx1
              simp only [List.length_cons, List.length_nil, Nat.zero_add, Nat.reduceAdd] at hcl hc1 ⊢
              have hb2 : b2 < wr.heap.size := cell_lt hx0
              have ha0 := (World.cell?_alloc_lt wr (.cells #[.int .i64 0, .int .i64 0] 23) ⟨b2, o2, none⟩ hb2).trans hx0
              have ha1 := (World.cell?_alloc_lt wr (.cells #[.int .i64 0, .int .i64 0] 23) ⟨b2, o2 + 1, none⟩ hb2).trans hx1
              clear hrd h3 h3'
              go_wp2_with fail
              go_region
              obtain ⟨q, hq⟩ : ∃ q, wr.heap.size = q := ⟨_, rfl⟩
              have hw5 : Below wr.heap.size wr (wr.alloc (.cells #[.int .i64 x0, .int .i64 x1] 23)).drew := ((Below.refl _ _).alloc (Nat.le_refl _) _).drew
              have hq0 : (wr.alloc (.cells #[.int .i64 x0, .int .i64 x1] 23)).drew.cell? ⟨q, 0, none⟩ = some (.int .i64 x0) := by rw [← hq]; simp
              have hq1 : (wr.alloc (.cells #[.int .i64 x0, .int .i64 x1] 23)).drew.cell? ⟨q, 1, none⟩ = some (.int .i64 x1) := by rw [← hq]; simp
              have hxq : xb < q := by rw [← hq]; exact HP.out.lt
              have hxc := HP.out.below hw5
              have HB5 := Lib.hid (HB.out.trans (hw5.mono HP.out.size))
              rw [hq]
              clear ha0 ha1 hx0 hx1 hw5 hcl hc1 hc2 hb2 HB hq HP
              generalize (wr.alloc (.cells #[.int .i64 x0, .int .i64 x1] 23)).drew = w5 at *
              have HP5 := Lib.hid hxc
              have hx5 := hxc.cell
              have hf5 := hxc.fz
              have hxl := HS.out.few
              have HDS := Lib.hid (refDrop_any xs B d w.heap.size x0 x1 w5 hxc.own hxc.size (by omega) HS.out.sorted)
              obtain ⟨E, hE⟩ : ∃ E, dropR xs x0 x1 = E := ⟨_, rfl⟩
              have HSP := Lib.hid (fun (v : World) (zs : List Rt) A c r F S (p : Play w.heap.size tb xb v h many zs A c r F S) => drop_play p HS.out x0 x1)
              rw [hE] at HDS HSP
              obtain ⟨ys, hys⟩ : ∃ ys, (if E = 0 then dropL xs x0 x1 else xs) = ys := ⟨_, rfl⟩
              rw [hys] at HDS HSP
              clear hys hE hxc
              go_wp2_with fail
              (with_reducible refine HDS.out.mono ?_)
              rintro e w6 ⟨B', d', rfl, ho, hA, hb⟩
              obtain ⟨P7, hB7⟩ := HP5.out.put ho hA hb
              have hx6 := (hb.cell (p := ⟨xb, 0, none⟩) HP5.out.lt).trans hx5
              have hf6 := (hb.frozen (p := ⟨xb, 0, none⟩) HP5.out.lt).trans hf5
              have hy0 : (w6.setCell ⟨xb, 0, none⟩ (.slice B' ys.length d')).cell? ⟨q, 0, none⟩ = some (.int .i64 x0) := (World.cell?_of_block (w := w6) (Below.heap_setCell w6 _ _ q (by show q ≠ xb; omega))).trans ((hb.cell (p := ⟨q, 0, none⟩) (cell_lt hq0)).trans hq0)
              have hy1 : (w6.setCell ⟨xb, 0, none⟩ (.slice B' ys.length d')).cell? ⟨q, 1, none⟩ = some (.int .i64 x1) := (World.cell?_of_block (w := w6) (Below.heap_setCell w6 _ _ q (by show q ≠ xb; omega))).trans ((hb.cell (p := ⟨q, 1, none⟩) (cell_lt hq1)).trans hq1)
              have HB7 := Lib.hid (HB5.out.trans hB7)
              have HS7 := Lib.hid (HSP.out _ ys B' d' r F S P7)
              clear P7 hB7 ho hA hb hx5 hf5 hq0 hq1 HDS HSP HP5 HB5
              go_wp2_with fail
              (with_reducible refine HS7.out.mono ?_)
              rintro e w8 ⟨rfl, hb8, h', m', r', F', S', P8, SS⟩
              have HB8 := Lib.hid (HB7.out.trans hb8)
              clear hb8 hy0 hy1 hx6 hf6 HS7 HB7
              have HER := Lib.hid (error_same E _ (HL.out.below HB8.out.drew))
              (have hx8 := P8.cell); (have hxl8 := P8.lt); (have hyl := SS.few); (have HP8 := Lib.hid P8); (have HSS := Lib.hid SS); (clear P8 SS); (go_wp2_with fail); (go_region_held3 (fun v => v.cell? ⟨xb, 0, none⟩ = some (.slice B' ys.length d')) (go_keep) ((first | (go_at_call 8; (with_reducible refine HER.out.mono ?_); rintro e w9 ⟨rfl, hb9⟩; have y1 := (hb9.cell (p := ⟨xb, 0, none⟩) hxl8).trans hx8; have P9 := HP8.out.below ((Below.refl _ _).drew.trans hb9); have HP9 := Lib.hid P9; have hxl9 := P9.lt; have HB9 := Lib.hid (HB8.out.trans (((Below.refl _ _).drew.trans hb9).mono HP8.out.size)); clear P9 hb9) | (go_at_call 20; (with_reducible refine (routes_play HP9.out HSS.out).mono ?_); rintro e w10 ⟨B2, d2, rfl, hr10, hb10⟩; have y2 := (hb10.cell (p := ⟨xb, 0, none⟩) hxl9).trans y1; have P10 := HP9.out.below hb10; have HP10 := Lib.hid P10; have hxl10 := P10.lt; have hr11 := P10.own.rds; have HB10 := Lib.hid (HB9.out.trans (hb10.mono HP9.out.size)); clear P10 hb10) | (go_at_call 23; (with_reducible refine (sameRoutes_any ys B2 B' d2 d' w10 hr10 hr11 (by omega)).mono ?_); rintro e w11 ⟨rfl, g11⟩; have y3 := g11.cell hxl10 y2)))); (all_goals (try go_simp); (go_wp2_with fail); (go_roundw); (case rel => exact ⟨k + 1, h', m', ys, B', d', r', F', S', by omega, by go_num, by omega, Lib.hid (HP10.out.below g11.below), HSS, Lib.hid (HB10.out.trans (g11.below.mono HP10.out.size))⟩); (case measure => simp [intOf]; omega))
          · have h2' : ((l.length : Int) == 2) = false := by rw [beq_eq_false_iff_ne]; omega
            obtain ⟨w8, rfl⟩ : ∃ w8 : World, w8 = wr := ⟨_, rfl⟩
            have P8 := HP.out
            have SS := HS.out
            have HB8 : Hid (Below w.heap.size w w8) := HB
            have her := error_same 0 _ (HL.out.below HB8.out.drew)
            rw [errV_zero] at her
            have HER := Lib.hid her
            clear h3 h2 HP HS HB her hrd
            (have hx8 := P8.cell); (have hxl8 := P8.lt); (have hyl := SS.few); (have HP8 := Lib.hid P8); (have HSS := Lib.hid SS); (clear P8 SS); (go_wp2_with fail); (go_region_held3 (fun v => v.cell? ⟨xb, 0, none⟩ = some (.slice B xs.length d)) (go_keep) ((first | (go_at_call 8; (with_reducible refine HER.out.mono ?_); rintro e w9 ⟨rfl, hb9⟩; have y1 := (hb9.cell (p := ⟨xb, 0, none⟩) hxl8).trans hx8; have P9 := HP8.out.below ((Below.refl _ _).drew.trans hb9); have HP9 := Lib.hid P9; have hxl9 := P9.lt; have HB9 := Lib.hid (HB8.out.trans (((Below.refl _ _).drew.trans hb9).mono HP8.out.size)); clear P9 hb9) | (go_at_call 20; (with_reducible refine (routes_play HP9.out HSS.out).mono ?_); rintro e w10 ⟨B2, d2, rfl, hr10, hb10⟩; have y2 := (hb10.cell (p := ⟨xb, 0, none⟩) hxl9).trans y1; have P10 := HP9.out.below hb10; have HP10 := Lib.hid P10; have hxl10 := P10.lt; have hr11 := P10.own.rds; have HB10 := Lib.hid (HB9.out.trans (hb10.mono HP9.out.size)); clear P10 hb10) | (go_at_call 23; (with_reducible refine (sameRoutes_any xs B2 B d2 d w10 hr10 hr11 (by omega)).mono ?_); rintro e w11 ⟨rfl, g11⟩; have y3 := g11.cell hxl10 y2)))); (all_goals (try go_simp); (go_wp2_with fail); (go_roundw); (case rel => exact ⟨k + 1, h, many, xs, B, d, r, F, S, by omega, by go_num, by omega, Lib.hid (HP10.out.below g11.below), HSS, Lib.hid (HB10.out.trans (g11.below.mono HP10.out.size))⟩); (case measure => simp [intOf]; omega))
      · have h60' : ¬ (k : Int) < 60 := by omega
        (have hx8 := HP.out.cell); (rcases hin : inB ad 0 65535 with _ | _); (focus (go_wp2_with fail; (with_reducible refine (refFind_bad B xs.length d ad _ hin).mono ?_); rintro e w3 ⟨rfl, g3⟩; have HB3 := Lib.hid (HB.out.trans (g3.below.mono HP.out.size)); go_wp2_with fail; (with_reducible refine (find_bad (tb := tb) _ _ hin).mono ?_); rintro e w4 ⟨rfl, rfl⟩; clear hx8 hin; go_wp2_with fail; (with_reducible refine (error_errno 1 1 _ (HL.out.below HB3.out)).mono ?_); rintro e w5 ⟨rfl, hb5⟩; go_wp2; go_ret; exact ⟨rfl, below_call HB3.out hb5⟩)); (focus (obtain ⟨x0, x1⟩ := inB_true.1 hin; obtain ⟨x, rfl⟩ := Int.eq_ofNat_of_zero_le x0; have hx : x < 65536 := (by omega); have hxl := HS.out.few; have HCK : Hid (∀ t ∈ xs, checkE t.1 t.2.1 = 0) := Lib.hid (fun t ht => route_check (h := h) (by rw [HS.out.list]; exact ht)); have HRF := Lib.hid (refFind_any xs B d x wr HP.out.own.rds (by omega) HCK.out hin); clear hin; go_wp2_with fail; (with_reducible refine HRF.out.mono ?_); rintro e w3 ⟨z, lg, kk, rfl, g3, hf⟩; have HB3 := Lib.hid (HB.out.trans (g3.below.mono HP.out.size)); have HFI := Lib.hid (find_in x w3 (HP.out.below g3.below).tab.tab hx); obtain ⟨f1, f2⟩ := found_same HS.out hx hf; clear hf g3 HRF hx8; obtain ⟨BB, HBB⟩ : ∃ BB, Hid (best h x 17 = BB) := ⟨_, Lib.hid rfl⟩; rw [HBB.out] at f1 f2 HFI; go_wp2_with fail; (with_reducible refine HFI.out.mono ?_); rintro e w4 ⟨e1, e2, g4⟩; have HB4 := Lib.hid (below_call HB3.out g4.below); clear g4; (by_cases hneg : BB.1 < 0); (focus (obtain ⟨rfl, rfl, rfl⟩ := f1 hneg; obtain rfl := e1 hneg; clear f1 f2 e1 e2 hneg; go_wp2_with fail; (with_reducible refine (error_errno 5 5 _ (HL.out.below HB4.out)).mono ?_); rintro e w5 ⟨rfl, hb5⟩; go_wp2; go_ret; exact ⟨rfl, below_call HB4.out hb5⟩)); (focus (have hpos : 0 ≤ BB.1 := Int.not_lt.1 hneg; obtain ⟨rfl, rfl, rfl⟩ := f2 hpos; obtain rfl := e2 hpos; clear f1 f2 e1 e2 hneg; go_wp2_with fail; (with_reducible refine (error_nil 0 _).mono ?_); rintro e w5 ⟨rfl, rfl⟩; go_wp2; go_ret; exact ⟨by simp, HB4.out⟩))))
    · obtain rfl : k = xss.length := by omega
      (have hx8 := HP.out.cell); (rcases hin : inB ad 0 65535 with _ | _); (focus (go_wp2_with fail; (with_reducible refine (refFind_bad B xs.length d ad _ hin).mono ?_); rintro e w3 ⟨rfl, g3⟩; have HB3 := Lib.hid (HB.out.trans (g3.below.mono HP.out.size)); go_wp2_with fail; (with_reducible refine (find_bad (tb := tb) _ _ hin).mono ?_); rintro e w4 ⟨rfl, rfl⟩; clear hx8 hin; go_wp2_with fail; (with_reducible refine (error_errno 1 1 _ (HL.out.below HB3.out)).mono ?_); rintro e w5 ⟨rfl, hb5⟩; go_wp2; go_ret; exact ⟨rfl, below_call HB3.out hb5⟩)); (focus (obtain ⟨x0, x1⟩ := inB_true.1 hin; obtain ⟨x, rfl⟩ := Int.eq_ofNat_of_zero_le x0; have hx : x < 65536 := (by omega); have hxl := HS.out.few; have HCK : Hid (∀ t ∈ xs, checkE t.1 t.2.1 = 0) := Lib.hid (fun t ht => route_check (h := h) (by rw [HS.out.list]; exact ht)); have HRF := Lib.hid (refFind_any xs B d x wr HP.out.own.rds (by omega) HCK.out hin); clear hin; go_wp2_with fail; (with_reducible refine HRF.out.mono ?_); rintro e w3 ⟨z, lg, kk, rfl, g3, hf⟩; have HB3 := Lib.hid (HB.out.trans (g3.below.mono HP.out.size)); have HFI := Lib.hid (find_in x w3 (HP.out.below g3.below).tab.tab hx); obtain ⟨f1, f2⟩ := found_same HS.out hx hf; clear hf g3 HRF hx8; obtain ⟨BB, HBB⟩ : ∃ BB, Hid (best h x 17 = BB) := ⟨_, Lib.hid rfl⟩; rw [HBB.out] at f1 f2 HFI; go_wp2_with fail; (with_reducible refine HFI.out.mono ?_); rintro e w4 ⟨e1, e2, g4⟩; have HB4 := Lib.hid (below_call HB3.out g4.below); clear g4; (by_cases hneg : BB.1 < 0); (focus (obtain ⟨rfl, rfl, rfl⟩ := f1 hneg; obtain rfl := e1 hneg; clear f1 f2 e1 e2 hneg; go_wp2_with fail; (with_reducible refine (error_errno 5 5 _ (HL.out.below HB4.out)).mono ?_); rintro e w5 ⟨rfl, hb5⟩; go_wp2; go_ret; exact ⟨rfl, below_call HB4.out hb5⟩)); (focus (have hpos : 0 ≤ BB.1 := Int.not_lt.1 hneg; obtain ⟨rfl, rfl, rfl⟩ := f2 hpos; obtain rfl := e2 hpos; clear f1 f2 e1 e2 hneg; go_wp2_with fail; (with_reducible refine (error_nil 0 _).mono ?_); rintro e w5 ⟨rfl, rfl⟩; go_wp2; go_ret; exact ⟨by simp, HB4.out⟩))))
end Go.Proofs.YtfgpppgehbpblaaDoor
