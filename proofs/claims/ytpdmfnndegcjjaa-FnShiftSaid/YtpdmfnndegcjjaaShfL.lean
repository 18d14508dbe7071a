/- FnShift's walk. -/
import Derived.Test.YtpdmfnndegcjjaaShfB
import Derived.Test.YtpdmfnndegcjjaaRunT
namespace Go.Proofs.Ytpdmfnndegcjjaa
open Go Go.RowKit
def AtRet (w : World) (n : Nat) (e : Ending) (w' : World) : Prop := ∃ r : Nat, e = .returned (.int .i64 r) ∧ w.Ext w' ∧ r < n
set_option maxRecDepth 5000 in
set_option maxHeartbeats 4000000 in
theorem fnShift_any (a : Option Addr) (c : Nat) (zs : List Int) (a2 : Option Addr) (c2 : Nat) (ys : List Int) (w : World) (h : CodeAt w a zs) (h2 : CodeAt w a2 ys) :
    Calls Try.prog 7 #[.slice a zs.length c, .slice a2 ys.length c2] w fun e w' => e = .returned (.bool true) ∧ w.Ext w' := by
  have HLO := Lib.hid (longR_any a zs.length c a2 ys.length c2 w h.2.2 h2.2.2)
  have HP := Lib.hid (fun w' (hx : w.Ext w') => pic8_any a c zs w' (h.ext hx))
  have HAT : Hid (∀ (k n : Nat) (m : Int) w', k ≤ 1000 → 0 < n → m = n → w.Ext w' → Calls Try.prog 54 #[.slice a2 ys.length c2, .int .i64 k, .int .i64 m] w' (AtRet w' n)) := fun k n m w' hk hn hm hx => (r8At_any a2 c2 ys k m w' hk (h2.ext hx)).mono fun e w'' hq => by
    obtain ⟨r, h1, h3, h4, h5⟩ := hq
    obtain ⟨r, rfl⟩ := Int.eq_ofNat_of_zero_le h4
    exact ⟨r, h1, h3, by omega⟩
  clear h h2
  go_enter Try.func7, Try.ntmps7
  have HWB : Hid (w.Ext w) := .refl _
  have HX : Hid (w.Ext w) := .refl _
  go_wp2_with fail
  refine (HLO.out).mono ?_
  rintro e v1 ⟨t, rfl, hx, -⟩
  have HX_ := Lib.hid (HX.out.trans hx)
  clear HX
  have HX := HX_
  clear HX_
  clear hx
  cases t
  rotate_left
  · go_wp2
    go_ret
    exact ⟨rfl, HX.out⟩
  go_wp2_with fail
  refine (HP.out v1 (HWB.out.trans HX.out)).mono ?_
  rintro e v2 ⟨pa, pc, ss, rfl, hpic, hx, hrow⟩
  have HX_ := Lib.hid (HX.out.trans hx)
  clear HX
  have HX := HX_
  clear HX_
  have HPIC := Lib.hid hpic
  have HROW := Lib.hid hrow.row
  clear hpic hrow
  clear hx
  obtain ⟨b2, hb2⟩ : ∃ b2, b2 = v2.alloc (.cells #[.slice pa ss.length pc] 26) := ⟨_, rfl⟩
  have hxb : v2.Ext b2 := by rw [hb2]; repeat (first | exact World.Ext.refl _ | exact ⟨_, rfl⟩ | assumption | refine World.Ext.over ?_ _ | refine World.Ext.drewN ?_ _ | refine World.Ext.drew ?_ | refine World.Ext.alloc ?_ _ | refine World.Ext.setCell ?_ (by simp) _)
  have c5_ : b2.cell? ⟨v2.heap.size, 0, none⟩ = some (.slice pa ss.length pc) := by rw [hb2]; simp [go_sem]
  have HALL_ : Hid (∀ w', b2.Ext w' → w'.cell? ⟨v2.heap.size, 0, none⟩ = some (.slice pa ss.length pc) ∧ RowS w' pa ss ∧ True) := fun w' hx' => ⟨hx'.cell c5_, RowOf.ext HROW.out (hxb.trans hx'), trivial⟩
  have HWB_ := Lib.hid (HWB.out.trans (HX.out.trans hxb))
  have HX_ : Hid (b2.Ext b2) := .refl _
  clear hxb c5_ HWB HX
  have HALL := HALL_
  have HWB := HWB_
  have HX := HX_
  clear HALL_ HWB_ HX_
  obtain ⟨g1, g2, g3, g4, g5, -⟩ := picOk_spec HPIC.out.1
  have g6 := HPIC.out.2.1
  have g7 := HPIC.out.2.2
  have HBS := Lib.hid (fun w' (h : RowS w' pa ss) => bestShift_any pa pc ss w' HPIC.out.1 g7 g6 h)
  have HLV : Hid (∀ w' (sx sy : Nat), sx ≤ 8 → sy ≤ 8 → RowS w' pa ss → Calls Try.prog 55 #[.agg #[.slice pa ss.length pc], .int .i64 sx, .int .i64 sy] w' fun e w'' => e = .returned (.tuple #[.int .i64 (shN (picW ss) ss.length (picL ss) sx sy : Nat), .bool true]) ∧ w'.Ext w'') := fun w' sx sy h1 h2 h3 => r8Leaves_any pa pc ss sx sy w' HPIC.out.1 h1 h2 h3
  have HA0 := Lib.hid (fun w' (hx : w.Ext w') => HAT.out 0 (9 - picW ss) (9 - (picW ss : Int)) w' (by omega) (by omega) (by omega) hx)
  have HA1 := Lib.hid (fun w' (hx : w.Ext w') => HAT.out 1 (9 - ss.length) (9 - (ss.length : Int)) w' (by omega) (by omega) (by omega) hx)
  clear HROW HP HAT g5
  generalize shN (picW ss) ss.length (picL ss) = N at *
  go_upto_region 4 with fail
  rw [← hb2]
  clear hb2
  generalize v2.heap.size = q5 at *
  have c5 := (HALL.out b2 HX.out).1
  have lc5 := World.block_lt_of_cell? _ _ c5
  obtain ⟨rb, ro, rfl, hrc⟩ := ((HALL.out b2 HX.out).2.1) 0 (show 0 < ss.length by omega)
  rw [Nat.add_zero] at hrc
  obtain ⟨s0, hs0⟩ : ∃ s0, s0 = ss.getD 0 ByteArray.empty := ⟨_, rfl⟩
  have hps : s0.size = picW ss := by rw [hs0]; rfl
  rw [← hs0] at hrc
  clear hs0
  go_upto_region 6 with fail
  clear hrc hps
  clear lc5 c5
  have c5 := (HALL.out b2 HX.out).1
  have lc5 := World.block_lt_of_cell? _ _ c5
  go_wp2_with fail
  refine (HBS.out b2 (HALL.out b2 HX.out).2.1).mono ?_
  rintro e v3 ⟨x, y, hb, rfl, hx⟩
  clear lc5 c5
  have HX_ := Lib.hid (HX.out.trans hx)
  clear HX
  have HX := HX_
  clear HX_
  have HB := Lib.hid hb
  clear hb HBS
  clear hx
  go_wp2_with fail
  refine (HA0.out v3 (HWB.out.trans HX.out)).mono ?_
  rintro e v4 ⟨ra, rfl, hx, hra⟩
  have HX_ := Lib.hid (HX.out.trans hx)
  clear HX
  have HX := HX_
  clear HX_
  clear HA0
  clear hx
  go_wp2_with fail
  refine (HA1.out v4 (HWB.out.trans HX.out)).mono ?_
  rintro e v5 ⟨rb1, rfl, hx, hrb⟩
  have HX_ := Lib.hid (HX.out.trans hx)
  clear HX
  have HX := HX_
  clear HX_
  clear HA1
  clear hx
  obtain ⟨k1, k2, k3⟩ := HB.out
  obtain ⟨k4, k5⟩ := k3 ra rb1 hra hrb
  have K5 := Lib.hid k5
  have y1 : ¬ (x : Int) < 0 := by omega
  have y2 : ¬ (y : Int) < 0 := by omega
  have y3 : ¬ (8 : Int) < (x : Int) + (picW ss : Int) := by omega
  have y4 : ¬ (8 : Int) < (y : Int) + (ss.length : Int) := by omega
  clear k3 k5 HB
  have c5 := (HALL.out v5 HX.out).1
  have lc5 := World.block_lt_of_cell? _ _ c5
  go_wp2_with fail
  refine (HLV.out v5 x y (by omega) (by omega) (HALL.out v5 HX.out).2.1).mono ?_
  rintro e v6 ⟨rfl, hx⟩
  clear lc5 c5
  have HX_ := Lib.hid (HX.out.trans hx)
  clear HX
  have HX := HX_
  clear HX_
  clear hx
  have c5 := (HALL.out v6 HX.out).1
  have lc5 := World.block_lt_of_cell? _ _ c5
  go_wp2_with fail
  refine (HLV.out v6 ra rb1 (by omega) (by omega) (HALL.out v6 HX.out).2.1).mono ?_
  rintro e v7 ⟨rfl, hx⟩
  clear lc5 c5
  have HX_ := Lib.hid (HX.out.trans hx)
  clear HX
  have HX := HX_
  clear HX_
  clear HLV
  clear hx
  have HFIN := Lib.hid ((HWB.out.trans HX.out))
  generalize N ra rb1 = u at *
  generalize N x y = v at *
  have z0 : ((v : Int) ≤ (u : Int)) := by omega
  clear HALL HX HWB y1 y2 y3 y4
  by_cases e1 : v < u
  · have z1 : (v : Int) < (u : Int) := by omega
    go_wp2
    go_ret
    exact ⟨rfl, HFIN.out⟩
  · have e2 : u = v := by omega
    subst e2
    have z1 : ¬ (u : Int) < (u : Int) := by omega
    rcases K5.out rfl with e3 | ⟨e3, e4⟩
    · have z2 : (y : Int) < (rb1 : Int) := by omega
      go_wp2
      go_ret
      exact ⟨rfl, HFIN.out⟩
    · subst e3
      have z2 : ¬ (y : Int) < (y : Int) := by omega
      have z3 : (x : Int) ≤ (ra : Int) := by omega
      go_wp2
      go_ret
      exact ⟨rfl, HFIN.out⟩
end Go.Proofs.Ytpdmfnndegcjjaa
