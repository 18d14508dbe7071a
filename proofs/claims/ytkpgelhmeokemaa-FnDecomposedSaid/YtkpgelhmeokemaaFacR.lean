/- The reference's FactorElement. -/
import Derived.Test.YtkpgelhmeokemaaFacS
namespace Go.Proofs.Ytkpgelhmeokemaa
open Go Go.RowKit
/-- A list in a box, and blocks that are left alone. -/
structure FsSt (W0 : World) (K : Nat → Obj → Prop) (q g cap : Nat) (ps : List (Int × Int)) (wr : World) : Prop where
  su : SuSt W0 q g cap ps wr
  kp : ∀ p ob, K p ob → wr.heap[p]? = some ob ∧ p ≠ q ∧ p ≠ g
theorem FsSt.ext {W0 : World} {K : Nat → Obj → Prop} {q g cap : Nat} {ps : List (Int × Int)} {wr w' : World} (h : FsSt W0 K q g cap ps wr) (hx : wr.Ext w') : FsSt W0 K q g cap ps w' :=
  ⟨h.su.ext hx, fun p ob hk => by
    obtain ⟨h1, h2⟩ := h.kp p ob hk
    exact ⟨by rw [hx.block (Array.getElem?_eq_some_iff.1 h1).1]; exact h1, h2⟩⟩
theorem FsSt.push {W0 w3 w4 : World} {K : Nat → Obj → Prop} {q g cap : Nat} {ps : List (Int × Int)} {v' : Value} {o : Obj} {x y : Int} (h : FsSt W0 K q g cap ps w3) (hgrow : (w3.alloc o).grownBy w4 (some g))
    (hown : w4.ownsRow W0.heap.size 45 2 v' (ps.length + 1) ((flatP ps).map (Value.int .i64) ++ [.int .i64 x, .int .i64 y])) (hat : v'.ownBlock = some g ∨ v'.ownBlock = some (w3.alloc o).heap.size) :
    ∃ g' cap', v' = .slice (some ⟨g', 0, none⟩) (ps.length + 1) cap' ∧ w4.cell? ⟨q, 0, none⟩ = some (.slice (some ⟨g, 0, none⟩) ps.length cap) ∧ w4.frozen? ⟨q, 0, none⟩ = false ∧ q < w4.heap.size ∧
      Hid (FsSt W0 K q g' cap' (ps ++ [(x, y)]) (w4.setCell ⟨q, 0, none⟩ (.slice (some ⟨g', 0, none⟩) (ps.length + 1) cap'))) := by
  have hg : GrowP W0.heap.size 45 w4 v' (ps ++ [(x, y)]) := GrowP.push (p := (x, y)) hown
  obtain ⟨g', cap', hv⟩ := hg.some (by simp)
  rw [List.length_append, List.length_singleton] at hv
  subst hv
  have hx3 : w3.Ext (w3.alloc o) := (World.Ext.refl _).alloc _
  have hs3 : (w3.alloc o).heap.size = w3.heap.size + 1 := by simp
  have hl := (World.ownsRow.blockLt h.su.row).1
  have hqg : q ≠ g := fun e => World.ownsRow.ne h.su.row h.su.cell (by decide) (by rw [e]; rfl)
  have hql := h.su.cell.lt
  have hone : One w4 q 48 (.slice (some ⟨g, 0, none⟩) ps.length cap) := (h.su.cell.ext hx3).grown hgrow (by simp only [ne_eq, Option.some.injEq]; exact hqg)
  have hx : W0.Ext w4 := World.ownsRow.pushExt h.su.row h.su.x hgrow
  have n4 : some q ≠ (Value.slice (some ⟨g', 0, none⟩) (ps.length + 1) cap').ownBlock := World.ownsRow.ne hown hone (by decide)
  have hgg : g' = g ∨ g' = w3.heap.size + 1 := by
    rcases hat with e | e
    · exact .inl (Option.some.inj e)
    · exact .inr ((Option.some.inj e).trans hs3)
  refine ⟨g', cap', rfl, hone.cell, hone.free, hone.lt, ⟨hx.setCell (p := ⟨q, 0, none⟩) h.su.lo _, ?_, h.su.lo, ?_⟩, fun p ob hk => ?_⟩
  · have h1 := hone.set (.slice (some ⟨g', 0, none⟩) (ps.length + 1) cap')
    rw [List.length_append, List.length_singleton]
    exact h1
  · rw [List.length_append, List.length_singleton]
    exact GrowP.setCell hg n4 _
  · obtain ⟨h1, h2, h3⟩ := h.kp p ob hk
    have hpl := (Array.getElem?_eq_some_iff.1 h1).1
    refine ⟨?_, h2, by omega⟩
    rw [Below.heap_setCell _ _ _ _ (by simpa using h2), hgrow.block p (Nat.lt_of_lt_of_le hpl hx3.size) (by simp only [ne_eq, Option.some.injEq]; exact h3), hx3.block hpl]
    exact h1
def SfRet (w : World) (known : Bool) (e : Ending) (w' : World) : Prop := ∃ a n c b m d, e = .returned (.tuple #[.agg #[.slice a n c], .agg #[.slice b m d], .bool known]) ∧ w.Ext w'
def SfOr (w : World) (es : List (Int × Int)) (e : Ending) (w' : World) : Prop := (∃ k, k < 45 ∧ facG es k = true ∧ SfRet w true e w') ∨ (facN es 45 ∧ SfRet w false e w')
set_option maxRecDepth 8000 in
set_option maxHeartbeats 3200000 in
theorem specFactor_any (a : Option Addr) (c : Nat) (es : List (Int × Int)) (w : World) (he : elemOk es = true) (h16 : es.length ≤ 16) (hm : RowP w a es) :
    Calls Try.prog 23 #[.agg #[.slice a es.length c]] w (SfOr w es) := by
  obtain ⟨iw, hiw, hz0, hz1, hz2⟩ := info_parts Try.infoSpotG
  obtain ⟨W0, hW0⟩ : ∃ W0, W0 = ((w.alloc (.cells #[.slice a es.length c] 48)).alloc (.cells #[.slice none 0 0] 48)).alloc (.cells #[.slice none 0 0] 48) := ⟨_, rfl⟩
  have hx0 : w.Ext W0 := by rw [hW0]; repeat (first | exact World.Ext.refl _ | exact ⟨_, rfl⟩ | assumption | refine World.Ext.over ?_ _ | refine World.Ext.drewN ?_ _ | refine World.Ext.drew ?_ | refine World.Ext.alloc ?_ _ | refine World.Ext.setCell ?_ (by simp) _)
  have ho2 : One W0 (w.heap.size + 1) 48 (.slice none 0 0) := by rw [hW0]; exact (One.new (w.alloc (.cells #[.slice a es.length c] 48)) _ _ _ (by simp)).ext (by repeat (first | exact World.Ext.refl _ | exact ⟨_, rfl⟩ | assumption | refine World.Ext.over ?_ _ | refine World.Ext.drewN ?_ _ | refine World.Ext.drew ?_ | refine World.Ext.alloc ?_ _ | refine World.Ext.setCell ?_ (by simp) _))
  have ho3 : One W0 (w.heap.size + 1 + 1) 48 (.slice none 0 0) := by rw [hW0]; exact One.new _ _ _ _ (by simp)
  have d0 : W0.cell? ⟨w.heap.size, 0, none⟩ = some (.slice a es.length c) := by rw [hW0]; simp [go_sem]
  have HD : Hid (∀ w', W0.Ext w' → w'.cell? ⟨w.heap.size, 0, none⟩ = some (.slice a es.length c)) := fun w' h => h.cell d0
  have HV := Lib.hid (l03Is_any w.heap.size a c es W0 (elem_row he).2 d0 (RowP.ext hm hx0) true he)
  have HMX : Hid (∀ w', W0.Ext w' → RowP w' a es) := fun w' h => (RowP.ext (RowP.ext hm hx0) h)
  have HBX : Hid (∀ k, k < es.length → -4 ≤ (es.getD k (0, 0)).1 ∧ (es.getD k (0, 0)).1 ≤ 4 ∧ -4 ≤ (es.getD k (0, 0)).2 ∧ (es.getD k (0, 0)).2 ≤ 4) := fun k hk => by have := offOk_iff.1 (elemOk_off he (getD_mem hk)); omega
  have HOK := Lib.hid he
  have HX0 := Lib.hid hx0
  have H23 := Lib.hid (And.intro ho2 ho3)
  have HW1 : w.heap.size + 1 + 1 < W0.heap.size := ho3.lt
  clear hx0 ho2 ho3 hm he
  have l0 := World.block_lt_of_cell? _ _ d0
  go_enter Try.func23, Try.ntmps23
  go_upto_region 1 with fail
  rw [← hW0]
  clear hW0
  go_wp2_with fail
  refine HV.out.mono ?_
  rintro e w1 ⟨rfl, hx1⟩
  obtain ⟨wz, hwz⟩ : ∃ wz, wz = w1.alloc (.cells #[.int .i64 0, .int .i64 0] 45) := ⟨_, rfl⟩
  have HX1 : Hid (W0.Ext wz) := by rw [hwz]; show World.Ext _ _; repeat (first | exact World.Ext.refl _ | exact ⟨_, rfl⟩ | assumption | refine World.Ext.over ?_ _ | refine World.Ext.drewN ?_ _ | refine World.Ext.drew ?_ | refine World.Ext.alloc ?_ _ | refine World.Ext.setCell ?_ (by simp) _)
  have htz : Two wz w1.heap.size 45 (.int .i64 0) (.int .i64 0) := by rw [hwz]; exact Two.new _ _ _ _ _ rfl
  have HZ : Hid (∀ w', wz.Ext w' → Two w' w1.heap.size 45 (.int .i64 0) (.int .i64 0)) := fun w' h => htz.ext h
  clear d0 hx1 HV l0 htz
  go_upto_region 4 with fail
  rw [← hwz]
  clear hwz
  generalize w1.heap.size = p5 at *
  have HE0 : Hid (wz.Ext wz) := .refl _
  go_wp2
  go_loopw [6, 7, 8, 9, 10, 11, 12, 13] (fun y _ _ _ _ _ _ _ wr => ∃ j : Nat, j ≤ 5 ∧ y = .int .i64 j ∧ Hid (wz.Ext wr) ∧ Hid (facN es (j * 9))) (fun y _ _ _ _ _ _ _ _ => 5 - (intOf y).toNat)
  case atStart => exact ⟨0, by omega, rfl, HE0, facN_zero es⟩
  case round =>
    clear HE0
    obtain ⟨j, hj, rfl, HX, HN⟩ := hrel
    obtain ⟨wo, rfl⟩ : ∃ wo : World, wo = wr := ⟨_, rfl⟩
    by_cases hlty : j < 5
    · have hlty' : (j : Int) ≤ 4 := by omega
      have hj0 : (0 : Int) ≤ (j : Int) := by omega
      go_wp2
      go_loopw [7, 8, 9, 10, 11, 12, 13] (fun x _ _ _ _ _ _ wr => ∃ (i : Nat) (X : Int), X = (i : Int) - 4 ∧ i ≤ 9 ∧ x = .int .i64 X ∧ Hid (wz.Ext wr) ∧ Hid (facN es (j * 9 + i))) (fun x _ _ _ _ _ _ _ => (5 - intOf x).toNat)
      case atStart => exact ⟨0, -4, rfl, by omega, rfl, HX, HN⟩
      case round =>
        clear HX HN
        obtain ⟨i, X, hX, hi, rfl, HX, HN⟩ := hrel
        obtain ⟨wp, rfl⟩ : ∃ wp : World, wp = wr := ⟨_, rfl⟩
        by_cases hltx : i < 9
        · have hltx' : X ≤ 4 := by omega
          have hX4 : -4 ≤ X := by omega
          have hc : facC (j * 9 + i) = (X, (j : Int)) := by rw [facC_at hltx, hX]
          have HCC := Lib.hid hc
          have HXX := Lib.hid hX
          clear hX hc
          obtain ⟨w2, hw2⟩ : ∃ w2, w2 = wp.alloc (.cells #[.int .i64 X, .int .i64 (j : Int)] 45) := ⟨_, rfl⟩
          have hx2 : wp.Ext w2 := by rw [hw2]; repeat (first | exact World.Ext.refl _ | exact ⟨_, rfl⟩ | assumption | refine World.Ext.over ?_ _ | refine World.Ext.drewN ?_ _ | refine World.Ext.drew ?_ | refine World.Ext.alloc ?_ _ | refine World.Ext.setCell ?_ (by simp) _)
          have htw : Two w2 wp.heap.size 45 (.int .i64 X) (.int .i64 (j : Int)) := by rw [hw2]; exact Two.new _ _ _ _ _ rfl
          have HX2 := Lib.hid (HX.out.trans hx2)
          have hzz := HZ.out w2 HX2.out
          have z0 := hzz.cell0
          have z1 := hzz.cell1
          have lz := hzz.lt
          obtain ⟨t0, ht0⟩ : ∃ t, befB (0, 0) (X, (j : Int)) = t := ⟨_, rfl⟩
          have HT := Lib.hid ht0
          have HSO := Lib.hid (l03Before_any (0, 0) (X, (j : Int)) w2 t0 ht0)
          have e0 := htw.cell0
          have e1 := htw.cell1
          have HTW := Lib.hid htw
          have lw := htw.lt
          clear htw hx2 HX ht0 hzz
          go_upto_region 11 with fail
          rw [← hw2]
          clear hw2
          generalize wp.heap.size = p8 at *
          go_wp2_with fail
          refine HSO.out.mono ?_
          rintro e w3 ⟨rfl, hx3⟩
          have HX3 := Lib.hid (HX2.out.trans hx3)
          have HTW3 := Lib.hid (HTW.out.ext hx3)
          clear e0 e1 lw hx3 HSO HTW HX2 z0 z1 lz
          cases htp : t0
          · have HN1 : Hid (facN es (j * 9 + (i + 1))) := facN_next HN.out (by
              show facG es (j * 9 + i) = false
              unfold facG
              rw [HCC.out, decide_eq_false (show ¬ 0 < ordJ (X, (j : Int)) (0, 0) by
                rw [ordJ_pos]
                intro hlt
                have h1 := bef_ord.2 hlt
                rw [HT.out, htp] at h1
                cases h1), Bool.false_and])
            clear HN HT
            subst htp
            go_wp2
            go_roundw
            case rel => exact ⟨i + 1, X + 1, by have := HXX.out; omega, by omega, by go_num, HX3, HN1⟩
            case measure => simp [intOf]; omega
          · have HTP : Hid (0 < ordJ (X, (j : Int)) (0, 0)) := by
              show 0 < ordJ (X, (j : Int)) (0, 0)
              rw [ordJ_pos]
              refine bef_ord.1 ?_
              rw [HT.out, htp]
            subst htp
            have hzz := HZ.out w3 HX3.out
            have z0 := hzz.cell0
            have z1 := hzz.cell1
            have lz := hzz.lt
            have e0 := HTW3.out.cell0
            have e1 := HTW3.out.cell1
            have le := HTW3.out.lt
            obtain ⟨w4, hw4⟩ : ∃ w4, w4 = (w3.alloc (.cells #[.int .i64 0, .int .i64 0, .int .i64 X, .int .i64 (j : Int)] 45)).alloc (.cells #[.slice (some ⟨w3.heap.size, 0, none⟩) 2 2] 48) := ⟨_, rfl⟩
            have hx4 : w3.Ext w4 := by rw [hw4]; repeat (first | exact World.Ext.refl _ | exact ⟨_, rfl⟩ | assumption | refine World.Ext.over ?_ _ | refine World.Ext.drewN ?_ _ | refine World.Ext.drew ?_ | refine World.Ext.alloc ?_ _ | refine World.Ext.setCell ?_ (by simp) _)
            have hbr : w4.heap[w3.heap.size]? = some (.cells #[.int .i64 0, .int .i64 0, .int .i64 X, .int .i64 (j : Int)] 45 (0, 0)) := by rw [hw4]; show ((w3.heap.push _).push _)[w3.heap.size]? = _; simp [Array.getElem?_push]
            have hb9 : One w4 (w3.heap.size + 1) 48 (.slice (some ⟨w3.heap.size, 0, none⟩) 2 2) := by rw [hw4]; exact One.new _ _ _ _ (by simp)
            have hz4 : w4.heap.size = w3.heap.size + 1 + 1 := by rw [hw4]; simp
            obtain ⟨w5, hw5⟩ : ∃ w5, w5 = (w4.alloc (.cells #[] 45)).alloc (.cells #[.slice (some ⟨w4.heap.size, 0, none⟩) 0 0] 48) := ⟨_, rfl⟩
            have hx5 : w4.Ext w5 := by rw [hw5]; repeat (first | exact World.Ext.refl _ | exact ⟨_, rfl⟩ | assumption | refine World.Ext.over ?_ _ | refine World.Ext.drewN ?_ _ | refine World.Ext.drew ?_ | refine World.Ext.alloc ?_ _ | refine World.Ext.setCell ?_ (by simp) _)
            obtain ⟨K, hK⟩ : ∃ K : Nat → Obj → Prop, K = fun p ob => (p = p8 ∧ ob = .cells #[.int .i64 X, .int .i64 (j : Int)] 45 (0, 0)) ∨ (p = w3.heap.size ∧ ob = .cells #[.int .i64 0, .int .i64 0, .int .i64 X, .int .i64 (j : Int)] 45 (0, 0)) ∨ (p = w3.heap.size + 1 ∧ ob = .cells #[.slice (some ⟨w3.heap.size, 0, none⟩) 2 2] 48 (0, 0)) := ⟨_, rfl⟩
            have HK8 : Hid (K p8 (.cells #[.int .i64 X, .int .i64 (j : Int)] 45 (0, 0))) := by show K _ _; rw [hK]; exact .inl ⟨rfl, rfl⟩
            have HKR : Hid (K w3.heap.size (.cells #[.int .i64 0, .int .i64 0, .int .i64 X, .int .i64 (j : Int)] 45 (0, 0))) := by show K _ _; rw [hK]; exact .inr (.inl ⟨rfl, rfl⟩)
            have HK9 : Hid (K (w3.heap.size + 1) (.cells #[.slice (some ⟨w3.heap.size, 0, none⟩) 2 2] 48 (0, 0))) := by show K _ _; rw [hK]; exact .inr (.inr ⟨rfl, rfl⟩)
            have HS0 : Hid (FsSt wz K (w4.heap.size + 1) w4.heap.size 0 (facT es (X, (j : Int)) 0) w5) := by
              refine ⟨⟨HX3.out.trans (hx4.trans hx5), ?_, ?_, ?_⟩, fun p ob hk => ?_⟩
              · rw [hw5]; exact One.new _ _ _ _ (by simp)
              · have := (HX3.out.trans hx4).size; omega
              · rw [hw5]; exact GrowP.ext (GrowP.empty w4 (HX3.out.trans hx4).size) (by repeat (first | exact World.Ext.refl _ | exact ⟨_, rfl⟩ | assumption | refine World.Ext.over ?_ _ | refine World.Ext.drewN ?_ _ | refine World.Ext.drew ?_ | refine World.Ext.alloc ?_ _ | refine World.Ext.setCell ?_ (by simp) _))
              · rw [hK] at hk
                rcases hk with ⟨rfl, rfl⟩ | ⟨rfl, rfl⟩ | ⟨rfl, rfl⟩
                · exact ⟨(HTW3.out.ext hx4).ext hx5, by omega, by omega⟩
                · exact ⟨by rw [hx5.block (Array.getElem?_eq_some_iff.1 hbr).1]; exact hbr, by omega, by omega⟩
                · exact ⟨hb9.ext hx5, by omega, by omega⟩
            have HPR : Hid (wz.heap.size ≤ w3.heap.size) := HX3.out.size
            clear hx4 hx5 hbr hb9 hK HTW3 HT hzz
            go_upto_region 13 with fail
            rw [← hw4]
            clear hw4 e0 e1 le z0 z1 lz
            generalize w3.heap.size = pr at *
            go_upto_region 14 with fail
            rw [hz4] at hw5 HS0
            rw [← hw5]
            clear hw5 hz4 HX3
            go_wp2
            go_loopw [11, 12] (fun i _ wr => ∃ (k g cap : Nat), k ≤ es.length ∧ i = .int .i64 k ∧ Hid (FsSt wz K (pr + 1 + 1 + 1) g cap (facT es (X, (j : Int)) k) wr)) (fun i _ _ => es.length - (intOf i).toNat)
            case atStart => exact ⟨0, _, _, Nat.zero_le _, rfl, HS0⟩
            case round =>
              clear HS0
              obtain ⟨k, g, cap, hk, rfl, HS⟩ := hrel
              obtain ⟨wq, rfl⟩ : ∃ wq : World, wq = wr := ⟨_, rfl⟩
              have hk0 : (0 : Int) ≤ (k : Int) := by omega
              have d0 := HD.out wq (HX1.out.trans HS.out.su.x)
              have ld := World.block_lt_of_cell? _ _ d0
              by_cases hlt : k < es.length
              · have hlt' : (k : Int) < (es.length : Int) := by omega
                obtain ⟨b1, o1, rfl, hc0, hc1⟩ := (HMX.out wq (HX1.out.trans HS.out.su.x)).at hlt
                have hbx := HBX.out k hlt
                have HYES := Lib.hid (fun h => facBt_yes (o := (X, (j : Int))) hlt h)
                have HNO := Lib.hid (fun h => facBt_no (o := (X, (j : Int))) hlt h)
                obtain ⟨q, hq⟩ : ∃ q, q = es.getD k (0, 0) := ⟨_, rfl⟩
                rw [← hq] at hc0 hc1 hbx HYES HNO
                clear hq
                obtain ⟨u, v⟩ := q
                dsimp only at hc0 hc1 hbx HYES HNO
                obtain ⟨w6, hw6⟩ : ∃ w6, w6 = wq.alloc (.cells #[.int .i64 u, .int .i64 v] 45) := ⟨_, rfl⟩
                have hx6 : wq.Ext w6 := by rw [hw6]; repeat (first | exact World.Ext.refl _ | exact ⟨_, rfl⟩ | assumption | refine World.Ext.over ?_ _ | refine World.Ext.drewN ?_ _ | refine World.Ext.drew ?_ | refine World.Ext.alloc ?_ _ | refine World.Ext.setCell ?_ (by simp) _)
                have htu : Two w6 wq.heap.size 45 (.int .i64 u) (.int .i64 v) := by rw [hw6]; exact Two.new _ _ _ _ _ rfl
                have f0 := htu.cell0
                have f1 := htu.cell1
                have lf := htu.lt
                have HTU := Lib.hid htu
                have HS6 := Lib.hid (HS.out.ext hx6)
                have h8 : Two w6 p8 45 (.int .i64 X) (.int .i64 (j : Int)) := (HS6.out.kp _ _ HK8.out).1
                have e0 := h8.cell0
                have e1 := h8.cell1
                have le := h8.lt
                have HHA := Lib.hid (l03Has_any w.heap.size (some ⟨b1, o1, none⟩) c es (u + X) (v + (j : Int)) w6 (by omega) (hx6.cell d0) (HMX.out w6 (HX1.out.trans HS6.out.su.x)))
                have hw1 : IntKind.i64.wrap (u + X) = u + X := by rw [IntWalk.i64_in _ (by omega)]
                have hw2 : IntKind.i64.wrap (v + (j : Int)) = v + (j : Int) := by rw [IntWalk.i64_in _ (by omega)]
                have hd6 := hx6.cell d0
                clear hx6 HS htu h8
                go_upto_region 18 with fail
                rw [← hw6]
                clear hw6 hc0 hc1 d0 ld
                generalize wq.heap.size = p12 at *
                go_wp2_with fail
                refine HHA.out.mono ?_
                rintro e w7 ⟨rfl, hx7⟩
                have HS7 := Lib.hid (HS6.out.ext hx7)
                have htu := HTU.out.ext hx7
                clear f0 f1 lf e0 e1 le hd6 hx7 HHA HS6 HTU
                have f0 := htu.cell0
                have f1 := htu.cell1
                have lf := htu.lt
                clear htu
                by_cases hin : (u + X, v + (j : Int)) ∈ es
                · have HT : Hid (facT es (X, (j : Int)) (k + 1) = facT es (X, (j : Int)) k ++ [(u, v)]) := HYES.out hin
                  rw [decide_eq_true hin]
                  clear HYES HNO hin
                  have hll : (facT es (X, (j : Int)) k).length ≤ 50 := Nat.le_trans (facT_len es (X, (j : Int)) k) (by omega)
                  have HNX : Hid (∀ (o : Obj) (v' : Value) (w4 : World), (w7.alloc o).grownBy w4 (some g) → w4.ownsRow wz.heap.size 45 2 v' ((facT es (X, (j : Int)) k).length + 1) ((flatP (facT es (X, (j : Int)) k)).map (Value.int .i64) ++ [.int .i64 u, .int .i64 v]) → (v'.ownBlock = some g ∨ v'.ownBlock = some (w7.alloc o).heap.size) →
                      ∃ g' cap', v' = .slice (some ⟨g', 0, none⟩) ((facT es (X, (j : Int)) k).length + 1) cap' ∧ w4.cell? ⟨pr + 1 + 1 + 1, 0, none⟩ = some (.slice (some ⟨g, 0, none⟩) (facT es (X, (j : Int)) k).length cap) ∧ w4.frozen? ⟨pr + 1 + 1 + 1, 0, none⟩ = false ∧ pr + 1 + 1 + 1 < w4.heap.size ∧
                        Hid (FsSt wz K (pr + 1 + 1 + 1) g' cap' (facT es (X, (j : Int)) (k + 1)) (w4.setCell ⟨pr + 1 + 1 + 1, 0, none⟩ (.slice (some ⟨g', 0, none⟩) ((facT es (X, (j : Int)) k).length + 1) cap')))) := fun o v' w4 hg ho hat => by rw [HT.out]; exact HS7.out.push hg ho hat
                  have hown : w7.ownsRow wz.heap.size 45 2 (.slice (some ⟨g, 0, none⟩) (facT es (X, (j : Int)) k).length cap) (facT es (X, (j : Int)) k).length ((flatP (facT es (X, (j : Int)) k)).map (Value.int .i64)) := HS7.out.su.row
                  have c10 := HS7.out.su.cell.cell
                  have l10 := HS7.out.su.cell.lt
                  have HLE : Hid (∀ o : Obj, wz.heap.size ≤ (w7.alloc o).heap.size) := fun o => (HS7.out.su.x.alloc o).size
                  have HB1 : Hid ((facT es (X, (j : Int)) k).length + 1 ≤ maxLen) := by show _ ≤ _; unfold maxLen; omega
                  have HB2 : Hid (((facT es (X, (j : Int)) k).length + 1) * 16 ≤ 140737488355328) := by show _ ≤ _; omega
                  clear HS7 HT
                  generalize flatP (facT es (X, (j : Int)) k) = FL at *
                  generalize (facT es (X, (j : Int)) k).length = nL at *
                  go_wp2_with (at_builtin; refine wpList_append_own_at _ rfl _ _ 42 rfl wz.heap.size 45 iw (.agg #[.int .i64 0, .int .i64 0]) 2 16 Try.underlying42 hiw hz0 hz1 hz2 rfl (by decide) _ _ _ rfl (hown.alloc _) ⟨w7.heap.size, 0, none⟩ 1 1 [.int .i64 u, .int .i64 v] rfl rfl (cell_two_new _ _ _ _) (by simp [Value.oneCell']) HB1.out HB2.out (HLE.out _) (fun v' w4 hown' hgrow _ hat => ?_); obtain ⟨g2, cap2, rfl, r1, r2, r3, HS9⟩ := HNX.out _ _ _ hgrow hown' hat; clear hgrow hown' hown hat f0 f1 lf c10 l10)
                  go_roundw
                  case rel => exact ⟨k + 1, g2, cap2, by omega, by go_num, HS9⟩
                  case measure => simp [intOf]; omega
                · have HT : Hid (facT es (X, (j : Int)) (k + 1) = facT es (X, (j : Int)) k) := HNO.out hin
                  rw [decide_eq_false hin]
                  clear HYES HNO hin f0 f1 lf
                  have HS9 : Hid (FsSt wz K (pr + 1 + 1 + 1) g cap (facT es (X, (j : Int)) (k + 1)) w7) := by rw [HT.out]; exact HS7.out
                  clear HS7
                  go_wp2
                  go_roundw
                  case rel => exact ⟨k + 1, g, cap, by omega, by go_num, HS9⟩
                  case measure => simp [intOf]; omega
              · have hkk : k = es.length := by omega
                subst hkk
                rw [facT_all] at HS
                have hbl := facB_len es (X, (j : Int))
                have HRW : Hid (wq.heap[pr]? = some (.cells #[.int .i64 0, .int .i64 0, .int .i64 X, .int .i64 (j : Int)] 45 (0, 0))) := (HS.out.kp _ _ HKR.out).1
                have HO9 : Hid (One wq (pr + 1) 48 (.slice (some ⟨pr, 0, none⟩) 2 2)) := (HS.out.kp _ _ HK9.out).1
                have HSU := Lib.hid (l03Sum_any (pr + 1) (some ⟨pr, 0, none⟩) 2 [(0, 0), (X, (j : Int))] (pr + 1 + 1 + 1) (some ⟨g, 0, none⟩) cap (facB es (X, (j : Int))) wq (by simp) (.inr ⟨by simp, by omega⟩) (fun q hq => by
                    rcases List.mem_cons.1 hq with rfl | hq
                    · rfl
                    · rw [List.mem_singleton] at hq
                      rw [hq]
                      exact offOk_iff.2 (by simp only; omega)) (fun q hq => elemOk_off HOK.out (facB_sub hq)) HO9.out.cell HS.out.su.cell.cell (row_two HRW.out) (GrowP.own HS.out.su.row).row)
                have HSL : Hid ((sumL [(0, 0), (X, (j : Int))] (facB es (X, (j : Int)))).length ≤ 1048576) := Nat.le_trans (setL_len _) (Nat.le_trans (facS_few (X, (j : Int)) (by omega)) (by omega))
                have HYES : Hid (sumL [(0, 0), (X, (j : Int))] (facB es (X, (j : Int))) = es → facG es (j * 9 + i) = true) := fun h => by
                  unfold facG facS
                  rw [HCC.out, h, decide_eq_true HTP.out, decide_eq_true rfl, Bool.and_true]
                have HNO : Hid (¬ sumL [(0, 0), (X, (j : Int))] (facB es (X, (j : Int))) = es → facG es (j * 9 + i) = false) := fun h => by
                  unfold facG facS
                  rw [HCC.out, decide_eq_false h, Bool.and_false]
                have HO10 : Hid (One wq (pr + 1 + 1 + 1) 48 (.slice (some ⟨g, 0, none⟩) (facB es (X, (j : Int))).length cap)) := HS.out.su.cell
                have HXQ : Hid (wz.Ext wq) := HS.out.su.x
                generalize (facB es (X, (j : Int))).length = nL at *
                generalize sumL [(0, 0), (X, (j : Int))] (facB es (X, (j : Int))) = S at *
                clear HS HTP HRW hbl
                go_wp2_with fail
                refine HSU.out.mono ?_
                rintro e w6 ⟨g6, cap6, rfl, hx6, ho6⟩
                obtain ⟨m, hm⟩ : ∃ m, m = S.length := ⟨_, rfl⟩
                have HMM := Lib.hid hm
                rw [← hm] at ho6 ⊢
                clear hm
                obtain ⟨w7, hw7⟩ : ∃ w7, w7 = w6.alloc (.cells #[.slice (some ⟨g6, 0, none⟩) m cap6] 48) := ⟨_, rfl⟩
                have hx7 : w6.Ext w7 := by rw [hw7]; repeat (first | exact World.Ext.refl _ | exact ⟨_, rfl⟩ | assumption | refine World.Ext.over ?_ _ | refine World.Ext.drewN ?_ _ | refine World.Ext.drew ?_ | refine World.Ext.alloc ?_ _ | refine World.Ext.setCell ?_ (by simp) _)
                have hc7 : w7.cell? ⟨w6.heap.size, 0, none⟩ = some (.slice (some ⟨g6, 0, none⟩) m cap6) := by rw [hw7]; simp [go_sem]
                have HX7 := Lib.hid (hx6.trans hx7)
                rw [HMM.out] at hc7
                have HSM := Lib.hid (l03Same_el w6.heap.size (some ⟨g6, 0, none⟩) cap6 S w.heap.size a c es w7 HSL.out hc7 (HD.out w7 (HX1.out.trans (HXQ.out.trans HX7.out))) (RowP.ext (GrowP.own ho6).row hx7) (HMX.out w7 (HX1.out.trans (HXQ.out.trans HX7.out))))
                clear hx6 ho6 HSU HSL d0 ld
                rw [← HMM.out] at hc7
                go_wp2_with fail
                rw [← hw7]
                clear hw7
                refine HSM.out.mono ?_
                rintro e w8 ⟨rfl, hx8⟩
                have HX8 := Lib.hid (HX7.out.trans hx8)
                clear hx7 hx8 HX7 HSM hc7
                by_cases hE : S = es
                · have HGY := Lib.hid (HYES.out hE)
                  rw [decide_eq_true hE]
                  clear HYES HNO hE HMM
                  have hxd : w8.Ext w8.drew := by repeat (first | exact World.Ext.refl _ | exact ⟨_, rfl⟩ | assumption | refine World.Ext.over ?_ _ | refine World.Ext.drewN ?_ _ | refine World.Ext.drew ?_ | refine World.Ext.alloc ?_ _ | refine World.Ext.setCell ?_ (by simp) _)
                  have HXD : Hid (w.Ext w8.drew) := HX0.out.trans (HX1.out.trans (HXQ.out.trans (HX8.out.trans hxd)))
                  have HB2 : Hid (One w8.drew (w.heap.size + 1) 48 (.slice none 0 0)) := H23.out.1.ext (HX1.out.trans (HXQ.out.trans (HX8.out.trans hxd)))
                  have HB3 : Hid (One w8.drew (w.heap.size + 1 + 1) 48 (.slice none 0 0)) := H23.out.2.ext (HX1.out.trans (HXQ.out.trans (HX8.out.trans hxd)))
                  have hp1 := (HXQ.out.trans HX8.out).size
                  have hp2 := HX1.out.size
                  have hp3 := HPR.out
                  have HA9 : Hid (One w8.drew (pr + 1) 48 (.slice (some ⟨pr, 0, none⟩) 2 2)) := (HO9.out.ext HX8.out).ext hxd
                  have HA10 : Hid (One w8.drew (pr + 1 + 1 + 1) 48 (.slice (some ⟨g, 0, none⟩) nL cap)) := (HO10.out.ext HX8.out).ext hxd
                  go_wp2_with fail
                  go_cut [4] (fun z wc => z = .bool true ∧ Hid (w.Ext wc ∧ One wc (w.heap.size + 1) 48 (.slice (some ⟨pr, 0, none⟩) 2 2) ∧ One wc (w.heap.size + 1 + 1) 48 (.slice (some ⟨g, 0, none⟩) nL cap)))
                  case first =>
                    have a2 := HB2.out.other (a := ⟨w.heap.size + 1 + 1, 0, none⟩) (by simp only; omega) (.slice (some ⟨g, 0, none⟩) nL cap)
                    have a9 := HA9.out.other (a := ⟨w.heap.size + 1 + 1, 0, none⟩) (by simp only; omega) (.slice (some ⟨g, 0, none⟩) nL cap)
                    have b3 := HB3.out.other (a := ⟨w.heap.size + 1, 0, none⟩) (by simp only; omega) (.slice (some ⟨pr, 0, none⟩) 2 2)
                    have b10 := HA10.out.other (a := ⟨w.heap.size + 1, 0, none⟩) (by simp only; omega) (.slice (some ⟨pr, 0, none⟩) 2 2)
                    have q1 := HB2.out.cell
                    have q2 := HB2.out.free
                    have q3 := HB3.out.cell
                    have q4 := HB3.out.free
                    have q5 := HA9.out.cell
                    have q6 := HA10.out.cell
                    have q7 : ((w8.setCell ⟨w.heap.size + 1 + 1, 0, none⟩ (.slice (some ⟨g, 0, none⟩) nL cap)).drew).cell? ⟨w.heap.size + 1, 0, none⟩ = some (.slice none 0 0) := a2.cell
                    have q8 : ((w8.setCell ⟨w.heap.size + 1 + 1, 0, none⟩ (.slice (some ⟨g, 0, none⟩) nL cap)).drew).frozen? ⟨w.heap.size + 1, 0, none⟩ = false := a2.free
                    have q9 : ((w8.setCell ⟨w.heap.size + 1 + 1, 0, none⟩ (.slice (some ⟨g, 0, none⟩) nL cap)).drew).cell? ⟨pr + 1, 0, none⟩ = some (.slice (some ⟨pr, 0, none⟩) 2 2) := a9.cell
                    have q10 : ((w8.setCell ⟨w.heap.size + 1, 0, none⟩ (.slice (some ⟨pr, 0, none⟩) 2 2)).drew).cell? ⟨w.heap.size + 1 + 1, 0, none⟩ = some (.slice none 0 0) := b3.cell
                    have q11 : ((w8.setCell ⟨w.heap.size + 1, 0, none⟩ (.slice (some ⟨pr, 0, none⟩) 2 2)).drew).frozen? ⟨w.heap.size + 1 + 1, 0, none⟩ = false := b3.free
                    have q12 : ((w8.setCell ⟨w.heap.size + 1, 0, none⟩ (.slice (some ⟨pr, 0, none⟩) 2 2)).drew).cell? ⟨pr + 1 + 1 + 1, 0, none⟩ = some (.slice (some ⟨g, 0, none⟩) nL cap) := b10.cell
                    have HF1 : Hid (w.Ext ((w8.drew.setCell ⟨w.heap.size + 1, 0, none⟩ (.slice (some ⟨pr, 0, none⟩) 2 2)).setCell ⟨w.heap.size + 1 + 1, 0, none⟩ (.slice (some ⟨g, 0, none⟩) nL cap)) ∧ One ((w8.drew.setCell ⟨w.heap.size + 1, 0, none⟩ (.slice (some ⟨pr, 0, none⟩) 2 2)).setCell ⟨w.heap.size + 1 + 1, 0, none⟩ (.slice (some ⟨g, 0, none⟩) nL cap)) (w.heap.size + 1) 48 (.slice (some ⟨pr, 0, none⟩) 2 2) ∧ One ((w8.drew.setCell ⟨w.heap.size + 1, 0, none⟩ (.slice (some ⟨pr, 0, none⟩) 2 2)).setCell ⟨w.heap.size + 1 + 1, 0, none⟩ (.slice (some ⟨g, 0, none⟩) nL cap)) (w.heap.size + 1 + 1) 48 (.slice (some ⟨g, 0, none⟩) nL cap)) :=
                      ⟨(HXD.out.setCell (p := ⟨w.heap.size + 1, 0, none⟩) (by simp only; omega) _).setCell (p := ⟨w.heap.size + 1 + 1, 0, none⟩) (by simp only; omega) _, (HB2.out.set _).other (by simp only; omega) _, b3.set _⟩
                    have HF2 : Hid (w.Ext ((w8.drew.setCell ⟨w.heap.size + 1 + 1, 0, none⟩ (.slice (some ⟨g, 0, none⟩) nL cap)).setCell ⟨w.heap.size + 1, 0, none⟩ (.slice (some ⟨pr, 0, none⟩) 2 2)) ∧ One ((w8.drew.setCell ⟨w.heap.size + 1 + 1, 0, none⟩ (.slice (some ⟨g, 0, none⟩) nL cap)).setCell ⟨w.heap.size + 1, 0, none⟩ (.slice (some ⟨pr, 0, none⟩) 2 2)) (w.heap.size + 1) 48 (.slice (some ⟨pr, 0, none⟩) 2 2) ∧ One ((w8.drew.setCell ⟨w.heap.size + 1 + 1, 0, none⟩ (.slice (some ⟨g, 0, none⟩) nL cap)).setCell ⟨w.heap.size + 1, 0, none⟩ (.slice (some ⟨pr, 0, none⟩) 2 2)) (w.heap.size + 1 + 1) 48 (.slice (some ⟨g, 0, none⟩) nL cap)) :=
                      ⟨(HXD.out.setCell (p := ⟨w.heap.size + 1 + 1, 0, none⟩) (by simp only; omega) _).setCell (p := ⟨w.heap.size + 1, 0, none⟩) (by simp only; omega) _, a2.set _, (HB3.out.set _).other (by simp only; omega) _⟩
                    clear a2 a9 b3 b10
                    go_region
                    all_goals
                      go_wp2_with fail
                      go_meet
                      first
                        | exact ⟨rfl, HF1⟩
                        | exact ⟨rfl, HF2⟩
                  case rest =>
                    obtain ⟨rfl, HR⟩ := hcut
                    have r5 := HR.out.2.1.cell
                    have r6 := HR.out.2.2.cell
                    have HFIN : Hid (SfOr w es (.returned (.tuple #[.agg #[.slice (some ⟨pr, 0, none⟩) 2 2], .agg #[.slice (some ⟨g, 0, none⟩) nL cap], .bool true])) wc) := .inl ⟨j * 9 + i, by omega, HGY.out, _, _, _, _, _, _, rfl, HR.out.1⟩
                    clear HR hxd HXD HB2 HB3 HA9 HA10
                    go_wp2
                    exact bodyPost_ret (v := .tuple #[.agg #[.slice (some ⟨pr, 0, none⟩) 2 2], .agg #[.slice (some ⟨g, 0, none⟩) nL cap], .bool true]) (by simp [results, Try.results23, go_sem, r5, r6]) rfl HFIN.out
                · have HN1 : Hid (facN es (j * 9 + (i + 1))) := facN_next HN.out (HNO.out hE)
                  rw [decide_eq_false hE]
                  have HX9 : Hid (wz.Ext w8) := HXQ.out.trans HX8.out
                  clear HYES HNO hE HN HXQ HX8 HO9 HO10 HMM
                  go_wp2
                  go_roundw
                  case rel => exact ⟨i + 1, X + 1, by have := HXX.out; omega, by omega, by go_num, HX9, HN1⟩
                  case measure => simp [intOf]; omega
        · have hnx : ¬ X ≤ 4 := by omega
          have HN1 : Hid (facN es ((j + 1) * 9)) := by
            have h := HN.out
            rw [show j * 9 + i = (j + 1) * 9 by omega] at h
            exact h
          clear HN
          go_wp2
          go_roundw
          case rel => exact ⟨j + 1, by omega, by go_num, HX, HN1⟩
          case measure => simp [intOf]; omega
    · have hj5 : j = 5 := by omega
      have hny : ¬ (j : Int) ≤ 4 := by omega
      have HN1 : Hid (facN es 45) := by have h := HN.out; rw [hj5] at h; exact h
      obtain ⟨r1, r2, r3, r4, r5, r6, HR, l1, l2⟩ := One.both (.slice none 0 0) (.slice none 0 0) (HX0.out.trans (HX1.out.trans HX.out)) (show w.heap.size ≤ w.heap.size + 1 by omega) (show w.heap.size ≤ w.heap.size + 1 + 1 by omega) ((H23.out.1.ext HX1.out).ext HX.out) ((H23.out.2.ext HX1.out).ext HX.out) (by omega)
      have HFIN : Hid (SfOr w es (.returned (.tuple #[.agg #[.slice none 0 0], .agg #[.slice none 0 0], .bool false])) ((wo.setCell ⟨w.heap.size + 1, 0, none⟩ (.slice none 0 0)).setCell ⟨w.heap.size + 1 + 1, 0, none⟩ (.slice none 0 0))) := .inr ⟨HN1.out, _, _, _, _, _, _, rfl, HR.out⟩
      clear HN HN1 HX HR
      go_wp2
      exact bodyPost_ret (v := .tuple #[.agg #[.slice none 0 0], .agg #[.slice none 0 0], .bool false]) (by simp [results, Try.results23, go_sem, r5, r6]) rfl HFIN.out
end Go.Proofs.Ytkpgelhmeokemaa
