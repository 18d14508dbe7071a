/- SumElements and MirrorElement. -/
import Derived.Test.YtkpgelhmeokemaaElmG
import Derived.Test.YtkpgelhmeokemaaEltW
namespace Go.Proofs.Ytkpgelhmeokemaa
open Go Go.RowKit
theorem elem_row {os : List (Int × Int)} (h : elemOk os = true) : os.length ≤ 50 ∧ os.length ≤ 1048576 := by
  obtain ⟨e1, e2, -⟩ := elemOk_spec h
  omega
theorem field_elem (a : Option Addr) (n c : Nat) (w : World) : (Instr.field 48 (.agg #[.slice a n c]) 0).run Try.prog w = .ok (.slice a n c) w := by kernel_rfl
set_option maxRecDepth 5000 in
set_option maxHeartbeats 1600000 in
theorem sumElements_any (a : Option Addr) (c : Nat) (xs : List (Int × Int)) (a2 : Option Addr) (c2 : Nat) (ys : List (Int × Int)) (w : World) (hx : elemOk xs = true) (hy : elemOk ys = true) (hs : elemOk (sumL xs ys) = true) (hm : RowP w a xs) (hm2 : RowP w a2 ys) :
    Calls Try.prog 19 #[.agg #[.slice a xs.length c], .agg #[.slice a2 ys.length c2]] w (ElmRet w (sumL xs ys)) := by
  obtain ⟨W0, hW0⟩ : ∃ W0, W0 = ((w.alloc (.cells #[.slice a xs.length c] 48)).alloc (.cells #[.slice a2 ys.length c2] 48)).alloc (.cells #[.slice none 0 0] 48) := ⟨_, rfl⟩
  have hx0 : w.Ext W0 := by rw [hW0]; repeat (first | exact World.Ext.refl _ | exact ⟨_, rfl⟩ | assumption | refine World.Ext.over ?_ _ | refine World.Ext.drewN ?_ _ | refine World.Ext.drew ?_ | refine World.Ext.alloc ?_ _ | refine World.Ext.setCell ?_ (by simp) _)
  have hone : One W0 (w.heap.size + 1 + 1) 48 (.slice none 0 0) := by rw [hW0]; exact One.new _ _ _ _ (by simp)
  have d0 : W0.cell? ⟨w.heap.size, 0, none⟩ = some (.slice a xs.length c) := by rw [hW0]; simp [go_sem]
  have d1 : W0.cell? ⟨w.heap.size + 1, 0, none⟩ = some (.slice a2 ys.length c2) := by rw [hW0]; simp [go_sem]
  have HD : Hid (∀ w', W0.Ext w' → w'.cell? ⟨w.heap.size, 0, none⟩ = some (.slice a xs.length c) ∧ w'.cell? ⟨w.heap.size + 1, 0, none⟩ = some (.slice a2 ys.length c2)) := fun w' h => ⟨h.cell d0, h.cell d1⟩
  have HV1 := Lib.hid (fun w' (h : W0.Ext w') => validElement_any a c xs w' (elem_row hx).2 (RowP.ext (RowP.ext hm hx0) h) true hx)
  have HV2 := Lib.hid (fun w' (h : W0.Ext w') => validElement_any a2 c2 ys w' (elem_row hy).2 (RowP.ext (RowP.ext hm2 hx0) h) true hy)
  have HSU := Lib.hid (fun w' (h : W0.Ext w') => sums_any a c xs a2 c2 ys w' (elem_row hx).1 (elem_row hy).1 (fun q hq => elemOk_off hx hq) (fun q hq => elemOk_off hy hq) (RowP.ext (RowP.ext hm hx0) h) (RowP.ext (RowP.ext hm2 hx0) h))
  have HTO := Lib.hid (fun (w' : World) (lo g cap : Nat) (h : GrowP lo 45 w' (.slice (some ⟨g, 0, none⟩) (sumL xs ys).length cap) (sumL xs ys)) => toldElement_any lo g cap (sumL xs ys) w' h (elem_row hs).2 (setL_incr _) hs)
  have HX0 := Lib.hid hx0
  have HO := Lib.hid hone
  clear hx0 hone hm hm2 hx hy hs
  obtain ⟨S, hS⟩ : ∃ S, S = sumL xs ys := ⟨_, rfl⟩
  rw [← hS] at HSU HTO
  rw [← hS]
  clear hS
  obtain ⟨m, hm⟩ : ∃ m, m = S.length := ⟨_, rfl⟩
  have HMM := Lib.hid hm
  rw [← hm] at HTO
  clear hm
  have l0 := World.block_lt_of_cell? _ _ d0
  have l1 := World.block_lt_of_cell? _ _ d1
  go_enter Try.func19, Try.ntmps19
  go_upto_region 1 with fail
  rw [← hW0]
  clear hW0
  go_wp2_with fail
  refine (HV1.out W0 (.refl _)).mono ?_
  rintro e w1 ⟨rfl, hx1⟩
  have HX1 := Lib.hid hx1
  clear d0 d1 hx1 HV1 l0 l1
  obtain ⟨d0, d1⟩ := HD.out w1 HX1.out
  have l0 := World.block_lt_of_cell? _ _ d0
  have l1 := World.block_lt_of_cell? _ _ d1
  go_wp2_with fail
  refine (HV2.out w1 HX1.out).mono ?_
  rintro e w2 ⟨rfl, hx2⟩
  have HX2 := Lib.hid (HX1.out.trans hx2)
  clear d0 d1 hx2 HV2 HX1 l0 l1
  obtain ⟨d0, d1⟩ := HD.out w2 HX2.out
  have l0 := World.block_lt_of_cell? _ _ d0
  have l1 := World.block_lt_of_cell? _ _ d1
  go_wp2_with fail
  refine (HSU.out w2 HX2.out).mono ?_
  rintro e w3 ⟨g, cap, rfl, hx3, ho3⟩
  rw [← HMM.out] at ho3
  rw [← HMM.out]
  have HS3 : Hid (SmSt w2 S (.slice (some ⟨g, 0, none⟩) m cap) w3) := ⟨hx3, ho3, _, _, _, rfl⟩
  have HC := Lib.hid (HTO.out w3 _ g cap ho3)
  clear d0 d1 l0 l1 hx3 ho3 HSU HTO HD
  have hfe := field_elem (some ⟨g, 0, none⟩) m cap w3
  go_wp2_with fail
  refine HC.out.mono ?_
  rintro e w4 ⟨rfl, ho4, hgr4⟩
  have HS4 := Lib.hid (HS3.out.told (by rw [HMM.out]) hgr4 ho4)
  obtain ⟨r1, r2, r3, r4, HR⟩ := HS4.out.store (HX0.out.trans HX2.out) (show w.heap.size ≤ w.heap.size + 1 + 1 by omega) (HO.out.ext HX2.out) HMM.out (.slice (some ⟨g, 0, none⟩) m cap)
  have HFIN : Hid (ElmRet w S (.returned (.tuple #[.agg #[.slice (some ⟨g, 0, none⟩) m cap], .bool true])) (w4.setCell ⟨w.heap.size + 1 + 1, 0, none⟩ (.slice (some ⟨g, 0, none⟩) m cap))) := ⟨some ⟨g, 0, none⟩, cap, by rw [HMM.out], HR.out.1, (GrowP.own HR.out.2).row⟩
  clear ho4 hgr4 HS4 HS3 HC HR hfe
  go_wp2
  exact bodyPost_ret (v := .tuple #[.agg #[.slice (some ⟨g, 0, none⟩) m cap], .bool true]) (by simp [results, Try.results19, go_sem, r3]) rfl HFIN.out
set_option maxRecDepth 5000 in
set_option maxHeartbeats 1600000 in
theorem mirrorElement_any (a : Option Addr) (c : Nat) (xs : List (Int × Int)) (w : World) (hx : elemOk xs = true) (hm : RowP w a xs) :
    Calls Try.prog 24 #[.agg #[.slice a xs.length c]] w (ElmRet w (mirL xs)) := by
  obtain ⟨iw, hiw, hz0, hz1, hz2⟩ := info_parts Try.infoSpotG
  obtain ⟨W0, hW0⟩ : ∃ W0, W0 = (w.alloc (.cells #[.slice a xs.length c] 48)).alloc (.cells #[.slice none 0 0] 48) := ⟨_, rfl⟩
  have hx0 : w.Ext W0 := by rw [hW0]; repeat (first | exact World.Ext.refl _ | exact ⟨_, rfl⟩ | assumption | refine World.Ext.over ?_ _ | refine World.Ext.drewN ?_ _ | refine World.Ext.drew ?_ | refine World.Ext.alloc ?_ _ | refine World.Ext.setCell ?_ (by simp) _)
  have hone : One W0 (w.heap.size + 1) 48 (.slice none 0 0) := by rw [hW0]; exact One.new _ _ _ _ (by simp)
  have d0 : W0.cell? ⟨w.heap.size, 0, none⟩ = some (.slice a xs.length c) := by rw [hW0]; simp [go_sem]
  have HD : Hid (∀ w', W0.Ext w' → w'.cell? ⟨w.heap.size, 0, none⟩ = some (.slice a xs.length c)) := fun w' h => h.cell d0
  have HV := Lib.hid (validElement_any a c xs W0 (elem_row hx).2 (RowP.ext hm hx0) true hx)
  have HMX : Hid (∀ w', W0.Ext w' → RowP w' a xs) := fun w' h => (RowP.ext (RowP.ext hm hx0) h)
  have HBX : Hid (∀ k, k < xs.length → -4 ≤ (xs.getD k (0, 0)).1 ∧ (xs.getD k (0, 0)).1 ≤ 4 ∧ -4 ≤ (xs.getD k (0, 0)).2 ∧ (xs.getD k (0, 0)).2 ≤ 4) := fun k hk => by have := offOk_iff.1 (elemOk_off hx (getD_mem hk)); omega
  have HTK : Hid (∀ k, k < xs.length → negP (xs.take (k + 1)) = negP (xs.take k) ++ [(-(xs.getD k (0, 0)).1, -(xs.getD k (0, 0)).2)]) := fun k hk => mapT_take _ (0, 0) hk
  have HLN : Hid (∀ k, (negP (xs.take k)).length ≤ 50) := fun k => by
    have := (elem_row hx).1
    show (negP (xs.take k)).length ≤ 50
    unfold negP
    rw [List.length_map, List.length_take]
    omega
  have HTO : Hid (∀ (w' : World) (lo g cap : Nat), GrowP lo 45 w' (.slice (some ⟨g, 0, none⟩) (negP xs).length cap) (negP xs) → Calls Try.prog 53 #[.slice (some ⟨g, 0, none⟩) (negP xs).length cap] w' fun e w'' => e = .returned (.tuple #[.agg #[.slice (some ⟨g, 0, none⟩) (mirL xs).length cap], .bool true]) ∧ GrowP lo 45 w'' (.slice (some ⟨g, 0, none⟩) (mirL xs).length cap) (mirL xs) ∧ w'.grownBy w'' (some g)) := fun w' lo g cap h => toldG_any lo g cap (negP xs) w' h (by have := (elem_row hx).2; unfold negP; rw [List.length_map]; exact this) (mir_ok hx)
  have HX0 := Lib.hid hx0
  have HO := Lib.hid hone
  have hxl := (elem_row hx).1
  clear hx0 hone hm hx
  obtain ⟨S, hS⟩ : ∃ S, S = mirL xs := ⟨_, rfl⟩
  rw [← hS] at HTO
  rw [← hS]
  clear hS
  obtain ⟨m, hm⟩ : ∃ m, m = S.length := ⟨_, rfl⟩
  have HMM := Lib.hid hm
  rw [← hm] at HTO
  clear hm
  have l0 := World.block_lt_of_cell? _ _ d0
  go_enter Try.func24, Try.ntmps24
  go_upto_region 1 with fail
  rw [← hW0]
  clear hW0
  go_wp2_with fail
  refine HV.out.mono ?_
  rintro e w1 ⟨rfl, hx1⟩
  have HX1 := Lib.hid hx1
  clear d0 hx1 HV l0
  have HS0 : Hid (SmSt w1 (negP (xs.take 0)) (.slice (some ⟨w1.heap.size, 0, none⟩) 0 0) (w1.alloc (.cells #[] 45))) := SmSt.start (.refl _)
  have d0 := HD.out (w1.alloc (.cells #[] 45)) (HX1.out.alloc _)
  have l0 := World.block_lt_of_cell? _ _ (HD.out w1 HX1.out)
  go_wp2
  go_loopw [4, 6, 15] (fun v _ i wr => ∃ k : Nat, k ≤ xs.length ∧ i = .int .i64 k ∧ Hid (SmSt w1 (negP (xs.take k)) v wr)) (fun _ _ i _ => xs.length - (intOf i).toNat)
  case atStart => exact ⟨0, Nat.zero_le _, rfl, HS0⟩
  case round =>
    clear HS0 d0 l0
    obtain ⟨k, hk, rfl, HS⟩ := hrel
    obtain ⟨wo, rfl⟩ : ∃ wo : World, wo = wr := ⟨_, rfl⟩
    have hk0 : (0 : Int) ≤ (k : Int) := by omega
    by_cases hlt : k < xs.length
    · have hlt' : (k : Int) < (xs.length : Int) := by omega
      obtain ⟨b1, o1, rfl, hc0, hc1⟩ := (HMX.out wo (HX1.out.trans HS.out.x)).at hlt
      have hbx := HBX.out k hlt
      have HTJ := Lib.hid (HTK.out k hlt)
      have hll := HLN.out k
      generalize xs.getD k (0, 0) = s at hc0 hc1 hbx HTJ
      obtain ⟨x, y⟩ := s
      dsimp only at hc0 hc1 hbx HTJ
      obtain ⟨w5, hw5⟩ : ∃ w5, w5 = wo.alloc (.cells #[.int .i64 x, .int .i64 y] 45) := ⟨_, rfl⟩
      have hx5 : wo.Ext w5 := by rw [hw5]; repeat (first | exact World.Ext.refl _ | exact ⟨_, rfl⟩ | assumption | refine World.Ext.over ?_ _ | refine World.Ext.drewN ?_ _ | refine World.Ext.drew ?_ | refine World.Ext.alloc ?_ _ | refine World.Ext.setCell ?_ (by simp) _)
      have f0 : w5.cell? ⟨wo.heap.size, 0, none⟩ = some (.int .i64 x) := by rw [hw5]; simp [go_sem]
      have f1 : w5.cell? ⟨wo.heap.size, 1, none⟩ = some (.int .i64 y) := by rw [hw5]; simp [go_sem]
      have lf := World.block_lt_of_cell? _ _ f0
      have HS6 := Lib.hid (HS.out.ext hx5)
      have hw1 : IntKind.i64.wrap (-x) = -x := by rw [IntWalk.i64_in _ (by omega)]
      have hw2 : IntKind.i64.wrap (-y) = -y := by rw [IntWalk.i64_in _ (by omega)]
      clear hx5 HS
      go_upto_region 7 with fail
      rw [← hw5]
      clear hw5 hc0 hc1
      generalize wo.heap.size = p6 at *
      have HNX : Hid (∀ (o : Obj) (v' : Value) (w4 : World), (w5.alloc o).grownBy w4 u4.ownBlock → w4.ownsRow w1.heap.size 45 2 v' ((negP (xs.take k)).length + 1) ((flatP (negP (xs.take k))).map (Value.int .i64) ++ [.int .i64 (-x), .int .i64 (-y)]) → SmSt w1 (negP (xs.take (k + 1))) v' w4) := fun o v' w4 hg ho => by rw [HTJ.out]; exact HS6.out.push hg ho
      generalize negP (xs.take k) = LL at *
      have hown : w5.ownsRow w1.heap.size 45 2 u4 LL.length ((flatP LL).map (Value.int .i64)) := HS6.out.own
      have HLE : Hid (∀ o : Obj, w1.heap.size ≤ (w5.alloc o).heap.size) := fun o => (HS6.out.x.alloc o).size
      have HB1 : Hid (LL.length + 1 ≤ maxLen) := by show _ ≤ _; unfold maxLen; omega
      have HB2 : Hid ((LL.length + 1) * 16 ≤ 140737488355328) := by show _ ≤ _; omega
      clear HS6 HTJ
      go_wp2_with (at_builtin; refine wpList_append_own_at _ rfl _ _ 42 rfl w1.heap.size 45 iw (.agg #[.int .i64 0, .int .i64 0]) 2 16 Try.underlying42 hiw hz0 hz1 hz2 rfl (by decide) _ _ _ rfl (hown.alloc _) ⟨w5.heap.size, 0, none⟩ 1 1 [.int .i64 (-x), .int .i64 (-y)] rfl rfl (cell_two_new _ _ _ _) (by simp [Value.oneCell']) HB1.out HB2.out (HLE.out _) (fun v' w4 hown' hgrow _ hat => ?_); have HS9 := Lib.hid (HNX.out _ _ _ hgrow hown'); clear hgrow hown' hown hat f0 f1 lf)
      go_roundw
      case rel => exact ⟨k + 1, by omega, by go_num, HS9⟩
      case measure => simp [intOf]; omega
    · have hkk : k = xs.length := by omega
      subst hkk
      rw [List.take_length] at HS
      obtain ⟨g, cap, rfl⟩ := HS.out.form
      have HC := Lib.hid (HTO.out wo _ g cap HS.out.own)
      obtain ⟨n, hn⟩ : ∃ n, n = (negP xs).length := ⟨_, rfl⟩
      have HN := Lib.hid hn
      rw [← hn] at HC ⊢
      clear hn HTO HTK HLN HBX HMX
      go_wp2_with fail
      refine HC.out.mono ?_
      rintro e w5 ⟨rfl, ho5, hgr5⟩
      obtain ⟨r1, r2, r3, r4, HR⟩ := (HS.out.told rfl hgr5 ho5).store (HX0.out.trans HX1.out) (show w.heap.size ≤ w.heap.size + 1 by omega) (HO.out.ext HX1.out) HMM.out (.slice (some ⟨g, 0, none⟩) m cap)
      have HFIN : Hid (ElmRet w S (.returned (.tuple #[.agg #[.slice (some ⟨g, 0, none⟩) m cap], .bool true])) (w5.setCell ⟨w.heap.size + 1, 0, none⟩ (.slice (some ⟨g, 0, none⟩) m cap))) := ⟨some ⟨g, 0, none⟩, cap, by rw [HMM.out], HR.out.1, (GrowP.own HR.out.2).row⟩
      clear ho5 hgr5 HS HC HR
      go_wp2
      exact bodyPost_ret (v := .tuple #[.agg #[.slice (some ⟨g, 0, none⟩) m cap], .bool true]) (by simp [results, Try.results24, go_sem, r3]) rfl HFIN.out
end Go.Proofs.Ytkpgelhmeokemaa
