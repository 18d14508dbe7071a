/- FnOpenedAreas: the threshold of a grey picture without small nodes is the threshold without small components. -/
import Derived.Test.YtmmanehdmnkekaaGenT
import Derived.Test.YtmmanehdmnkekaaOpdP
namespace Go.Proofs.Ytmmanehdmnkekaa
open Go Go.RowKit
theorem thr_grl {W H : Nat} {xs : List Int} (t : Int) (hW : 0 < W) (hH : 0 < H) (hl : xs.length = H * W) : thrRows (grl W H xs) t = picRows W H (thrL t xs) := by
  unfold thrRows
  rw [grl_len, grl_row hH, grl_flattenO hW hl]
theorem opn_ok {m : List (List Int)} (h : Int) (hok : tableOk m 99 = true) : tableOk (grl (m.getD 0 []).length m.length (opnL (m.getD 0 []).length m.length m.flatten h)) 99 = true := by
  obtain ⟨v1, v2, v3, v4, v5, v6⟩ := tableOk_spec hok
  have hg := grL_table hok
  refine tableOk_grl v3 v4 v1 v2 fun k hk => ?_
  rw [opnL_at hk]
  unfold openV openK
  have hp := nodeL_pos hg hk
  rcases lastW_spec (fun j => holdN (m.getD 0 []).length m.length m.flatten k j && decide (h ≤ (arN (m.getD 0 []).length m.length m.flatten ((nodeL (m.getD 0 []).length m.length m.flatten).getD j (0, 0)) : Int))) (nodeL (m.getD 0 []).length m.length m.flatten).length with ⟨q1, -⟩ | ⟨j, q1, q2, -, -⟩
  · rw [q1]
    have := (node_at hp).1
    have e : (-1 : Int).toNat = 0 := rfl
    rw [e]
    omega
  · rw [q2, Int.toNat_natCast]
    have := (node_at q1).1
    omega
theorem thr_pic {m : List (List Int)} (t : Int) (hok : tableOk m 99 = true) : picOk (thrRows m t) = true ∧ picW (thrRows m t) = (m.getD 0 []).length ∧ (thrRows m t).length = m.length ∧ picL (thrRows m t) = thrL t m.flatten := by
  obtain ⟨v1, v2, v3, v4, v5, v6⟩ := tableOk_spec hok
  have hl : (thrL t m.flatten).length = (m.getD 0 []).length * m.length := by unfold thrL; rw [List.length_map, flat_len _ m v5]
  exact ⟨picOk_rows v3 v4 v1 v2 hl, picW_rows (by omega) hl, picRows_len _ _ _, picL_rows hl⟩
theorem opd_kept {m : List (List Int)} {h t : Int} {F : Int × Int → Nat} {n : Nat} (hok : tableOk m 99 = true) (hF : LabP (thrRows m t) false F n) (ht0 : (((nodeL (m.getD 0 []).length m.length m.flatten).getD 0 (0, 0)).1 : Int) < t) :
    picRows (picW (thrRows m t)) (thrRows m t).length (mkl (picW (thrRows m t)) (thrRows m t).length (keptG F (areK (picW (thrRows m t)) (thrRows m t).length F n h))) = thrRows (grl (m.getD 0 []).length m.length (opnL (m.getD 0 []).length m.length m.flatten h)) t := by
  obtain ⟨v1, v2, v3, v4, v5, v6⟩ := tableOk_spec hok
  obtain ⟨-, e2, e3, e4⟩ := thr_pic t hok
  unfold LabP at hF
  rw [e2, e3, e4] at hF
  have hl : m.flatten.length = m.length * (m.getD 0 []).length := by rw [flat_len _ m v5, Nat.mul_comm]
  rw [thr_grl t v3 v1 (opnL_len _ _ _ _), e2, e3, opened_kept v3 (grL_table hok) hl ht0 hF]
theorem opd_least {m : List (List Int)} {h t : Int} (hok : tableOk m 99 = true) (ht0 : t = (((nodeL (m.getD 0 []).length m.length m.flatten).getD 0 (0, 0)).1 : Int)) : thrRows m t = thrRows (grl (m.getD 0 []).length m.length (opnL (m.getD 0 []).length m.length m.flatten h)) t := by
  obtain ⟨v1, v2, v3, v4, v5, v6⟩ := tableOk_spec hok
  have hl : m.flatten.length = m.length * (m.getD 0 []).length := by rw [flat_len _ m v5, Nat.mul_comm]
  rw [thr_grl t v3 v1 (opnL_len _ _ _ _)]
  unfold thrRows
  rw [opened_least (grL_table hok) hl ht0]
/-- A store into another box leaves the rows of a picture. -/
theorem RowS.setOne {w : World} {a : Option Addr} {xs : List ByteArray} {p : Nat} {T : TypeId} {b : Option Addr} {n c : Nat} (h : RowS w a xs) (ho : One w p T (.slice b n c)) (v : Value) : RowS (w.setCell ⟨p, 0, none⟩ v) a xs := by
  intro r hr
  obtain ⟨b1, o1, rfl, hc⟩ := h r hr
  refine ⟨b1, o1, rfl, ?_⟩
  by_cases e : b1 = p
  · exfalso
    subst e
    have ho2 : w.heap[b1]? = some (.cells #[.slice b n c] T (0, 0)) := ho
    unfold World.cell? at hc
    rw [ho2] at hc
    simp only at hc
    rcases Nat.eq_zero_or_pos (o1 + r) with hz | hz
    · rw [hz] at hc; simp at hc
    · rw [Array.getElem?_eq_none (by simp; omega)] at hc; simp at hc
  · rw [← hc]
    exact World.cell?_of_block (a := ⟨b1, o1 + r, none⟩) (Below.heap_setCell _ _ _ _ e)
theorem grey_bnd {m : List (List Int)} {N : Int} (hok : tableOk m N = true) : MatBnd m := by
  obtain ⟨v1, v2, v3, v4, v5, v6⟩ := tableOk_spec hok
  refine ⟨by omega, fun r => ?_⟩
  by_cases hr : r < m.length
  · rw [v5 r hr]; omega
  · rw [List.getD_eq_getElem?_getD, List.getElem?_eq_none (by omega)]; simp
theorem pic_bndO {ss : List ByteArray} (h : picOk ss = true) : PicBnd ss := by
  obtain ⟨v1, v2, v3, v4, v5, -⟩ := picOk_spec h
  refine ⟨by omega, fun y => ?_⟩
  by_cases hy : y < ss.length
  · rw [v5.2 y hy]; omega
  · rw [List.getD_eq_getElem?_getD, List.getElem?_eq_none (by omega)]; simp
theorem levT_zero {nds : List (Nat × Nat)} (h : 0 < nds.length) : (levT nds).getD 0 0 = ((nds.getD 0 (0, 0)).1 : Int) := by
  unfold levT; rw [List.getD_eq_getElem?_getD, List.getElem?_map, List.getD_eq_getElem?_getD, List.getElem?_eq_getElem h]; rfl
set_option maxRecDepth 5000 in
set_option maxHeartbeats 3200000 in
theorem fnOpened_any (a : Option Addr) (c : Nat) (zs : List Int) (a2 : Option Addr) (c2 : Nat) (ys : List Int) (w : World) (h : CodeAt w a zs) (h2 : CodeAt w a2 ys) :
    Calls Try.prog 8 #[.slice a zs.length c, .slice a2 ys.length c2] w fun e w' => e = .returned (.bool true) ∧ w.Ext w' := by
  have HLO := Lib.hid (long_any a zs.length c a2 ys.length c2 w h.2.2 h2.2.2)
  have HGR := Lib.hid (fun w' (hx : w.Ext w') => b10Grey_any a c zs w' (h.ext hx))
  have HAT := Lib.hid (fun w' (hx : w.Ext w') => b10At_any a2 c2 ys 0 10 w' (by omega) (h2.ext hx))
  clear h h2
  go_enter Try.func8, Try.ntmps8
  have HWB : Hid (w.Ext w) := .refl _
  have HX : Hid (w.Ext w) := .refl _
  go_wp2_with fail
  refine (HLO.out).mono ?_
  rintro e v1 ⟨t, rfl, hx, -⟩
  have HX_ := Lib.hid (HX.out.trans hx)
  clear HX
  have HX := HX_
  clear HX_
  clear hx
  cases t
  rotate_left
  · go_wp2
    go_ret
    exact ⟨rfl, HX.out⟩
  go_wp2_with fail
  refine (HGR.out v1 (HWB.out.trans HX.out)).mono ?_
  rintro e v2 ⟨ga, gc, GA, GC, m, rfl, hgt, hx, hrow⟩
  have HX_ := Lib.hid (HX.out.trans hx)
  clear HX
  have HX := HX_
  clear HX_
  have HGT := Lib.hid hgt
  have HROW := Lib.hid hrow.mat
  clear hgt hrow
  clear hx
  obtain ⟨b2, hb2⟩ : ∃ b2, b2 = v2.alloc (.cells #[.slice ga m.length gc] 26) := ⟨_, rfl⟩
  have hxb : v2.Ext b2 := by rw [hb2]; repeat (first | exact World.Ext.refl _ | exact ⟨_, rfl⟩ | assumption | refine World.Ext.over ?_ _ | refine World.Ext.drewN ?_ _ | refine World.Ext.drew ?_ | refine World.Ext.alloc ?_ _ | refine World.Ext.setCell ?_ (by simp) _)
  have c5_ : b2.cell? ⟨v2.heap.size, 0, none⟩ = some (.slice ga m.length gc) := by rw [hb2]; simp [go_sem]
  have HALL_ : Hid (∀ w', b2.Ext w' → w'.cell? ⟨v2.heap.size, 0, none⟩ = some (.slice ga m.length gc) ∧ MatAt w' ga GA GC m ∧ True) := fun w' hx' => ⟨hx'.cell c5_, HROW.out.ext (hxb.trans hx'), trivial⟩
  have HWB_ := Lib.hid (HWB.out.trans (HX.out.trans hxb))
  have HX_ : Hid (b2.Ext b2) := .refl _
  clear hxb c5_ HWB HX
  have HALL := HALL_
  have HWB := HWB_
  have HX := HX_
  clear HALL_ HWB_ HX_
  go_upto_region 4 with fail
  rw [← hb2]
  clear hb2
  generalize v2.heap.size = q5 at *
  go_wp2_with fail
  refine (HAT.out b2 (HWB.out.trans HX.out)).mono ?_
  rintro e v3 ⟨r, rfl, hx, r0, r1⟩
  have HX_ := Lib.hid (HX.out.trans hx)
  clear HX
  have HX := HX_
  clear HX_
  clear hx
  obtain ⟨ar, har⟩ : ∃ ar : Int, 1 + r = ar := ⟨_, rfl⟩
  have hab : 1 ≤ ar ∧ ar ≤ 10 := by omega
  have HAB := Lib.hid hab
  have hok : tableOk m 99 = true := tableOk_more HGT.out.1 (by omega)
  obtain ⟨v1, v2, v3, v4, v5, v6⟩ := tableOk_spec hok
  have HOP : Hid (∀ w', MatAt w' ga GA GC m → Calls Try.prog 57 #[.agg #[.slice ga m.length gc], .int .i64 ar] w' (GreyRet2 w' (grl (m.getD 0 []).length m.length (opnL (m.getD 0 []).length m.length m.flatten ar)) true)) := fun w' h1 => by
    have h := implOpenAreas_any ga gc GA GC m ar w' (grey_bnd hok) h1
    rw [show opnO m ar = true by unfold opnO; rw [hok, inB_true.2 (by omega)]; rfl] at h
    exact h
  have HGTO : Hid (∀ w', MatAt w' ga GA GC m → Calls Try.prog 14 #[.agg #[.slice ga m.length gc]] w' (GtRet2 w' (gtR (m.getD 0 []).length m.length m.flatten) true)) := fun w' h1 => by
    have h := implGreyTreeOf_any ga gc GA GC m w' (grey_bnd hok) h1
    unfold gtO at h
    rw [hok, if_pos rfl] at h
    exact h
  have HTH : Hid (∀ (w' : World) (k : Nat), k ≤ 10 → MatAt w' ga GA GC m → Calls Try.prog 18 #[.agg #[.slice ga m.length gc], .int .i64 k] w' (PicRet2 w' (thrRows m k) true)) := fun w' k hk h1 => by
    have h := implThresholdGrey_any ga gc GA GC m k w' (grey_bnd hok).1 (grey_bnd hok).2 h1
    rw [show thrOk m k = true by unfold thrOk; rw [hok, inB_true.2 (by omega)]; rfl, if_pos rfl] at h
    exact h
  have hgl := grL_table hok
  have hnp : 0 < (nodeL (m.getD 0 []).length m.length m.flatten).length := nodeL_pos hgl (p := 0) (Nat.mul_pos v1 v3)
  have hl0 : ((nodeL (m.getD 0 []).length m.length m.flatten).getD 0 (0, 0)).1 < 100 := (node_at hnp).1
  have hok2 := opn_ok ar hok
  have HKE : Hid (∀ k : Nat, ((nodeL (m.getD 0 []).length m.length m.flatten).getD 0 (0, 0)).1 ≤ k → k ≤ 10 → ∃ K : List ByteArray, K.length = m.length ∧ (((nodeL (m.getD 0 []).length m.length m.flatten).getD 0 (0, 0)).1 < k → K = thrRows (grl (m.getD 0 []).length m.length (opnL (m.getD 0 []).length m.length m.flatten ar)) k) ∧
      ∀ (w' : World) (x : Option Addr) (y : Nat), RowS w' x (thrRows m k) → Calls Try.prog 58 #[.agg #[.slice x m.length y], .bool false, .int .i64 ar] w' (PicRet2 w' K true)) := fun k hk1 hk2 => by
    obtain ⟨F, n, hF⟩ := LabP.ex (thrRows m k) false
    obtain ⟨e1, e2, e3, e4⟩ := thr_pic (k : Int) hok
    refine ⟨picRows (picW (thrRows m k)) (thrRows m k).length (mkl (picW (thrRows m k)) (thrRows m k).length (keptG F (areK (picW (thrRows m k)) (thrRows m k).length F n ar))), by rw [picRows_len, e3], fun h0 => opd_kept hok hF (by omega), fun w' x y h1 => ?_⟩
    have h := implKeep_any x y (thrRows m k) false ar F n hF w' (pic_bndO e1) h1
    rw [show keepOk (thrRows m k) ar = true by unfold keepOk; rw [e1, inB_true.2 (by omega)]; rfl, e3] at h
    rw [← e3] at h
    exact e3 ▸ h
  have HLE : Hid (∀ k : Nat, k = ((nodeL (m.getD 0 []).length m.length m.flatten).getD 0 (0, 0)).1 → thrRows m k = thrRows (grl (m.getD 0 []).length m.length (opnL (m.getD 0 []).length m.length m.flatten ar)) k) := fun k hk => opd_least hok (by rw [hk])
  have HLV : Hid ((levT (nodeL (m.getD 0 []).length m.length m.flatten)).getD 0 0 = (((nodeL (m.getD 0 []).length m.length m.flatten).getD 0 (0, 0)).1 : Int)) := levT_zero hnp
  have HTL : Hid (∀ k : Nat, (thrRows m k).length = m.length) := fun k => picRows_len _ _ _
  have HGL2 : Hid ((grl (m.getD 0 []).length m.length (opnL (m.getD 0 []).length m.length m.flatten ar)).length = m.length) := grl_len _ _ _
  have HROWL : Hid (∀ k, k < m.length → ((grl (m.getD 0 []).length m.length (opnL (m.getD 0 []).length m.length m.flatten ar)).getD k []).length = (m.getD k []).length) := fun k hk => by rw [grl_row hk, v5 k hk]
  have hmp : 0 < m.length := by omega
  have hml : m.length ≤ 16 := v2
  clear hgl v1 v2 v3 v4 v5 v6 hok r0 r1
  have HK2 := Lib.hid hok2
  have HNP := Lib.hid hnp
  clear hok2 hnp
  have HRL : Hid ((gtR (m.getD 0 []).length m.length m.flatten).1 = levT (nodeL (m.getD 0 []).length m.length m.flatten)) := rfl
  generalize gtR (m.getD 0 []).length m.length m.flatten = R at *
  generalize nodeL (m.getD 0 []).length m.length m.flatten = nds at *
  generalize grl (m.getD 0 []).length m.length (opnL (m.getD 0 []).length m.length m.flatten ar) = G2 at *
  generalize (nds.getD 0 (0, 0)).1 = L0 at *
  have c5 := (HALL.out v3 HX.out).1
  have lc5 := World.block_lt_of_cell? _ _ c5
  go_wp2_with fail
  refine (HOP.out v3 (HALL.out v3 HX.out).2.1).mono ?_
  rintro e v4 ⟨a7, c7, A7, C7, rfl, hx, ho⟩
  clear lc5 c5
  have HX_ := Lib.hid (HX.out.trans hx)
  clear HX
  have HX := HX_
  clear HX_
  have HO7 := Lib.hid ho.mat
  clear ho har
  clear hx
  rw [HGL2.out]
  obtain ⟨b4, hb4⟩ : ∃ b4, b4 = v4.alloc (.cells #[.slice a7 m.length c7] 26) := ⟨_, rfl⟩
  have hxb : v4.Ext b4 := by rw [hb4]; repeat (first | exact World.Ext.refl _ | exact ⟨_, rfl⟩ | assumption | refine World.Ext.over ?_ _ | refine World.Ext.drewN ?_ _ | refine World.Ext.drew ?_ | refine World.Ext.alloc ?_ _ | refine World.Ext.setCell ?_ (by simp) _)
  have c7x_ : b4.cell? ⟨v4.heap.size, 0, none⟩ = some (.slice a7 m.length c7) := by rw [hb4]; simp [go_sem]
  have HALL_ : Hid (∀ w', b4.Ext w' → w'.cell? ⟨q5, 0, none⟩ = some (.slice ga m.length gc) ∧ MatAt w' ga GA GC m ∧ w'.cell? ⟨v4.heap.size, 0, none⟩ = some (.slice a7 m.length c7) ∧ MatAt w' a7 A7 C7 G2 ∧ True) := fun w' hx' => ⟨(HALL.out w' ((HX.out.trans hxb).trans hx')).1, (HALL.out w' ((HX.out.trans hxb).trans hx')).2.1, hx'.cell c7x_, HO7.out.ext (hxb.trans hx'), trivial⟩
  have HWB_ := Lib.hid (HWB.out.trans (HX.out.trans hxb))
  have HX_ : Hid (b4.Ext b4) := .refl _
  clear hxb c7x_ HWB HX HALL
  have HALL := HALL_
  have HWB := HWB_
  have HX := HX_
  clear HALL_ HWB_ HX_
  go_upto_region 6 with fail
  rw [← hb4]
  clear hb4
  generalize v4.heap.size = q7 at *
  have c5 := (HALL.out b4 HX.out).1
  have lc5 := World.block_lt_of_cell? _ _ c5
  go_wp2_with fail
  refine (HGTO.out b4 (HALL.out b4 HX.out).2.1).mono ?_
  rintro e v5 ⟨e1, e2, e3, e4, d1, d2, d3, d4, A9, C9, rfl, hx, ho⟩
  clear lc5 c5
  have HX_ := Lib.hid (HX.out.trans hx)
  clear HX
  have HX := HX_
  clear HX_
  have HO9 := Lib.hid ho.row.1
  clear ho
  clear hx
  unfold gtV
  rw [HRL.out] at HO9
  rw [HRL.out, levT_len]
  obtain ⟨lb, lo, rfl, hl9⟩ := HO9.out 0 (by rw [levT_len]; exact HNP.out)
  rw [HLV.out, Nat.add_zero] at hl9
  have HL9 := Lib.hid hl9
  clear hl9 HO9
  have hnp := HNP.out
  have hne : ((nds.length : Int) == 0) = false := by simp; intro e; rw [e] at hnp; simp at hnp
  generalize nds.length = N at *
  generalize R.2.1.length = n2 at *
  generalize R.2.2.1.length = n3 at *
  generalize R.2.2.2.length = n4 at *
  obtain ⟨b5, hb5⟩ : ∃ b5, b5 = v5.alloc (.cells #[.slice (some ⟨lb, lo, none⟩) N d1, .slice e2 n2 d2, .slice e3 n3 d3, .slice e4 n4 d4] 30) := ⟨_, rfl⟩
  have hxb : v5.Ext b5 := by rw [hb5]; repeat (first | exact World.Ext.refl _ | exact ⟨_, rfl⟩ | assumption | refine World.Ext.over ?_ _ | refine World.Ext.drewN ?_ _ | refine World.Ext.drew ?_ | refine World.Ext.alloc ?_ _ | refine World.Ext.setCell ?_ (by simp) _)
  have c9_ : b5.cell? ⟨v5.heap.size, 0, none⟩ = some (.slice (some ⟨lb, lo, none⟩) N d1) := by rw [hb5]; simp [go_sem]
  have HALL_ : Hid (∀ w', b5.Ext w' → w'.cell? ⟨q5, 0, none⟩ = some (.slice ga m.length gc) ∧ MatAt w' ga GA GC m ∧ w'.cell? ⟨q7, 0, none⟩ = some (.slice a7 m.length c7) ∧ MatAt w' a7 A7 C7 G2 ∧ w'.cell? ⟨v5.heap.size, 0, none⟩ = some (.slice (some ⟨lb, lo, none⟩) N d1) ∧ w'.cell? ⟨lb, lo, none⟩ = some (.int .i64 (L0 : Int)) ∧ True) := fun w' hx' => ⟨(HALL.out w' ((HX.out.trans hxb).trans hx')).1, (HALL.out w' ((HX.out.trans hxb).trans hx')).2.1, (HALL.out w' ((HX.out.trans hxb).trans hx')).2.2.1, (HALL.out w' ((HX.out.trans hxb).trans hx')).2.2.2.1, hx'.cell c9_, (hxb.trans hx').cell HL9.out, trivial⟩
  have HWB_ := Lib.hid (HWB.out.trans (HX.out.trans hxb))
  have HX_ : Hid (b5.Ext b5) := .refl _
  clear hxb c9_ HWB HX HALL
  have HALL := HALL_
  have HWB := HWB_
  have HX := HX_
  clear HALL_ HWB_ HX_
  have HSH : Hid (∀ w', MatAt w' a7 A7 C7 G2 → MatAt w' ga GA GC m → Calls Try.prog 17 #[.slice a7 m.length c7, .slice ga m.length gc] w' fun e w'' => e = .returned (.bool true) ∧ w'.Ext w'') := fun w' h1 h2 => by
    have h := b10Shape_true a7 ga c7 gc A7 GA C7 GC G2 m w' (by rw [HGL2.out]; omega) (by rw [HGL2.out]; exact hmp) HGL2.out (fun k hk => HROWL.out k (by rw [← HGL2.out]; exact hk)) h1 h2
    rw [HGL2.out] at h
    exact h
  have HTH2 : Hid (∀ (w' : World) (k : Nat), k ≤ 10 → MatAt w' a7 A7 C7 G2 → Calls Try.prog 18 #[.agg #[.slice a7 m.length c7], .int .i64 k] w' (PicRet2 w' (thrRows G2 k) true)) := fun w' k hk h1 => by
    have h := implThresholdGrey_any a7 c7 A7 C7 G2 k w' (grey_bnd HK2.out).1 (grey_bnd HK2.out).2 h1
    rw [show thrOk G2 k = true by unfold thrOk; rw [HK2.out, inB_true.2 (by omega)]; rfl, if_pos rfl, HGL2.out] at h
    exact h
  have HT2L : Hid (∀ k : Nat, (thrRows G2 k).length = m.length) := fun k => by show _ = _; unfold thrRows; rw [picRows_len, HGL2.out]
  have HSAME : Hid (∀ (w' : World) (x y : Option Addr) (cx cy k : Nat), RowS w' x (thrRows G2 k) → RowS w' y (thrRows G2 k) → Calls Try.prog 34 #[.agg #[.slice x m.length cx], .agg #[.slice y m.length cy]] w' fun e w'' => e = .returned (.bool true) ∧ w'.Ext w'') := fun w' x y cx cy k h1 h2 => by
    have h := b10Same_true x y cx cy (thrRows G2 k) w' (by rw [HT2L.out]; omega) (by rw [HT2L.out]; exact hmp) h1 h2
    rw [HT2L.out] at h
    exact h
  clear HK2 HROWL HLV HRL HNP HOP HGTO HROW HO7
  go_upto_region 7 with fail
  rw [← hb5]
  clear hb5
  generalize v5.heap.size = q9 at *
  have c9 := (HALL.out b5 HX.out).2.2.2.2.1
  have lc9 := World.block_lt_of_cell? _ _ c9
  have c7x := (HALL.out b5 HX.out).2.2.1
  have lc7x := World.block_lt_of_cell? _ _ c7x
  have c5 := (HALL.out b5 HX.out).1
  have lc5 := World.block_lt_of_cell? _ _ c5
  go_wp2_with fail
  refine (HSH.out b5 (HALL.out b5 HX.out).2.2.2.1 (HALL.out b5 HX.out).2.1).mono ?_
  rintro e v6 ⟨rfl, hx⟩
  clear lc9 c9 lc7x c7x lc5 c5
  have HX_ := Lib.hid (HX.out.trans hx)
  clear HX
  have HX := HX_
  clear HX_
  clear hx
  have c9 := (HALL.out v6 HX.out).2.2.2.2.1
  have lc9 := World.block_lt_of_cell? _ _ c9
  have l9 := (HALL.out v6 HX.out).2.2.2.2.2.1
  have hN0 : (0 : Int) < (N : Int) := by omega
  have hlo : lo + 0 = lo := rfl
  go_wp2
  go_loopw [11, 12, 13, 14, 15, 16, 17] (fun i _ _ _ _ _ _ wr => ∃ k : Nat, L0 ≤ k ∧ k ≤ 100 ∧ i = .int .i64 k ∧ Hid (b5.Ext wr)) (fun i _ _ _ _ _ _ _ => 100 - (intOf i).toNat)
  case atStart => exact ⟨L0, Nat.le_refl _, by omega, rfl, HX⟩
  case round =>
    clear HX c9 lc9 l9
    obtain ⟨k, hk1, hk2, rfl, HX⟩ := hrel
    obtain ⟨wa, rfl⟩ : ∃ wa : World, wa = wr := ⟨_, rfl⟩
    by_cases hlt : k ≤ 10
    · have hlt' : (k : Int) ≤ 10 := by omega
      obtain ⟨K, hK1, hK2, hK3⟩ := HKE.out k hk1 hlt
      have HK := Lib.hid hK2
      have HKC := Lib.hid hK3
      have HKL := Lib.hid hK1
      clear hK1 hK2 hK3
      have c5 := (HALL.out wa HX.out).1
      have lc5 := World.block_lt_of_cell? _ _ c5
      go_wp2_with fail
      refine (HTH.out wa k hlt (HALL.out wa HX.out).2.1).mono ?_
      rintro e v7 ⟨a12, c12, rfl, hx, ho⟩
      clear lc5 c5
      have HX_ := Lib.hid (HX.out.trans hx)
      clear HX
      have HX := HX_
      clear HX_
      have HO12 := Lib.hid ho.row
      clear ho
      clear hx
      rw [HTL.out]
      obtain ⟨b7, hb7⟩ : ∃ b7, b7 = v7.alloc (.cells #[.slice a12 m.length c12] 38) := ⟨_, rfl⟩
      have hxb : v7.Ext b7 := by rw [hb7]; repeat (first | exact World.Ext.refl _ | exact ⟨_, rfl⟩ | assumption | refine World.Ext.over ?_ _ | refine World.Ext.drewN ?_ _ | refine World.Ext.drew ?_ | refine World.Ext.alloc ?_ _ | refine World.Ext.setCell ?_ (by simp) _)
      have c12x_ : b7.cell? ⟨v7.heap.size, 0, none⟩ = some (.slice a12 m.length c12) := by rw [hb7]; simp [go_sem]
      have HALL_ : Hid (∀ w', b7.Ext w' → w'.cell? ⟨q5, 0, none⟩ = some (.slice ga m.length gc) ∧ MatAt w' ga GA GC m ∧ w'.cell? ⟨q7, 0, none⟩ = some (.slice a7 m.length c7) ∧ MatAt w' a7 A7 C7 G2 ∧ w'.cell? ⟨q9, 0, none⟩ = some (.slice (some ⟨lb, lo, none⟩) N d1) ∧ w'.cell? ⟨lb, lo, none⟩ = some (.int .i64 (L0 : Int)) ∧ w'.cell? ⟨v7.heap.size, 0, none⟩ = some (.slice a12 m.length c12) ∧ RowS w' a12 (thrRows m k) ∧ b5.Ext w' ∧ True) := fun w' hx' => ⟨(HALL.out w' ((HX.out.trans hxb).trans hx')).1, (HALL.out w' ((HX.out.trans hxb).trans hx')).2.1, (HALL.out w' ((HX.out.trans hxb).trans hx')).2.2.1, (HALL.out w' ((HX.out.trans hxb).trans hx')).2.2.2.1, (HALL.out w' ((HX.out.trans hxb).trans hx')).2.2.2.2.1, (HALL.out w' ((HX.out.trans hxb).trans hx')).2.2.2.2.2.1, hx'.cell c12x_, RowOf.ext HO12.out (hxb.trans hx'), HX.out.trans (hxb.trans hx'), trivial⟩
      have HWB_ := Lib.hid (HWB.out.trans (HX.out.trans hxb))
      have HX_ : Hid (b7.Ext b7) := .refl _
      clear hxb c12x_ HWB HX HALL
      have HALL := HALL_
      have HWB := HWB_
      have HX := HX_
      clear HALL_ HWB_ HX_
      go_upto_region 13 with fail
      rw [← hb7]
      clear hb7
      generalize v7.heap.size = q12 at *
      have c12x := (HALL.out b7 HX.out).2.2.2.2.2.2.1
      have lc12x := World.block_lt_of_cell? _ _ c12x
      go_wp2_with fail
      refine (HKC.out b7 a12 c12 (HALL.out b7 HX.out).2.2.2.2.2.2.2.1).mono ?_
      rintro e v8 ⟨a14, c14, rfl, hx, ho⟩
      clear lc12x c12x
      have HX_ := Lib.hid (HX.out.trans hx)
      clear HX
      have HX := HX_
      clear HX_
      have HO14 := Lib.hid ho.row
      clear ho
      clear hx
      rw [HKL.out]
      obtain ⟨b8, hb8⟩ : ∃ b8, b8 = v8.alloc (.cells #[.slice a14 m.length c14] 38) := ⟨_, rfl⟩
      have hxb : v8.Ext b8 := by rw [hb8]; repeat (first | exact World.Ext.refl _ | exact ⟨_, rfl⟩ | assumption | refine World.Ext.over ?_ _ | refine World.Ext.drewN ?_ _ | refine World.Ext.drew ?_ | refine World.Ext.alloc ?_ _ | refine World.Ext.setCell ?_ (by simp) _)
      have c14x_ : b8.cell? ⟨v8.heap.size, 0, none⟩ = some (.slice a14 m.length c14) := by rw [hb8]; simp [go_sem]
      have HALL_ : Hid (∀ w', b8.Ext w' → w'.cell? ⟨q5, 0, none⟩ = some (.slice ga m.length gc) ∧ MatAt w' ga GA GC m ∧ w'.cell? ⟨q7, 0, none⟩ = some (.slice a7 m.length c7) ∧ MatAt w' a7 A7 C7 G2 ∧ w'.cell? ⟨q9, 0, none⟩ = some (.slice (some ⟨lb, lo, none⟩) N d1) ∧ w'.cell? ⟨lb, lo, none⟩ = some (.int .i64 (L0 : Int)) ∧ w'.cell? ⟨q12, 0, none⟩ = some (.slice a12 m.length c12) ∧ RowS w' a12 (thrRows m k) ∧ b5.Ext w' ∧ w'.cell? ⟨v8.heap.size, 0, none⟩ = some (.slice a14 m.length c14) ∧ RowS w' a14 K ∧ One w' v8.heap.size 38 (.slice a14 m.length c14) ∧ b5.heap.size ≤ v8.heap.size ∧ True) := fun w' hx' => ⟨(HALL.out w' ((HX.out.trans hxb).trans hx')).1, (HALL.out w' ((HX.out.trans hxb).trans hx')).2.1, (HALL.out w' ((HX.out.trans hxb).trans hx')).2.2.1, (HALL.out w' ((HX.out.trans hxb).trans hx')).2.2.2.1, (HALL.out w' ((HX.out.trans hxb).trans hx')).2.2.2.2.1, (HALL.out w' ((HX.out.trans hxb).trans hx')).2.2.2.2.2.1, (HALL.out w' ((HX.out.trans hxb).trans hx')).2.2.2.2.2.2.1, (HALL.out w' ((HX.out.trans hxb).trans hx')).2.2.2.2.2.2.2.1, (HALL.out w' ((HX.out.trans hxb).trans hx')).2.2.2.2.2.2.2.2.1, hx'.cell c14x_, RowOf.ext HO14.out (hxb.trans hx'), ((show One b8 v8.heap.size 38 (.slice a14 m.length c14) by rw [hb8]; exact One.new _ _ _ _ rfl).ext hx'), (World.Ext.size (HALL.out v8 HX.out).2.2.2.2.2.2.2.2.1), trivial⟩
      have HWB_ := Lib.hid (HWB.out.trans (HX.out.trans hxb))
      have HX_ : Hid (b8.Ext b8) := .refl _
      clear hxb c14x_ HWB HX HALL
      have HALL := HALL_
      have HWB := HWB_
      have HX := HX_
      clear HALL_ HWB_ HX_
      go_upto_region 14 with fail
      rw [← hb8]
      clear hb8
      generalize v8.heap.size = q14 at *
      have c7x := (HALL.out b8 HX.out).2.2.1
      have lc7x := World.block_lt_of_cell? _ _ c7x
      go_wp2_with fail
      refine (HTH2.out b8 k hlt (HALL.out b8 HX.out).2.2.2.1).mono ?_
      rintro e v9 ⟨a16, c16, rfl, hx, ho⟩
      clear lc7x c7x
      have HX_ := Lib.hid (HX.out.trans hx)
      clear HX
      have HX := HX_
      clear HX_
      have HO16 := Lib.hid ho.row
      clear ho
      clear hx
      rw [HT2L.out]
      obtain ⟨b9, hb9⟩ : ∃ b9, b9 = v9.alloc (.cells #[.slice a16 m.length c16] 38) := ⟨_, rfl⟩
      have hxb : v9.Ext b9 := by rw [hb9]; repeat (first | exact World.Ext.refl _ | exact ⟨_, rfl⟩ | assumption | refine World.Ext.over ?_ _ | refine World.Ext.drewN ?_ _ | refine World.Ext.drew ?_ | refine World.Ext.alloc ?_ _ | refine World.Ext.setCell ?_ (by simp) _)
      have c16x_ : b9.cell? ⟨v9.heap.size, 0, none⟩ = some (.slice a16 m.length c16) := by rw [hb9]; simp [go_sem]
      have HALL_ : Hid (∀ w', b9.Ext w' → w'.cell? ⟨q5, 0, none⟩ = some (.slice ga m.length gc) ∧ MatAt w' ga GA GC m ∧ w'.cell? ⟨q7, 0, none⟩ = some (.slice a7 m.length c7) ∧ MatAt w' a7 A7 C7 G2 ∧ w'.cell? ⟨q9, 0, none⟩ = some (.slice (some ⟨lb, lo, none⟩) N d1) ∧ w'.cell? ⟨lb, lo, none⟩ = some (.int .i64 (L0 : Int)) ∧ w'.cell? ⟨q12, 0, none⟩ = some (.slice a12 m.length c12) ∧ RowS w' a12 (thrRows m k) ∧ b5.Ext w' ∧ w'.cell? ⟨q14, 0, none⟩ = some (.slice a14 m.length c14) ∧ RowS w' a14 K ∧ One w' q14 38 (.slice a14 m.length c14) ∧ b5.heap.size ≤ q14 ∧ w'.cell? ⟨v9.heap.size, 0, none⟩ = some (.slice a16 m.length c16) ∧ RowS w' a16 (thrRows G2 k) ∧ q14 < v9.heap.size ∧ True) := fun w' hx' => ⟨(HALL.out w' ((HX.out.trans hxb).trans hx')).1, (HALL.out w' ((HX.out.trans hxb).trans hx')).2.1, (HALL.out w' ((HX.out.trans hxb).trans hx')).2.2.1, (HALL.out w' ((HX.out.trans hxb).trans hx')).2.2.2.1, (HALL.out w' ((HX.out.trans hxb).trans hx')).2.2.2.2.1, (HALL.out w' ((HX.out.trans hxb).trans hx')).2.2.2.2.2.1, (HALL.out w' ((HX.out.trans hxb).trans hx')).2.2.2.2.2.2.1, (HALL.out w' ((HX.out.trans hxb).trans hx')).2.2.2.2.2.2.2.1, (HALL.out w' ((HX.out.trans hxb).trans hx')).2.2.2.2.2.2.2.2.1, (HALL.out w' ((HX.out.trans hxb).trans hx')).2.2.2.2.2.2.2.2.2.1, (HALL.out w' ((HX.out.trans hxb).trans hx')).2.2.2.2.2.2.2.2.2.2.1, (HALL.out w' ((HX.out.trans hxb).trans hx')).2.2.2.2.2.2.2.2.2.2.2.1, (HALL.out w' ((HX.out.trans hxb).trans hx')).2.2.2.2.2.2.2.2.2.2.2.2.1, hx'.cell c16x_, RowOf.ext HO16.out (hxb.trans hx'), (One.lt (HALL.out v9 HX.out).2.2.2.2.2.2.2.2.2.2.2.1), trivial⟩
      have HWB_ := Lib.hid (HWB.out.trans (HX.out.trans hxb))
      have HX_ : Hid (b9.Ext b9) := .refl _
      clear hxb c16x_ HWB HX HALL
      have HALL := HALL_
      have HWB := HWB_
      have HX := HX_
      clear HALL_ HWB_ HX_
      go_upto_region 15 with fail
      rw [← hb9]
      clear hb9
      generalize v9.heap.size = q16 at *
      have c9 := (HALL.out b9 HX.out).2.2.2.2.1
      have lc9 := World.block_lt_of_cell? _ _ c9
      have l9 := (HALL.out b9 HX.out).2.2.2.2.2.1
      by_cases hk0 : k = L0
      · have hcb : ((k : Int) == (L0 : Int)) = true := by simp; omega
        have c12x := (HALL.out b9 HX.out).2.2.2.2.2.2.1
        have lc12x := World.block_lt_of_cell? _ _ c12x
        have c14x := (HALL.out b9 HX.out).2.2.2.2.2.2.2.2.2.1
        have lc14x := World.block_lt_of_cell? _ _ c14x
        have c16x := (HALL.out b9 HX.out).2.2.2.2.2.2.2.2.2.2.2.2.2.1
        have lc16x := World.block_lt_of_cell? _ _ c16x
        have f14 := One.free ((HALL.out b9 HX.out).2.2.2.2.2.2.2.2.2.2.2.1)
        have n16 := (HALL.out b9 HX.out).2.2.2.2.2.2.2.2.2.2.2.2.2.2.2.1
        have s14 := (One.set ((HALL.out b9 HX.out).2.2.2.2.2.2.2.2.2.2.2.1) (.slice a12 m.length c12)).cell
        have HSM : Hid (Calls Try.prog 34 #[.agg #[.slice a12 m.length c12], .agg #[.slice a16 m.length c16]] (b9.setCell ⟨q14, 0, none⟩ (.slice a12 m.length c12)) fun e w'' => e = .returned (.bool true) ∧ (b9.setCell ⟨q14, 0, none⟩ (.slice a12 m.length c12)).Ext w'') :=
          HSAME.out _ a12 a16 c12 c16 k (by rw [← HLE.out k hk0]; exact RowS.setOne ((HALL.out b9 HX.out).2.2.2.2.2.2.2.1) ((HALL.out b9 HX.out).2.2.2.2.2.2.2.2.2.2.2.1) _) (RowS.setOne ((HALL.out b9 HX.out).2.2.2.2.2.2.2.2.2.2.2.2.2.2.1) ((HALL.out b9 HX.out).2.2.2.2.2.2.2.2.2.2.2.1) _)
        have HXF : Hid (b5.Ext (b9.setCell ⟨q14, 0, none⟩ (.slice a12 m.length c12))) := World.Ext.setCell ((HALL.out b9 HX.out).2.2.2.2.2.2.2.2.1) (show b5.heap.size ≤ q14 from (HALL.out b9 HX.out).2.2.2.2.2.2.2.2.2.2.2.2.1) _
        clear HKE HTH HTH2 HLE HSAME HALL
        go_wp2_with fail
        refine HSM.out.mono ?_
        rintro e wz ⟨rfl, hx⟩
        have HXZ := Lib.hid (HXF.out.trans hx)
        clear hx HSM HXF c12x lc12x c14x lc14x c16x lc16x s14 f14 c9 lc9 l9
        go_wp2
        go_roundw
        case rel => exact ⟨k + 1, by omega, by omega, by go_num, HXZ⟩
        case measure => simp [intOf]; omega
      · have hcb : ((k : Int) == (L0 : Int)) = false := by simp; omega
        have c14x := (HALL.out b9 HX.out).2.2.2.2.2.2.2.2.2.1
        have lc14x := World.block_lt_of_cell? _ _ c14x
        have c16x := (HALL.out b9 HX.out).2.2.2.2.2.2.2.2.2.2.2.2.2.1
        have lc16x := World.block_lt_of_cell? _ _ c16x
        have HSM := Lib.hid (HSAME.out b9 a14 a16 c14 c16 k (by rw [← HK.out (by omega)]; exact (HALL.out b9 HX.out).2.2.2.2.2.2.2.2.2.2.1) ((HALL.out b9 HX.out).2.2.2.2.2.2.2.2.2.2.2.2.2.2.1))
        have HX9 := Lib.hid ((HALL.out b9 HX.out).2.2.2.2.2.2.2.2.1)
        clear HKE HTH HTH2 HLE HSAME HALL
        go_wp2_with fail
        refine HSM.out.mono ?_
        rintro e wz ⟨rfl, hx⟩
        have HXZ := Lib.hid (HX9.out.trans hx)
        clear hx HSM HX9 c14x lc14x c16x lc16x c9 lc9 l9
        go_wp2
        go_roundw
        case rel => exact ⟨k + 1, by omega, by omega, by go_num, HXZ⟩
        case measure => simp [intOf]; omega
    · have hlt' : ¬ (k : Int) ≤ 10 := by omega
      have HXE := Lib.hid (HWB.out.trans HX.out)
      go_wp2
      go_ret
      exact ⟨rfl, HXE.out⟩
end Go.Proofs.Ytmmanehdmnkekaa
