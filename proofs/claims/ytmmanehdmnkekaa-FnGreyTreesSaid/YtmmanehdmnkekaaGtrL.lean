/- FnGreyTrees: a grey picture comes back from its tree, whose nodes are ordered, and begin at a level as many as the threshold has components. -/
import Derived.Test.YtmmanehdmnkekaaGenT
import Derived.Test.YtmmanehdmnkekaaGtrP
namespace Go.Proofs.Ytmmanehdmnkekaa
open Go Go.RowKit
theorem thr_picG {m : List (List Int)} (t : Int) (hok : tableOk m 99 = true) : picOk (thrRows m t) = true ∧ picW (thrRows m t) = (m.getD 0 []).length ∧ (thrRows m t).length = m.length ∧ picL (thrRows m t) = thrL t m.flatten := by
  obtain ⟨v1, v2, v3, v4, v5, v6⟩ := tableOk_spec hok
  have hl : (thrL t m.flatten).length = (m.getD 0 []).length * m.length := by unfold thrL; rw [List.length_map, flat_len _ m v5]
  exact ⟨picOk_rows v3 v4 v1 v2 hl, picW_rows (by omega) hl, picRows_len _ _ _, picL_rows hl⟩
theorem grey_bndG {m : List (List Int)} {N : Int} (hok : tableOk m N = true) : MatBnd m := by
  obtain ⟨v1, v2, v3, v4, v5, v6⟩ := tableOk_spec hok
  refine ⟨by omega, fun r => ?_⟩
  by_cases hr : r < m.length
  · rw [v5 r hr]; omega
  · rw [List.getD_eq_getElem?_getD, List.getElem?_eq_none (by omega)]; simp
theorem pic_bndG {ss : List ByteArray} (h : picOk ss = true) : PicBnd ss := by
  obtain ⟨v1, v2, v3, v4, v5, -⟩ := picOk_spec h
  refine ⟨by omega, fun y => ?_⟩
  by_cases hy : y < ss.length
  · rw [v5.2 y hy]; omega
  · rw [List.getD_eq_getElem?_getD, List.getElem?_eq_none (by omega)]; simp
theorem map_getDN {f : Nat × Nat → Int} {nds : List (Nat × Nat)} {q : Nat} (h : q < nds.length) : (nds.map f).getD q 0 = f (nds.getD q (0, 0)) := by
  rw [List.getD_eq_getElem?_getD, List.getElem?_map, List.getD_eq_getElem?_getD, List.getElem?_eq_getElem h]; rfl
/-- What the tree of a grey picture tells, in functions of the node's number. -/
structure TreeIs (N A0 : Nat) (LV PA AR : Nat → Int) : Prop where
  pos : 0 < N
  root : PA 0 = -1 ∧ AR 0 = (A0 : Int)
  par : ∀ k, 0 < k → k < N → ∃ j, j < k ∧ PA k = (j : Int) ∧ LV j < LV k ∧ AR k < AR j
  one : ∀ k, k < N → 1 ≤ AR k
  ord : ∀ k, 0 < k → k < N → LV (k - 1) ≤ LV k
  lev : ∀ k, 0 ≤ LV k
def topF (LV PA : Nat → Int) (t : Int) (k : Nat) : Bool := decide (t ≤ LV k) && (decide (k = 0) || decide (LV (PA k).toNat < t))
theorem tree_is {W H : Nat} {l : List Int} (hg : GrL W H l) (hp : 0 < H * W) : TreeIs (nodeL W H l).length (H * W) (fun k => (((nodeL W H l).getD k (0, 0)).1 : Int)) (fun k => parN W H l ((nodeL W H l).getD k (0, 0))) (fun k => (arN W H l ((nodeL W H l).getD k (0, 0)) : Int)) := by
  refine ⟨nodeL_pos hg hp, ⟨(node_root hg hp).1, by rw [(node_root hg hp).2]⟩, fun k h0 hk => ?_, fun k hk => ?_, fun k h0 hk => ?_, fun k => by omega⟩
  · obtain ⟨j, j1, j2, -, -, j5, j6⟩ := node_par hg h0 hk
    exact ⟨j, j1, j2, by omega, by omega⟩
  · have := area_pos hk
    omega
  · have := node_le (W := W) (H := H) (l := l) (Nat.sub_le k 1) hk
    omega
set_option maxRecDepth 5000 in
set_option maxHeartbeats 6400000 in
theorem fnGreyTrees_any (a : Option Addr) (c : Nat) (zs : List Int) (a2 : Option Addr) (c2 : Nat) (ys : List Int) (w : World) (h : CodeAt w a zs) (h2 : CodeAt w a2 ys) :
    Calls Try.prog 3 #[.slice a zs.length c, .slice a2 ys.length c2] w fun e w' => e = .returned (.bool true) ∧ w.Ext w' := by
  have HLO := Lib.hid (long_any a zs.length c a2 ys.length c2 w h.2.2 h2.2.2)
  have HGR := Lib.hid (fun w' (hx : w.Ext w') => b10Grey_any a c zs w' (h.ext hx))
  clear h h2
  go_enter Try.func3, Try.ntmps3
  have HWB : Hid (w.Ext w) := .refl _
  have HX : Hid (w.Ext w) := .refl _
  go_wp2_with fail
  refine (HLO.out).mono ?_
  rintro e v1 ⟨t, rfl, hx, -⟩
  have HX_ := Lib.hid (HX.out.trans hx)
  clear HX
  have HX := HX_
  clear HX_
  clear hx
  cases t
  rotate_left
  · go_wp2
    go_ret
    exact ⟨rfl, HX.out⟩
  go_wp2_with fail
  refine (HGR.out v1 (HWB.out.trans HX.out)).mono ?_
  rintro e v2 ⟨ga, gc, GA, GC, m, rfl, hgt, hx, hrow⟩
  have HX_ := Lib.hid (HX.out.trans hx)
  clear HX
  have HX := HX_
  clear HX_
  have HGT := Lib.hid hgt
  have HROW := Lib.hid hrow.mat
  clear hgt hrow
  clear hx
  have hok : tableOk m 99 = true := tableOk_more HGT.out.1 (by omega)
  obtain ⟨p1, p2, p3, p4, p5, p6⟩ := tableOk_spec hok
  obtain ⟨gb, go, rfl, hg0⟩ : ∃ gb go, ga = some ⟨gb, go, none⟩ ∧ v2.cell? ⟨gb, go, none⟩ = some (.slice (GA 0) (m.getD 0 []).length (GC 0)) := by
    obtain ⟨⟨b, o, e, hc⟩, -⟩ := HROW.out 0 p1
    exact ⟨b, o, e, hc⟩
  have HG0 := Lib.hid hg0
  clear hg0
  obtain ⟨b2, hb2⟩ : ∃ b2, b2 = v2.alloc (.cells #[.slice (some ⟨gb, go, none⟩) m.length gc] 26) := ⟨_, rfl⟩
  have hxb : v2.Ext b2 := by rw [hb2]; repeat (first | exact World.Ext.refl _ | exact ⟨_, rfl⟩ | assumption | refine World.Ext.over ?_ _ | refine World.Ext.drewN ?_ _ | refine World.Ext.drew ?_ | refine World.Ext.alloc ?_ _ | refine World.Ext.setCell ?_ (by simp) _)
  have c5_ : b2.cell? ⟨v2.heap.size, 0, none⟩ = some (.slice (some ⟨gb, go, none⟩) m.length gc) := by rw [hb2]; simp [go_sem]
  have HALL_ : Hid (∀ w', b2.Ext w' → w'.cell? ⟨v2.heap.size, 0, none⟩ = some (.slice (some ⟨gb, go, none⟩) m.length gc) ∧ MatAt w' (some ⟨gb, go, none⟩) GA GC m ∧ w'.cell? ⟨gb, go, none⟩ = some (.slice (GA 0) (m.getD 0 []).length (GC 0)) ∧ True) := fun w' hx' => ⟨hx'.cell c5_, HROW.out.ext (hxb.trans hx'), (hxb.trans hx').cell HG0.out, trivial⟩
  have HWB_ := Lib.hid (HWB.out.trans (HX.out.trans hxb))
  have HX_ : Hid (b2.Ext b2) := .refl _
  clear hxb c5_ HWB HX
  have HALL := HALL_
  have HWB := HWB_
  have HX := HX_
  clear HALL_ HWB_ HX_
  have HGTO : Hid (∀ w', MatAt w' (some ⟨gb, go, none⟩) GA GC m → Calls Try.prog 14 #[.agg #[.slice (some ⟨gb, go, none⟩) m.length gc]] w' (GtRet2 w' (gtR (m.getD 0 []).length m.length m.flatten) true)) := fun w' h1 => by
    have h := implGreyTreeOf_any _ gc GA GC m w' (grey_bndG hok) h1
    unfold gtO at h
    rw [hok, if_pos rfl] at h
    exact h
  have HTH : Hid (∀ (w' : World) (k : Nat), k ≤ 9 → MatAt w' (some ⟨gb, go, none⟩) GA GC m → Calls Try.prog 18 #[.agg #[.slice (some ⟨gb, go, none⟩) m.length gc], .int .i64 k] w' (PicRet2 w' (thrRows m k) true)) := fun w' k hk h1 => by
    have h := implThresholdGrey_any _ gc GA GC m k w' (grey_bndG hok).1 (grey_bndG hok).2 h1
    rw [show thrOk m k = true by unfold thrOk; rw [hok, inB_true.2 (by omega)]; rfl, if_pos rfl] at h
    exact h
  have hgl := grL_table hok
  obtain ⟨LV, hLV⟩ : ∃ LV : Nat → Int, LV = fun k => (((nodeL (m.getD 0 []).length m.length m.flatten).getD k (0, 0)).1 : Int) := ⟨_, rfl⟩
  obtain ⟨PA, hPA⟩ : ∃ PA : Nat → Int, PA = fun k => parN (m.getD 0 []).length m.length m.flatten ((nodeL (m.getD 0 []).length m.length m.flatten).getD k (0, 0)) := ⟨_, rfl⟩
  obtain ⟨AR, hAR⟩ : ∃ AR : Nat → Int, AR = fun k => (arN (m.getD 0 []).length m.length m.flatten ((nodeL (m.getD 0 []).length m.length m.flatten).getD k (0, 0)) : Int) := ⟨_, rfl⟩
  obtain ⟨N, hN⟩ : ∃ N, N = (nodeL (m.getD 0 []).length m.length m.flatten).length := ⟨_, rfl⟩
  have hTI : TreeIs N (m.length * (m.getD 0 []).length) LV PA AR := by rw [hLV, hPA, hAR, hN]; exact tree_is hgl (Nat.mul_pos p1 p3)
  have hgb := gt_bnd m
  unfold gtO at hgb
  rw [hok, if_pos rfl] at hgb
  have HRB : Hid (∀ (w' : World) (e1 e2 e3 e4 : Option Addr) (d1 d2 d3 d4 : Nat) (A : Nat → Option Addr) (C : Nat → Nat), RowG w' e1 e2 e3 e4 A C (gtR (m.getD 0 []).length m.length m.flatten) →
      Calls Try.prog 15 #[gtV e1 e2 e3 e4 d1 d2 d3 d4 (gtR (m.getD 0 []).length m.length m.flatten)] w' (GreyRet2 w' m true)) := fun w' e1 e2 e3 e4 d1 d2 d3 d4 A C h1 => by
    have h := implRebuildGrey_any e1 e2 e3 e4 d1 d2 d3 d4 A C _ w' hgb.1 h1
    obtain ⟨r1, r2⟩ := reb_own hok
    rw [r1, r2] at h
    exact h
  have HCMP : Hid (∀ k : Nat, k ≤ 9 → ∃ R2 : List (List Int), ∀ (w' : World) (x : Option Addr) (y : Nat), RowS w' x (thrRows m k) → Calls Try.prog 19 #[.agg #[.slice x m.length y], .bool false] w' (CmpRet w' R2 (cntI (topF LV PA (k : Int)) N : Nat) true)) := fun k hk => by
    obtain ⟨F, n, hF⟩ := LabP.ex (thrRows m k) false
    obtain ⟨e1, e2, e3, e4⟩ := thr_picG (k : Int) hok
    refine ⟨grd (picW (thrRows m k)) (thrRows m k).length (cmpG F), fun w' x y h1 => ?_⟩
    have h := implCmp_any x y (thrRows m k) false F n hF w' (pic_bndG e1) h1
    have hF2 := hF
    unfold LabP at hF2
    rw [e2, e3, e4] at hF2
    have hn := (lab_thr (by rw [flat_len _ m p5, Nat.mul_comm]) hF2).1
    unfold cntI
    rw [show (topF LV PA (k : Int)) = topB (m.getD 0 []).length m.length m.flatten k by rw [hLV, hPA]; rfl, hN, tops_count hgl, ← hn]
    rw [e1] at h
    rw [← e3]
    exact h
  have HTL : Hid (∀ k : Nat, (thrRows m k).length = m.length) := fun k => picRows_len _ _ _
  have HR16 : Hid (∀ k, (m.getD k []).length ≤ 1000000) := fun k => by
    by_cases hk : k < m.length
    · rw [p5 k hk]; omega
    · rw [List.getD_eq_getElem?_getD, List.getElem?_eq_none (by omega)]; simp
  have HRWG : Hid (∀ (w' : World) (e1 e2 e3 e4 : Option Addr) (A : Nat → Option Addr) (C : Nat → Nat), RowG w' e1 e2 e3 e4 A C (gtR (m.getD 0 []).length m.length m.flatten) →
      ∃ b1 o1 b2 o2 b3 o3, e1 = some ⟨b1, o1, none⟩ ∧ e2 = some ⟨b2, o2, none⟩ ∧ e3 = some ⟨b3, o3, none⟩ ∧
        (∀ q, q < N → w'.cell? ⟨b1, o1 + q, none⟩ = some (.int .i64 (LV q))) ∧
        (∀ q, q < N → w'.cell? ⟨b2, o2 + q, none⟩ = some (.int .i64 (PA q))) ∧
        (∀ q, q < N → w'.cell? ⟨b3, o3 + q, none⟩ = some (.int .i64 (AR q)))) := fun w' e1 e2 e3 e4 A C hr => by
    obtain ⟨h1, h2, h3, -⟩ := hr
    have hL : (gtR (m.getD 0 []).length m.length m.flatten).1.length = N := hN ▸ levT_len
    have hP : (gtR (m.getD 0 []).length m.length m.flatten).2.1.length = N := hN ▸ parT_len
    have hA : (gtR (m.getD 0 []).length m.length m.flatten).2.2.1.length = N := hN ▸ areT_len
    obtain ⟨b1, o1, x1, -⟩ := h1 0 (by rw [hL]; exact hTI.pos)
    obtain ⟨b2, o2, x2, -⟩ := h2 0 (by rw [hP]; exact hTI.pos)
    obtain ⟨b3, o3, x3, -⟩ := h3 0 (by rw [hA]; exact hTI.pos)
    subst x1 x2 x3
    refine ⟨b1, o1, b2, o2, b3, o3, rfl, rfl, rfl, fun q hq => ?_, fun q hq => ?_, fun q hq => ?_⟩
    · obtain ⟨_, _, e, hc⟩ := h1 q (by rw [hL]; exact hq)
      cases e
      have e2 := map_getDN (f := fun d => (d.1 : Int)) (nds := nodeL (m.getD 0 []).length m.length m.flatten) (q := q) (by rw [← hN]; exact hq)
      rw [hc, hLV]
      exact congrArg (fun z => some (Value.int .i64 z)) e2
    · obtain ⟨_, _, e, hc⟩ := h2 q (by rw [hP]; exact hq)
      cases e
      have e2 := map_getDN (f := parN (m.getD 0 []).length m.length m.flatten) (nds := nodeL (m.getD 0 []).length m.length m.flatten) (q := q) (by rw [← hN]; exact hq)
      rw [hc, hPA]
      exact congrArg (fun z => some (Value.int .i64 z)) e2
    · obtain ⟨_, _, e, hc⟩ := h3 q (by rw [hA]; exact hq)
      cases e
      have e2 := map_getDN (f := fun d => (arN (m.getD 0 []).length m.length m.flatten d : Int)) (nds := nodeL (m.getD 0 []).length m.length m.flatten) (q := q) (by rw [← hN]; exact hq)
      rw [hc, hAR]
      exact congrArg (fun z => some (Value.int .i64 z)) e2
  have HLEN : Hid ((gtR (m.getD 0 []).length m.length m.flatten).1.length = N ∧ (gtR (m.getD 0 []).length m.length m.flatten).2.1.length = N ∧ (gtR (m.getD 0 []).length m.length m.flatten).2.2.1.length = N ∧ (gtR (m.getD 0 []).length m.length m.flatten).2.2.2.length = m.length ∧ ∀ k, k < m.length → ((gtR (m.getD 0 []).length m.length m.flatten).2.2.2.getD k []).length = (m.getD k []).length) :=
    ⟨hN ▸ levT_len, hN ▸ parT_len, hN ▸ areT_len, grl_len _ _ _, fun k hk => by show ((grl _ _ _).getD k []).length = _; rw [grl_row hk, p5 k hk]⟩
  have HTI := Lib.hid hTI
  have hnl : N ≤ 256 := by rw [hN]; exact Nat.le_trans (nodeL_len hgl) (Nat.mul_le_mul p2 p4)
  have hmp : 0 < m.length := p1
  have hml : m.length ≤ 16 := p2
  have hwl : (m.getD 0 []).length ≤ 16 := p4
  clear hgl hTI hgb hok hLV hPA hAR hN p1 p2 p3 p4 p5 p6 HROW HG0
  generalize gtR (m.getD 0 []).length m.length m.flatten = R at *
  
  go_upto_region 4 with fail
  rw [← hb2]
  clear hb2
  generalize v2.heap.size = q5 at *
  have c5 := (HALL.out b2 HX.out).1
  have lc5 := World.block_lt_of_cell? _ _ c5
  go_wp2_with fail
  refine (HGTO.out b2 (HALL.out b2 HX.out).2.1).mono ?_
  rintro e v3 ⟨e1, e2, e3, e4, d1, d2, d3, d4, A6, C6, rfl, hx, ho⟩
  clear lc5 c5
  have HX_ := Lib.hid (HX.out.trans hx)
  clear HX
  have HX := HX_
  clear HX_
  have HO6 := Lib.hid ho.row
  clear ho
  clear hx
  unfold gtV
  obtain ⟨lb1, lo1, lb2, lo2, lb3, lo3, rfl, rfl, rfl, q1, q2, q3⟩ := HRWG.out _ _ _ _ _ _ _ HO6.out
  have HQ1 := Lib.hid q1
  have HQ2 := Lib.hid q2
  have HQ3 := Lib.hid q3
  clear q1 q2 q3
  rw [HLEN.out.1, HLEN.out.2.1, HLEN.out.2.2.1, HLEN.out.2.2.2.1]
  obtain ⟨b3, hb3⟩ : ∃ b3, b3 = v3.alloc (.cells #[.slice (some ⟨lb1, lo1, none⟩) N d1, .slice (some ⟨lb2, lo2, none⟩) N d2, .slice (some ⟨lb3, lo3, none⟩) N d3, .slice e4 m.length d4] 30) := ⟨_, rfl⟩
  have hxb : v3.Ext b3 := by rw [hb3]; repeat (first | exact World.Ext.refl _ | exact ⟨_, rfl⟩ | assumption | refine World.Ext.over ?_ _ | refine World.Ext.drewN ?_ _ | refine World.Ext.drew ?_ | refine World.Ext.alloc ?_ _ | refine World.Ext.setCell ?_ (by simp) _)
  have c6a_ : b3.cell? ⟨v3.heap.size, 0, none⟩ = some (.slice (some ⟨lb1, lo1, none⟩) N d1) := by rw [hb3]; simp [go_sem]
  have c6b_ : b3.cell? ⟨v3.heap.size, 1, none⟩ = some (.slice (some ⟨lb2, lo2, none⟩) N d2) := by rw [hb3]; simp [go_sem]
  have c6c_ : b3.cell? ⟨v3.heap.size, 2, none⟩ = some (.slice (some ⟨lb3, lo3, none⟩) N d3) := by rw [hb3]; simp [go_sem]
  have c6d_ : b3.cell? ⟨v3.heap.size, 3, none⟩ = some (.slice e4 m.length d4) := by rw [hb3]; simp [go_sem]
  have HALL_ : Hid (∀ w', b3.Ext w' → w'.cell? ⟨q5, 0, none⟩ = some (.slice (some ⟨gb, go, none⟩) m.length gc) ∧ MatAt w' (some ⟨gb, go, none⟩) GA GC m ∧ w'.cell? ⟨gb, go, none⟩ = some (.slice (GA 0) (m.getD 0 []).length (GC 0)) ∧ w'.cell? ⟨v3.heap.size, 0, none⟩ = some (.slice (some ⟨lb1, lo1, none⟩) N d1) ∧ w'.cell? ⟨v3.heap.size, 1, none⟩ = some (.slice (some ⟨lb2, lo2, none⟩) N d2) ∧ w'.cell? ⟨v3.heap.size, 2, none⟩ = some (.slice (some ⟨lb3, lo3, none⟩) N d3) ∧ w'.cell? ⟨v3.heap.size, 3, none⟩ = some (.slice e4 m.length d4) ∧ RowG w' (some ⟨lb1, lo1, none⟩) (some ⟨lb2, lo2, none⟩) (some ⟨lb3, lo3, none⟩) e4 A6 C6 R ∧ (∀ q, q < N → w'.cell? ⟨lb1, lo1 + q, none⟩ = some (.int .i64 (LV q))) ∧ (∀ q, q < N → w'.cell? ⟨lb2, lo2 + q, none⟩ = some (.int .i64 (PA q))) ∧ (∀ q, q < N → w'.cell? ⟨lb3, lo3 + q, none⟩ = some (.int .i64 (AR q))) ∧ True) := fun w' hx' => ⟨(HALL.out w' ((HX.out.trans hxb).trans hx')).1, (HALL.out w' ((HX.out.trans hxb).trans hx')).2.1, (HALL.out w' ((HX.out.trans hxb).trans hx')).2.2.1, hx'.cell c6a_, hx'.cell c6b_, hx'.cell c6c_, hx'.cell c6d_, HO6.out.ext (hxb.trans hx'), fun q hq => (hxb.trans hx').cell (HQ1.out q hq), fun q hq => (hxb.trans hx').cell (HQ2.out q hq), fun q hq => (hxb.trans hx').cell (HQ3.out q hq), trivial⟩
  have HWB_ := Lib.hid (HWB.out.trans (HX.out.trans hxb))
  have HX_ : Hid (b3.Ext b3) := .refl _
  clear hxb c6a_ c6b_ c6c_ c6d_ HWB HX HALL
  have HALL := HALL_
  have HWB := HWB_
  have HX := HX_
  clear HALL_ HWB_ HX_
  have HRB2 : Hid (∀ w', RowG w' (some ⟨lb1, lo1, none⟩) (some ⟨lb2, lo2, none⟩) (some ⟨lb3, lo3, none⟩) e4 A6 C6 R → Calls Try.prog 15 #[.agg #[.slice (some ⟨lb1, lo1, none⟩) N d1, .slice (some ⟨lb2, lo2, none⟩) N d2, .slice (some ⟨lb3, lo3, none⟩) N d3, .slice e4 m.length d4]] w' (GreyRet2 w' m true)) := fun w' h1 => by
    have h := HRB.out w' _ _ _ _ d1 d2 d3 d4 A6 C6 h1
    unfold gtV at h
    rw [HLEN.out.1, HLEN.out.2.1, HLEN.out.2.2.1, HLEN.out.2.2.2.1] at h
    exact h
  have HSH : Hid (∀ w', MatAt w' e4 A6 C6 R.2.2.2 → MatAt w' (some ⟨gb, go, none⟩) GA GC m → Calls Try.prog 17 #[.slice e4 m.length d4, .slice (some ⟨gb, go, none⟩) m.length gc] w' fun e w'' => e = .returned (.bool true) ∧ w'.Ext w'') := fun w' h1 h2 => by
    have h := b10Shape_true e4 _ d4 gc A6 GA C6 GC R.2.2.2 m w' (by rw [HLEN.out.2.2.2.1]; omega) (by rw [HLEN.out.2.2.2.1]; exact hmp) HLEN.out.2.2.2.1 (fun k hk => HLEN.out.2.2.2.2 k (by rw [← HLEN.out.2.2.2.1]; exact hk)) h1 h2
    rw [HLEN.out.2.2.2.1] at h
    exact h
  clear HGTO HGT HRB HRWG HQ1 HQ2 HQ3 HO6
  go_upto_region 5 with fail
  rw [← hb3]
  clear hb3
  generalize v3.heap.size = q6 at *
  have c6a := (HALL.out b3 HX.out).2.2.2.1
  have lc6a := World.block_lt_of_cell? _ _ c6a
  have c6b := (HALL.out b3 HX.out).2.2.2.2.1
  have lc6b := World.block_lt_of_cell? _ _ c6b
  have c6c := (HALL.out b3 HX.out).2.2.2.2.2.1
  have lc6c := World.block_lt_of_cell? _ _ c6c
  have c6d := (HALL.out b3 HX.out).2.2.2.2.2.2.1
  have lc6d := World.block_lt_of_cell? _ _ c6d
  go_wp2_with fail
  refine (HRB2.out b3 (HALL.out b3 HX.out).2.2.2.2.2.2.2.1).mono ?_
  rintro e v4 ⟨a8, c8, A8, C8, rfl, hx, ho⟩
  clear lc6a c6a lc6b c6b lc6c c6c lc6d c6d
  have HX_ := Lib.hid (HX.out.trans hx)
  clear HX
  have HX := HX_
  clear HX_
  have HO8 := Lib.hid ho.mat
  clear ho
  clear hx
  obtain ⟨b4, hb4⟩ : ∃ b4, b4 = v4.alloc (.cells #[.slice a8 m.length c8] 26) := ⟨_, rfl⟩
  have hxb : v4.Ext b4 := by rw [hb4]; repeat (first | exact World.Ext.refl _ | exact ⟨_, rfl⟩ | assumption | refine World.Ext.over ?_ _ | refine World.Ext.drewN ?_ _ | refine World.Ext.drew ?_ | refine World.Ext.alloc ?_ _ | refine World.Ext.setCell ?_ (by simp) _)
  have c8x_ : b4.cell? ⟨v4.heap.size, 0, none⟩ = some (.slice a8 m.length c8) := by rw [hb4]; simp [go_sem]
  have HALL_ : Hid (∀ w', b4.Ext w' → w'.cell? ⟨q5, 0, none⟩ = some (.slice (some ⟨gb, go, none⟩) m.length gc) ∧ MatAt w' (some ⟨gb, go, none⟩) GA GC m ∧ w'.cell? ⟨gb, go, none⟩ = some (.slice (GA 0) (m.getD 0 []).length (GC 0)) ∧ w'.cell? ⟨q6, 0, none⟩ = some (.slice (some ⟨lb1, lo1, none⟩) N d1) ∧ w'.cell? ⟨q6, 1, none⟩ = some (.slice (some ⟨lb2, lo2, none⟩) N d2) ∧ w'.cell? ⟨q6, 2, none⟩ = some (.slice (some ⟨lb3, lo3, none⟩) N d3) ∧ w'.cell? ⟨q6, 3, none⟩ = some (.slice e4 m.length d4) ∧ RowG w' (some ⟨lb1, lo1, none⟩) (some ⟨lb2, lo2, none⟩) (some ⟨lb3, lo3, none⟩) e4 A6 C6 R ∧ (∀ q, q < N → w'.cell? ⟨lb1, lo1 + q, none⟩ = some (.int .i64 (LV q))) ∧ (∀ q, q < N → w'.cell? ⟨lb2, lo2 + q, none⟩ = some (.int .i64 (PA q))) ∧ (∀ q, q < N → w'.cell? ⟨lb3, lo3 + q, none⟩ = some (.int .i64 (AR q))) ∧ w'.cell? ⟨v4.heap.size, 0, none⟩ = some (.slice a8 m.length c8) ∧ MatAt w' a8 A8 C8 m ∧ True) := fun w' hx' => ⟨(HALL.out w' ((HX.out.trans hxb).trans hx')).1, (HALL.out w' ((HX.out.trans hxb).trans hx')).2.1, (HALL.out w' ((HX.out.trans hxb).trans hx')).2.2.1, (HALL.out w' ((HX.out.trans hxb).trans hx')).2.2.2.1, (HALL.out w' ((HX.out.trans hxb).trans hx')).2.2.2.2.1, (HALL.out w' ((HX.out.trans hxb).trans hx')).2.2.2.2.2.1, (HALL.out w' ((HX.out.trans hxb).trans hx')).2.2.2.2.2.2.1, (HALL.out w' ((HX.out.trans hxb).trans hx')).2.2.2.2.2.2.2.1, (HALL.out w' ((HX.out.trans hxb).trans hx')).2.2.2.2.2.2.2.2.1, (HALL.out w' ((HX.out.trans hxb).trans hx')).2.2.2.2.2.2.2.2.2.1, (HALL.out w' ((HX.out.trans hxb).trans hx')).2.2.2.2.2.2.2.2.2.2.1, hx'.cell c8x_, HO8.out.ext (hxb.trans hx'), trivial⟩
  have HWB_ := Lib.hid (HWB.out.trans (HX.out.trans hxb))
  have HX_ : Hid (b4.Ext b4) := .refl _
  clear hxb c8x_ HWB HX HALL
  have HALL := HALL_
  have HWB := HWB_
  have HX := HX_
  clear HALL_ HWB_ HX_
  have HTB : Hid (∀ w', MatAt w' a8 A8 C8 m → MatAt w' (some ⟨gb, go, none⟩) GA GC m → Calls Try.prog 16 #[.slice a8 m.length c8, .slice (some ⟨gb, go, none⟩) m.length gc] w' fun e w'' => e = .returned (.bool true) ∧ w'.Ext w'') := fun w' h1 h2 => b10Tables_true a8 _ c8 gc A8 GA C8 GC m w' (by omega) hmp HR16.out h1 h2
  have hnp := HTI.out.pos
  have hne : ((N : Int) == 0) = false := by simp; omega
  go_upto_region 6 with fail
  rw [← hb4]
  clear hb4
  generalize v4.heap.size = q8 at *
  have c6a := (HALL.out b4 HX.out).2.2.2.1
  have lc6a := World.block_lt_of_cell? _ _ c6a
  have c8x := (HALL.out b4 HX.out).2.2.2.2.2.2.2.2.2.2.2.1
  have lc8x := World.block_lt_of_cell? _ _ c8x
  have c5 := (HALL.out b4 HX.out).1
  have lc5 := World.block_lt_of_cell? _ _ c5
  go_wp2_with fail
  refine (HTB.out b4 (HALL.out b4 HX.out).2.2.2.2.2.2.2.2.2.2.2.2.1 (HALL.out b4 HX.out).2.1).mono ?_
  rintro e v5 ⟨rfl, hx⟩
  clear lc6a c6a lc8x c8x lc5 c5
  have HX_ := Lib.hid (HX.out.trans hx)
  clear HX
  have HX := HX_
  clear HX_
  clear hx
  have c6b := (HALL.out v5 HX.out).2.2.2.2.1
  have lc6b := World.block_lt_of_cell? _ _ c6b
  have c6c := (HALL.out v5 HX.out).2.2.2.2.2.1
  have lc6c := World.block_lt_of_cell? _ _ c6c
  have c6d := (HALL.out v5 HX.out).2.2.2.2.2.2.1
  have lc6d := World.block_lt_of_cell? _ _ c6d
  have c5 := (HALL.out v5 HX.out).1
  have lc5 := World.block_lt_of_cell? _ _ c5
  go_wp2_with fail
  refine (HSH.out v5 ((HALL.out v5 HX.out).2.2.2.2.2.2.2.1).2.2.2 (HALL.out v5 HX.out).2.1).mono ?_
  rintro e v6 ⟨rfl, hx⟩
  clear lc6b c6b lc6c c6c lc6d c6d lc5 c5
  have HX_ := Lib.hid (HX.out.trans hx)
  clear HX
  have HX := HX_
  clear HX_
  clear hx
  have hmul0 : 0 ≤ (m.length : Int) * ((m.getD 0 []).length : Int) := by rw [← Int.natCast_mul]; omega
  have hmul1 : (m.length : Int) * ((m.getD 0 []).length : Int) ≤ 4096 := by
    have := Nat.mul_le_mul hml hwl
    rw [← Int.natCast_mul]
    omega
  have hmul2 : AR 0 = (m.length : Int) * ((m.getD 0 []).length : Int) := by rw [HTI.out.root.2, Int.natCast_mul]
  have HM2 := Lib.hid hmul2
  clear hmul2 HRB2 HSH HTB HLEN HO8
  generalize (m.getD 0 []).length = W at *
  go_wp2
  go_loopw [11, 12] (fun i _ wr => ∃ k : Nat, k ≤ N ∧ i = .int .i64 k ∧ Hid (b4.Ext wr)) (fun i _ _ => N - (intOf i).toNat)
  case atStart => exact ⟨0, Nat.zero_le _, rfl, HX⟩
  case round =>
    clear HX
    obtain ⟨k, hk, rfl, HX⟩ := hrel
    obtain ⟨wa, rfl⟩ : ∃ wa : World, wa = wr := ⟨_, rfl⟩
    by_cases hlt : k < N
    · have hlt' : (k : Int) < (N : Int) := by omega
      have c6a := (HALL.out wa HX.out).2.2.2.1
      have lc6a := World.block_lt_of_cell? _ _ c6a
      have c6b := (HALL.out wa HX.out).2.2.2.2.1
      have lc6b := World.block_lt_of_cell? _ _ c6b
      have c6c := (HALL.out wa HX.out).2.2.2.2.2.1
      have lc6c := World.block_lt_of_cell? _ _ c6c
      have c5 := (HALL.out wa HX.out).1
      have lc5 := World.block_lt_of_cell? _ _ c5
      have g5 := (HALL.out wa HX.out).2.2.1
      have n0 : (0 : Int) < (N : Int) := by omega
      have hm0 : (0 : Int) < (m.length : Int) := by omega
      by_cases h0 : k = 0
      · subst h0
        have k1 := ((HALL.out wa HX.out).2.2.2.2.2.2.2.2.2.1) 0 hlt
        have k2 := ((HALL.out wa HX.out).2.2.2.2.2.2.2.2.2.2.1) 0 hlt
        rw [Nat.add_zero] at k1 k2
        rw [HTI.out.root.1] at k1
        rw [HM2.out] at k2
        go_wp2_with fail
        refine wp_region_over_lit (by kernel_rfl) (by kernel_rfl) ?_; (repeat (go_big_quiet_step (fail))); refine wpQuiet_nil ?_; rintro _ ⟨x1, rfl⟩
        have HX2 : Hid (b4.Ext (wa.over x1)) := HX.out.trans ⟨x1, rfl⟩
        clear k1 k2 c6a lc6a c6b lc6b c6c lc6c c5 lc5 g5
        go_wp2
        go_roundw
        case rel => exact ⟨1, by omega, by go_num, HX2⟩
        case measure => simp [intOf]; omega
      · obtain ⟨j, j1, j2, j3, j4⟩ := HTI.out.par k (by omega) hlt
        have hj5 := HTI.out.one k hlt
        have hj6 := HTI.out.ord k (by omega) hlt
        have k1 := ((HALL.out wa HX.out).2.2.2.2.2.2.2.2.2.1) k hlt
        rw [j2] at k1
        have k2 := ((HALL.out wa HX.out).2.2.2.2.2.2.2.2.1) j (by omega)
        have k3 := ((HALL.out wa HX.out).2.2.2.2.2.2.2.2.1) k hlt
        have k4 := ((HALL.out wa HX.out).2.2.2.2.2.2.2.2.1) (k - 1) (by omega)
        have k5 := ((HALL.out wa HX.out).2.2.2.2.2.2.2.2.2.2.1) j (by omega)
        have k6 := ((HALL.out wa HX.out).2.2.2.2.2.2.2.2.2.2.1) k hlt
        have hk0 : ((k : Int) == 0) = false := by simp; omega
        have i1 : (0 : Int) ≤ (k : Int) - 1 := by omega
        have i2 : (k : Int) - 1 < (N : Int) := by omega
        have i3 : ((k : Int) - 1).toNat = k - 1 := by omega
        have i4 : (0 : Int) ≤ (j : Int) := by omega
        have i5 : (j : Int) < (N : Int) := by omega
        have i6 : (0 : Int) ≤ (k : Int) := by omega
        have g1 : decide ((j : Int) < 0) = false := decide_eq_false (by omega)
        have g2 : decide ((k : Int) ≤ (j : Int)) = false := decide_eq_false (by omega)
        have g3 : decide (LV k ≤ LV j) = false := decide_eq_false (by omega)
        have g4 : decide (AR j ≤ AR k) = false := decide_eq_false (by omega)
        have g6 : decide (AR k < 1) = false := decide_eq_false (by omega)
        have g7 : decide (LV k < LV (k - 1)) = false := decide_eq_false (by omega)
        have g2b : decide (k ≤ j) = false := decide_eq_false (by omega)
        have g3b : decide (LV j < LV k) = true := decide_eq_true (by omega)
        have g4b : decide (AR k < AR j) = true := decide_eq_true (by omega)
        clear j2 hj5 hj6 j3 j4 h0
        generalize LV k = vk at *
        generalize LV j = vj at *
        generalize LV (k - 1) = vi at *
        generalize AR k = ak at *
        generalize AR j = aj at *
        go_wp2_with fail
        refine wp_region_over_lit (by kernel_rfl) (by kernel_rfl) ?_; (repeat (go_big_quiet_step (fail))); refine wpQuiet_nil ?_; rintro _ ⟨x1, rfl⟩
        have HX2 : Hid (b4.Ext (wa.over x1)) := HX.out.trans ⟨x1, rfl⟩
        clear k1 k2 k3 k4 k5 k6 c6a lc6a c6b lc6b c6c lc6c c5 lc5 g5
        go_wp2
        go_roundw
        case rel => exact ⟨k + 1, by omega, by go_num, HX2⟩
        case measure => simp [intOf]; omega
    · have hlt' : ¬ (k : Int) < (N : Int) := by omega
      have HX0 := HX
      go_wp2
      go_loopw [13, 14, 15, 16, 17, 18, 19, 20] (fun i _ _ _ _ _ _ _ wr => ∃ t : Nat, t ≤ 10 ∧ i = .int .i64 t ∧ Hid (b4.Ext wr)) (fun i _ _ _ _ _ _ _ _ => 10 - (intOf i).toNat)
      case atStart => exact ⟨0, Nat.zero_le _, rfl, HX0⟩
      case round =>
        clear HX HX0
        obtain ⟨t, ht, rfl, HX⟩ := hrel
        obtain ⟨wb, rfl⟩ : ∃ wb : World, wb = wr := ⟨_, rfl⟩
        by_cases htl : t ≤ 9
        · have htl' : (t : Int) ≤ 9 := by omega
          obtain ⟨R2, hcmp⟩ := HCMP.out t htl
          have HCM := Lib.hid hcmp
          clear hcmp
          have c5 := (HALL.out wb HX.out).1
          have lc5 := World.block_lt_of_cell? _ _ c5
          go_wp2_with fail
          refine (HTH.out wb t htl (HALL.out wb HX.out).2.1).mono ?_
          rintro e v7 ⟨a14, c14, rfl, hx, ho⟩
          clear lc5 c5
          have HX_ := Lib.hid (HX.out.trans hx)
          clear HX
          have HX := HX_
          clear HX_
          have HO14 := Lib.hid ho.row
          clear ho
          clear hx
          rw [HTL.out]
          obtain ⟨b7, hb7⟩ : ∃ b7, b7 = v7.alloc (.cells #[.slice a14 m.length c14] 38) := ⟨_, rfl⟩
          have hxb : v7.Ext b7 := by rw [hb7]; repeat (first | exact World.Ext.refl _ | exact ⟨_, rfl⟩ | assumption | refine World.Ext.over ?_ _ | refine World.Ext.drewN ?_ _ | refine World.Ext.drew ?_ | refine World.Ext.alloc ?_ _ | refine World.Ext.setCell ?_ (by simp) _)
          have c14x_ : b7.cell? ⟨v7.heap.size, 0, none⟩ = some (.slice a14 m.length c14) := by rw [hb7]; simp [go_sem]
          have HALL_ : Hid (∀ w', b7.Ext w' → w'.cell? ⟨q5, 0, none⟩ = some (.slice (some ⟨gb, go, none⟩) m.length gc) ∧ MatAt w' (some ⟨gb, go, none⟩) GA GC m ∧ w'.cell? ⟨gb, go, none⟩ = some (.slice (GA 0) W (GC 0)) ∧ w'.cell? ⟨q6, 0, none⟩ = some (.slice (some ⟨lb1, lo1, none⟩) N d1) ∧ w'.cell? ⟨q6, 1, none⟩ = some (.slice (some ⟨lb2, lo2, none⟩) N d2) ∧ w'.cell? ⟨q6, 2, none⟩ = some (.slice (some ⟨lb3, lo3, none⟩) N d3) ∧ w'.cell? ⟨q6, 3, none⟩ = some (.slice e4 m.length d4) ∧ RowG w' (some ⟨lb1, lo1, none⟩) (some ⟨lb2, lo2, none⟩) (some ⟨lb3, lo3, none⟩) e4 A6 C6 R ∧ (∀ q, q < N → w'.cell? ⟨lb1, lo1 + q, none⟩ = some (.int .i64 (LV q))) ∧ (∀ q, q < N → w'.cell? ⟨lb2, lo2 + q, none⟩ = some (.int .i64 (PA q))) ∧ (∀ q, q < N → w'.cell? ⟨lb3, lo3 + q, none⟩ = some (.int .i64 (AR q))) ∧ w'.cell? ⟨q8, 0, none⟩ = some (.slice a8 m.length c8) ∧ MatAt w' a8 A8 C8 m ∧ w'.cell? ⟨v7.heap.size, 0, none⟩ = some (.slice a14 m.length c14) ∧ RowS w' a14 (thrRows m t) ∧ b4.Ext w' ∧ True) := fun w' hx' => ⟨(HALL.out w' ((HX.out.trans hxb).trans hx')).1, (HALL.out w' ((HX.out.trans hxb).trans hx')).2.1, (HALL.out w' ((HX.out.trans hxb).trans hx')).2.2.1, (HALL.out w' ((HX.out.trans hxb).trans hx')).2.2.2.1, (HALL.out w' ((HX.out.trans hxb).trans hx')).2.2.2.2.1, (HALL.out w' ((HX.out.trans hxb).trans hx')).2.2.2.2.2.1, (HALL.out w' ((HX.out.trans hxb).trans hx')).2.2.2.2.2.2.1, (HALL.out w' ((HX.out.trans hxb).trans hx')).2.2.2.2.2.2.2.1, (HALL.out w' ((HX.out.trans hxb).trans hx')).2.2.2.2.2.2.2.2.1, (HALL.out w' ((HX.out.trans hxb).trans hx')).2.2.2.2.2.2.2.2.2.1, (HALL.out w' ((HX.out.trans hxb).trans hx')).2.2.2.2.2.2.2.2.2.2.1, (HALL.out w' ((HX.out.trans hxb).trans hx')).2.2.2.2.2.2.2.2.2.2.2.1, (HALL.out w' ((HX.out.trans hxb).trans hx')).2.2.2.2.2.2.2.2.2.2.2.2.1, hx'.cell c14x_, RowOf.ext HO14.out (hxb.trans hx'), HX.out.trans (hxb.trans hx'), trivial⟩
          have HWB_ := Lib.hid (HWB.out.trans (HX.out.trans hxb))
          have HX_ : Hid (b7.Ext b7) := .refl _
          clear hxb c14x_ HWB HX HALL
          have HALL := HALL_
          have HWB := HWB_
          have HX := HX_
          clear HALL_ HWB_ HX_
          go_upto_region 22 with fail
          rw [← hb7]
          clear hb7
          generalize v7.heap.size = q14 at *
          have c14x := (HALL.out b7 HX.out).2.2.2.2.2.2.2.2.2.2.2.2.2.1
          have lc14x := World.block_lt_of_cell? _ _ c14x
          go_wp2_with fail
          refine (HCM.out b7 a14 c14 (HALL.out b7 HX.out).2.2.2.2.2.2.2.2.2.2.2.2.2.2.1).mono ?_
          rintro e v8 ⟨ac, cc, AC, CC, rfl, hx, ho⟩
          clear lc14x c14x
          have HX_ := Lib.hid (HX.out.trans hx)
          clear HX
          have HX := HX_
          clear HX_
          clear ho
          clear hx
          have hcN : cntI (topF LV PA (t : Int)) N ≤ N := cntI_le N
          go_wp2
          go_loopw [19, 20] (fun s i wr => ∃ q : Nat, q ≤ N ∧ i = .int .i64 q ∧ s = .int .i64 (cntI (topF LV PA (t : Int)) q : Nat) ∧ Hid (b7.Ext wr)) (fun _ i _ => N - (intOf i).toNat)
          case atStart => exact ⟨0, Nat.zero_le _, rfl, rfl, HX⟩
          case round =>
            clear HX
            obtain ⟨q, hq, rfl, rfl, HX⟩ := hrel
            obtain ⟨wc, rfl⟩ : ∃ wc : World, wc = wr := ⟨_, rfl⟩
            by_cases hql : q < N
            · have hql' : (q : Int) < (N : Int) := by omega
              have hq0 : (0 : Int) ≤ (q : Int) := by omega
              have hcq : cntI (topF LV PA (t : Int)) q ≤ q := cntI_le q
              have c6a := (HALL.out wc HX.out).2.2.2.1
              have lc6a := World.block_lt_of_cell? _ _ c6a
              have c6b := (HALL.out wc HX.out).2.2.2.2.1
              have lc6b := World.block_lt_of_cell? _ _ c6b
              have k1 := ((HALL.out wc HX.out).2.2.2.2.2.2.2.2.1) q hql
              by_cases ht1 : (t : Int) ≤ LV q
              · by_cases h0 : q = 0
                · have HV : Hid (cntI (topF LV PA (t : Int)) (q + 1) = cntI (topF LV PA (t : Int)) q + 1) := cntI_yes (by unfold topF; rw [decide_eq_true ht1, decide_eq_true h0]; rfl)
                  have g1 : decide ((t : Int) ≤ LV q) = true := decide_eq_true ht1
                  have g2 : ((q : Int) == 0) = true := by simp; omega
                  clear ht1 h0
                  generalize LV q = vq at *
                  go_wp2_with fail
                  refine wp_region_over_lit (by kernel_rfl) (by kernel_rfl) ?_; (repeat (go_big_quiet_step (fail))); refine wpQuiet_nil ?_; rintro _ ⟨x1, rfl⟩
                  have HX2 : Hid (b7.Ext (wc.over x1)) := HX.out.trans ⟨x1, rfl⟩
                  clear c6a lc6a c6b lc6b k1
                  go_wp2
                  go_roundw
                  case rel => exact ⟨q + 1, by omega, by go_num, by rw [HV.out]; go_num, HX2⟩
                  case measure => simp [intOf]; omega
                · obtain ⟨j, j1, j2, j3, -⟩ := HTI.out.par q (by omega) hql
                  have k2 := ((HALL.out wc HX.out).2.2.2.2.2.2.2.2.2.1) q hql
                  rw [j2] at k2
                  have k3 := ((HALL.out wc HX.out).2.2.2.2.2.2.2.2.1) j (by omega)
                  have i4 : (0 : Int) ≤ (j : Int) := by omega
                  have i5 : (j : Int) < (N : Int) := by omega
                  by_cases ht2 : LV j < (t : Int)
                  · have HV : Hid (cntI (topF LV PA (t : Int)) (q + 1) = cntI (topF LV PA (t : Int)) q + 1) := cntI_yes (by unfold topF; rw [j2, Int.toNat_natCast, decide_eq_true ht1, decide_eq_true ht2]; simp)
                    have g1 : decide ((t : Int) ≤ LV q) = true := decide_eq_true ht1
                    have g2 : ((q : Int) == 0) = false := by simp; omega
                    have g3 : decide (LV j < (t : Int)) = true := decide_eq_true ht2
                    clear ht1 ht2 h0 j2 j3
                    generalize LV q = vq at *
                    generalize LV j = vj at *
                    go_wp2_with fail
                    refine wp_region_over_lit (by kernel_rfl) (by kernel_rfl) ?_; (repeat (go_big_quiet_step (fail))); refine wpQuiet_nil ?_; rintro _ ⟨x1, rfl⟩
                    have HX2 : Hid (b7.Ext (wc.over x1)) := HX.out.trans ⟨x1, rfl⟩
                    clear c6a lc6a c6b lc6b k1 k2 k3
                    go_wp2
                    go_roundw
                    case rel => exact ⟨q + 1, by omega, by go_num, by rw [HV.out]; go_num, HX2⟩
                    case measure => simp [intOf]; omega
                  · have HV : Hid (cntI (topF LV PA (t : Int)) (q + 1) = cntI (topF LV PA (t : Int)) q) := cntI_no (by unfold topF; rw [j2, Int.toNat_natCast, decide_eq_false ht2, decide_eq_false h0]; simp)
                    have g1 : decide ((t : Int) ≤ LV q) = true := decide_eq_true ht1
                    have g2 : ((q : Int) == 0) = false := by simp; omega
                    have g3 : decide (LV j < (t : Int)) = false := decide_eq_false ht2
                    clear ht1 ht2 h0 j2 j3
                    generalize LV q = vq at *
                    generalize LV j = vj at *
                    go_wp2_with fail
                    refine wp_region_over_lit (by kernel_rfl) (by kernel_rfl) ?_; (repeat (go_big_quiet_step (fail))); refine wpQuiet_nil ?_; rintro _ ⟨x1, rfl⟩
                    have HX2 : Hid (b7.Ext (wc.over x1)) := HX.out.trans ⟨x1, rfl⟩
                    clear c6a lc6a c6b lc6b k1 k2 k3
                    go_wp2
                    go_roundw
                    case rel => exact ⟨q + 1, by omega, by go_num, by rw [HV.out], HX2⟩
                    case measure => simp [intOf]; omega
              · have HV : Hid (cntI (topF LV PA (t : Int)) (q + 1) = cntI (topF LV PA (t : Int)) q) := cntI_no (by unfold topF; rw [decide_eq_false ht1]; rfl)
                have g1 : decide ((t : Int) ≤ LV q) = false := decide_eq_false ht1
                clear ht1
                generalize LV q = vq at *
                go_wp2_with fail
                refine wp_region_over_lit (by kernel_rfl) (by kernel_rfl) ?_; (repeat (go_big_quiet_step (fail))); refine wpQuiet_nil ?_; rintro _ ⟨x1, rfl⟩
                have HX2 : Hid (b7.Ext (wc.over x1)) := HX.out.trans ⟨x1, rfl⟩
                clear c6a lc6a c6b lc6b k1
                go_wp2
                go_roundw
                case rel => exact ⟨q + 1, by omega, by go_num, by rw [HV.out], HX2⟩
                case measure => simp [intOf]; omega
            · have hqn : q = N := by omega
              subst hqn
              have hql' : ¬ (q : Int) < (q : Int) := by omega
              have HX9 := Lib.hid ((HALL.out wc HX.out).2.2.2.2.2.2.2.2.2.2.2.2.2.2.2.1)
              clear HX
              go_wp2
              go_roundw
              case rel => exact ⟨t + 1, by omega, by go_num, HX9⟩
              case measure => simp [intOf]; omega
        · have htl' : ¬ (t : Int) ≤ 9 := by omega
          have HXE := Lib.hid (HWB.out.trans HX.out)
          go_wp2
          go_ret
          exact ⟨rfl, HXE.out⟩
end Go.Proofs.Ytmmanehdmnkekaa
