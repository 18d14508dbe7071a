/- FnPixels: the law's walk. -/
import Derived.Test.YtelaoimcaidoiaaDoorPxlM
import Derived.Deep.CutBlock
namespace Go.Proofs.YtelaoimcaidoiaaDoor
open Go Go.RowKit
/-- A picture's variable that is written in turn. -/
structure NwSt (B : World) (q H : Nat) (R : List ByteArray) (wr : World) : Prop where
  x : B.Ext wr
  lo : B.heap.size ≤ q
  ex : ∃ a c, One wr q 26 (.slice a H c) ∧ RowS wr a R
theorem NwSt.ext {B wr w' : World} {q H : Nat} {R : List ByteArray} (h : NwSt B q H R wr) (hx : wr.Ext w') : NwSt B q H R w' :=
  ⟨h.x.trans hx, h.lo, let ⟨a, c, h1, h2⟩ := h.ex; ⟨a, c, h1.ext hx, RowOf.ext h2 hx⟩⟩
theorem RowS.put {wr : World} {q : Nat} {T : TypeId} {a a0 : Option Addr} {n c : Nat} {R : List ByteArray} (h1 : One wr q T (.slice a0 n c)) (hm : RowS wr a R) (v : Value) : RowS (wr.setCell ⟨q, 0, none⟩ v) a R := fun i hi => by
  obtain ⟨b, o, e, hc⟩ := hm i hi
  refine ⟨b, o, e, ?_⟩
  by_cases hb : b = q ∧ o + i = 0
  · rw [hb.1, hb.2, h1.cell] at hc
    cases hc
  · rw [World.cell?_setCell_other _ _ _ _ (by intro h; simp only [Addr.mk.injEq] at h; omega), hc]
theorem NwSt.put {B wr : World} {q H H' : Nat} {R R' : List ByteArray} (h : NwSt B q H R wr) {a' : Option Addr} (c' : Nat) (hm : RowS wr a' R') : NwSt B q H' R' (wr.setCell ⟨q, 0, none⟩ (.slice a' H' c')) := by
  obtain ⟨a, c, h1, h2⟩ := h.ex
  exact ⟨h.x.setCell (p := ⟨q, 0, none⟩) h.lo _, h.lo, a', c', h1.set _, RowS.put h1 hm _⟩
set_option maxRecDepth 8000 in
set_option maxHeartbeats 16000000 in
theorem fnPixels_any (a : Option Addr) (c : Nat) (zs : List Int) (a2 : Option Addr) (c2 : Nat) (ys : List Int) (w : World) (hm : Mx w) (h : CodeAt w a zs) (h2 : CodeAt w a2 ys) :
    Calls Tryd.prog 3 #[.slice a zs.length c, .slice a2 ys.length c2] w fun e w' => e = .returned (.bool true) ∧ w.Ext w' := by
  have HLO := Lib.hid (long_any a zs.length c a2 ys.length c2 w h.2.2 h2.2.2)
  have HP := Lib.hid (fun w' (hx : w.Ext w') => pic7C_any a c zs w' (h.ext hx))
  have HMX := Lib.hid (fun w' (hx : w.Ext w') => Mx.ext hm hx)
  have HA0 := Lib.hid (fun w' (hx : w.Ext w') => b10At_any a2 c2 ys 0 9 w' (by omega) (h2.ext hx))
  have HA1 := Lib.hid (fun w' (hx : w.Ext w') => b10At_any a2 c2 ys 1 9 w' (by omega) (h2.ext hx))
  have HA2 := Lib.hid (fun w' (hx : w.Ext w') n => b10At_any a2 c2 ys 2 n w' (by omega) (h2.ext hx))
  have HA3 := Lib.hid (fun w' (hx : w.Ext w') n => b10At_any a2 c2 ys 3 n w' (by omega) (h2.ext hx))
  clear h h2 hm
  go_enter Tryd.func3, Tryd.ntmps3
  have HWB : Hid (w.Ext w) := .refl _
  have HX : Hid (w.Ext w) := .refl _
  go_wp2_with fail
  refine (HLO.out).mono ?_
  rintro e v1 ⟨t, rfl, hx, -⟩
  have HX_ := Lib.hid (HX.out.trans hx)
  clear HX
  have HX := HX_
  clear HX_
  clear hx
  cases t
  rotate_left
  · go_wp2
    go_ret
    exact ⟨rfl, HX.out⟩
  go_wp2_with fail
  refine (HP.out v1 (HWB.out.trans HX.out)).mono ?_
  rintro e v2 ⟨pa, pc, ss, rfl, hpic, hcp, hx, hrow⟩
  have HX_ := Lib.hid (HX.out.trans hx)
  clear HX
  have HX := HX_
  clear HX_
  have HROW := Lib.hid hrow.row
  obtain ⟨W, H, l, SP, T, hW, hH, hC⟩ := PxC.ex (pa := pa) hpic hcp
  have HC := Lib.hid hC
  rw [← hH]
  have hwh := hC.wh
  have HPS : Hid ((ss.getD 0 ByteArray.empty).size = W) := hW.symm
  have HSL : Hid (ss.length = H) := hH.symm
  clear hC hpic hrow hcp HP hW hH
  clear hx
  obtain ⟨b2, hb2⟩ : ∃ b2, b2 = v2.alloc (.cells #[.slice pa H pc] 26) := ⟨_, rfl⟩
  have hxb : v2.Ext b2 := by rw [hb2]; repeat (first | exact World.Ext.refl _ | exact ⟨_, rfl⟩ | assumption | refine World.Ext.over ?_ _ | refine World.Ext.drewN ?_ _ | refine World.Ext.drew ?_ | refine World.Ext.alloc ?_ _ | refine World.Ext.setCell ?_ (by simp) _)
  have c5_ : b2.cell? ⟨v2.heap.size, 0, none⟩ = some (.slice pa H pc) := by rw [hb2]; simp [go_sem]
  have HALL_ : Hid (∀ w', b2.Ext w' → w'.cell? ⟨v2.heap.size, 0, none⟩ = some (.slice pa H pc) ∧ RowS w' pa ss ∧ True) := fun w' hx' => ⟨hx'.cell c5_, RowOf.ext HROW.out (hxb.trans hx'), trivial⟩
  have HWB_ := Lib.hid (HWB.out.trans (HX.out.trans hxb))
  have HX_ : Hid (b2.Ext b2) := .refl _
  clear hxb c5_ HWB HX
  have HALL := HALL_
  have HWB := HWB_
  have HX := HX_
  clear HALL_ HWB_ HX_
  clear HROW
  go_upto_region 4 with fail
  rw [← hb2]
  clear hb2
  generalize v2.heap.size = q5 at *
  obtain ⟨rb_, ro, rfl, hrc⟩ := ((HALL.out b2 HX.out).2.1) 0 (by rw [HSL.out]; omega)
  rw [Nat.add_zero] at hrc
  have HSZ0 := HPS.out
  generalize ss.getD 0 ByteArray.empty = s0 at hrc HSZ0
  have c5 := (HALL.out b2 HX.out).1
  have lc5 := World.block_lt_of_cell? _ _ c5
  have hH0 : (0 : Int) < (H : Int) := by omega
  have lrc := World.block_lt_of_cell? _ _ hrc
  have hszI : ((s0.size : Nat) : Int) = (W : Int) := by rw [HSZ0]
  go_upto_region 6 with fail
  (try rw [hszI])
  clear hszI HSZ0 hrc lrc hH0
  clear lc5 c5
  have c5 := (HALL.out b2 HX.out).1
  have lc5 := World.block_lt_of_cell? _ _ c5
  go_wp2_with fail
  refine (HC.out.sp b2 (HALL.out b2 HX.out).2.1).mono ?_
  rintro e v3 ⟨sa, sc, rfl, hx, ho⟩
  clear lc5 c5
  have HX_ := Lib.hid (HX.out.trans hx)
  clear HX
  have HX := HX_
  clear HX_
  have HSA := Lib.hid ho
  clear ho
  clear hx
  have hxr : v3.Ext v3 := .refl _
  have HALL_ : Hid (∀ w', v3.Ext w' → w'.cell? ⟨q5, 0, none⟩ = some (.slice (some ⟨rb_, ro, none⟩) H pc) ∧ RowS w' (some ⟨rb_, ro, none⟩) ss ∧ RowP w' sa SP ∧ True) := fun w' hx' => ⟨(HALL.out w' ((HX.out.trans hxr).trans hx')).1, (HALL.out w' ((HX.out.trans hxr).trans hx')).2.1, HSA.out.ext hx', trivial⟩
  have HWB_ := Lib.hid (HWB.out.trans (HX.out.trans hxr))
  have HX_ : Hid (v3.Ext v3) := .refl _
  clear hxr HWB HX HALL
  have HALL := HALL_
  have HWB := HWB_
  have HX := HX_
  clear HALL_ HWB_ HX_
  clear HSA
  go_wp2_with fail
  refine (HC.out.pf v3 sa sc (HALL.out v3 HX.out).2.2.1).mono ?_
  rintro e v4 ⟨a10, c10, rfl, hx, ho⟩
  have HX_ := Lib.hid (HX.out.trans hx)
  clear HX
  have HX := HX_
  clear HX_
  have HO10 := Lib.hid ho
  clear ho
  clear hx
  obtain ⟨b4, hb4⟩ : ∃ b4, b4 = v4.alloc (.cells #[.slice a10 H c10] 26) := ⟨_, rfl⟩
  have hxb : v4.Ext b4 := by rw [hb4]; repeat (first | exact World.Ext.refl _ | exact ⟨_, rfl⟩ | assumption | refine World.Ext.over ?_ _ | refine World.Ext.drewN ?_ _ | refine World.Ext.drew ?_ | refine World.Ext.alloc ?_ _ | refine World.Ext.setCell ?_ (by simp) _)
  have c10_ : b4.cell? ⟨v4.heap.size, 0, none⟩ = some (.slice a10 H c10) := by rw [hb4]; simp [go_sem]
  have HALL_ : Hid (∀ w', b4.Ext w' → w'.cell? ⟨q5, 0, none⟩ = some (.slice (some ⟨rb_, ro, none⟩) H pc) ∧ RowS w' (some ⟨rb_, ro, none⟩) ss ∧ RowP w' sa SP ∧ w'.cell? ⟨v4.heap.size, 0, none⟩ = some (.slice a10 H c10) ∧ RowS w' a10 (ss) ∧ True) := fun w' hx' => ⟨(HALL.out w' ((HX.out.trans hxb).trans hx')).1, (HALL.out w' ((HX.out.trans hxb).trans hx')).2.1, (HALL.out w' ((HX.out.trans hxb).trans hx')).2.2.1, hx'.cell c10_, RowOf.ext HO10.out (hxb.trans hx'), trivial⟩
  have HWB_ := Lib.hid (HWB.out.trans (HX.out.trans hxb))
  have HX_ : Hid (b4.Ext b4) := .refl _
  clear hxb c10_ HWB HX HALL
  have HALL := HALL_
  have HWB := HWB_
  have HX := HX_
  clear HALL_ HWB_ HX_
  clear HO10
  go_upto_region 8 with fail
  rw [← hb4]
  clear hb4
  generalize v4.heap.size = q10 at *
  have c5 := (HALL.out b4 HX.out).1
  have lc5 := World.block_lt_of_cell? _ _ c5
  go_wp2_with fail
  refine (HC.out.tx b4 (HALL.out b4 HX.out).2.1).mono ?_
  rintro e v5 ⟨rfl, hx⟩
  clear lc5 c5
  have HX_ := Lib.hid (HX.out.trans hx)
  clear HX
  have HX := HX_
  clear HX_
  clear hx
  go_wp2_with fail
  refine (HC.out.rd v5 (HMX.out v5 (HWB.out.trans HX.out))).mono ?_
  rintro e v6 ⟨a14, c14, rfl, hx, ho⟩
  have HX_ := Lib.hid (HX.out.trans hx)
  clear HX
  have HX := HX_
  clear HX_
  have HO14 := Lib.hid ho
  clear ho
  clear hx
  obtain ⟨b6, hb6⟩ : ∃ b6, b6 = v6.alloc (.cells #[.slice a14 H c14] 26) := ⟨_, rfl⟩
  have hxb : v6.Ext b6 := by rw [hb6]; repeat (first | exact World.Ext.refl _ | exact ⟨_, rfl⟩ | assumption | refine World.Ext.over ?_ _ | refine World.Ext.drewN ?_ _ | refine World.Ext.drew ?_ | refine World.Ext.alloc ?_ _ | refine World.Ext.setCell ?_ (by simp) _)
  have c14_ : b6.cell? ⟨v6.heap.size, 0, none⟩ = some (.slice a14 H c14) := by rw [hb6]; simp [go_sem]
  have HALL_ : Hid (∀ w', b6.Ext w' → w'.cell? ⟨q5, 0, none⟩ = some (.slice (some ⟨rb_, ro, none⟩) H pc) ∧ RowS w' (some ⟨rb_, ro, none⟩) ss ∧ RowP w' sa SP ∧ w'.cell? ⟨q10, 0, none⟩ = some (.slice a10 H c10) ∧ RowS w' a10 (ss) ∧ w'.cell? ⟨v6.heap.size, 0, none⟩ = some (.slice a14 H c14) ∧ RowS w' a14 (ss) ∧ True) := fun w' hx' => ⟨(HALL.out w' ((HX.out.trans hxb).trans hx')).1, (HALL.out w' ((HX.out.trans hxb).trans hx')).2.1, (HALL.out w' ((HX.out.trans hxb).trans hx')).2.2.1, (HALL.out w' ((HX.out.trans hxb).trans hx')).2.2.2.1, (HALL.out w' ((HX.out.trans hxb).trans hx')).2.2.2.2.1, hx'.cell c14_, RowOf.ext HO14.out (hxb.trans hx'), trivial⟩
  have HWB_ := Lib.hid (HWB.out.trans (HX.out.trans hxb))
  have HX_ : Hid (b6.Ext b6) := .refl _
  clear hxb c14_ HWB HX HALL
  have HALL := HALL_
  have HWB := HWB_
  have HX := HX_
  clear HALL_ HWB_ HX_
  clear HO14
  go_upto_region 10 with fail
  rw [← hb6]
  clear hb6
  generalize v6.heap.size = q14 at *
  have c5 := (HALL.out b6 HX.out).1
  have lc5 := World.block_lt_of_cell? _ _ c5
  go_wp2_with fail
  refine (HC.out.ct b6 (HALL.out b6 HX.out).2.1).mono ?_
  rintro e v7 ⟨rfl, hx⟩
  clear lc5 c5
  have HX_ := Lib.hid (HX.out.trans hx)
  clear HX
  have HX := HX_
  clear HX_
  clear hx
  have c5 := (HALL.out v7 HX.out).1
  have lc5 := World.block_lt_of_cell? _ _ c5
  go_wp2_with fail
  refine (HC.out.bx v7 (HALL.out v7 HX.out).2.1).mono ?_
  rintro e v8 ⟨lx, ly, mx, my, rfl, hx, hbx⟩
  clear lc5 c5
  have HX_ := Lib.hid (HX.out.trans hx)
  clear HX
  have HX := HX_
  clear HX_
  have HBX := Lib.hid hbx
  clear hbx
  clear hx
  obtain ⟨bb, hnb⟩ : ∃ bb, bb = (v8.alloc (.cells #[.int .i64 lx, .int .i64 ly] 39)).alloc (.cells #[.int .i64 mx, .int .i64 my] 39) := ⟨_, rfl⟩
  have hxx : v8.Ext bb := by rw [hnb]; repeat (first | exact World.Ext.refl _ | exact ⟨_, rfl⟩ | assumption | refine World.Ext.over ?_ _ | refine World.Ext.drewN ?_ _ | refine World.Ext.drew ?_ | refine World.Ext.alloc ?_ _ | refine World.Ext.setCell ?_ (by simp) _)
  have d0_ : bb.cell? ⟨v8.heap.size, 0, none⟩ = some (.int .i64 lx) := by rw [hnb]; simp [go_sem]
  have d1_ : bb.cell? ⟨v8.heap.size, 1, none⟩ = some (.int .i64 ly) := by rw [hnb]; simp [go_sem]
  have e0_ : bb.cell? ⟨v8.heap.size + 1, 0, none⟩ = some (.int .i64 mx) := by rw [hnb]; simp [go_sem]
  have e1_ : bb.cell? ⟨v8.heap.size + 1, 1, none⟩ = some (.int .i64 my) := by rw [hnb]; simp [go_sem]
  go_upto_region 12 with fail
  rw [← hnb]
  clear hnb
  generalize v8.heap.size = q18 at *
  have HALL_ : Hid (∀ w', bb.Ext w' → w'.cell? ⟨q5, 0, none⟩ = some (.slice (some ⟨rb_, ro, none⟩) H pc) ∧ RowS w' (some ⟨rb_, ro, none⟩) ss ∧ RowP w' sa SP ∧ w'.cell? ⟨q10, 0, none⟩ = some (.slice a10 H c10) ∧ RowS w' a10 (ss) ∧ w'.cell? ⟨q14, 0, none⟩ = some (.slice a14 H c14) ∧ RowS w' a14 (ss) ∧ w'.cell? ⟨q18, 0, none⟩ = some (.int .i64 lx) ∧ w'.cell? ⟨q18, 1, none⟩ = some (.int .i64 ly) ∧ w'.cell? ⟨q18 + 1, 0, none⟩ = some (.int .i64 mx) ∧ w'.cell? ⟨q18 + 1, 1, none⟩ = some (.int .i64 my) ∧ True) := fun w' hx' => ⟨(HALL.out w' ((HX.out.trans hxx).trans hx')).1, (HALL.out w' ((HX.out.trans hxx).trans hx')).2.1, (HALL.out w' ((HX.out.trans hxx).trans hx')).2.2.1, (HALL.out w' ((HX.out.trans hxx).trans hx')).2.2.2.1, (HALL.out w' ((HX.out.trans hxx).trans hx')).2.2.2.2.1, (HALL.out w' ((HX.out.trans hxx).trans hx')).2.2.2.2.2.1, (HALL.out w' ((HX.out.trans hxx).trans hx')).2.2.2.2.2.2.1, hx'.cell d0_, hx'.cell d1_, hx'.cell e0_, hx'.cell e1_, trivial⟩
  have HWB_ := Lib.hid (HWB.out.trans (HX.out.trans hxx))
  have HX_ : Hid (bb.Ext bb) := .refl _
  clear hxx HWB HX HALL
  have HALL := HALL_
  have HWB := HWB_
  have HX := HX_
  clear HALL_ HWB_ HX_
  clear d0_ d1_ e0_ e1_
  have c10 := (HALL.out bb HX.out).2.2.2.1
  have lc10 := World.block_lt_of_cell? _ _ c10
  have c5 := (HALL.out bb HX.out).1
  have lc5 := World.block_lt_of_cell? _ _ c5
  go_wp2_with fail
  refine (HC.out.sm bb _ _ _ _ (HALL.out bb HX.out).2.2.2.2.1 (HALL.out bb HX.out).2.1).mono ?_
  rintro e v9 ⟨rfl, hx⟩
  clear lc10 c10 lc5 c5
  have HX_ := Lib.hid (HX.out.trans hx)
  clear HX
  have HX := HX_
  clear HX_
  clear hx
  have c14 := (HALL.out v9 HX.out).2.2.2.2.2.1
  have lc14 := World.block_lt_of_cell? _ _ c14
  have c5 := (HALL.out v9 HX.out).1
  have lc5 := World.block_lt_of_cell? _ _ c5
  go_wp2_with fail
  refine (HC.out.sm v9 _ _ _ _ (HALL.out v9 HX.out).2.2.2.2.2.2.1 (HALL.out v9 HX.out).2.1).mono ?_
  rintro e v10 ⟨rfl, hx⟩
  clear lc14 c14 lc5 c5
  have HX_ := Lib.hid (HX.out.trans hx)
  clear HX
  have HX := HX_
  clear HX_
  clear hx
  have c5 := (HALL.out v10 HX.out).1
  have lc5 := World.block_lt_of_cell? _ _ c5
  go_wp2_with fail
  refine (HC.out.vp v10 (HALL.out v10 HX.out).2.1).mono ?_
  rintro e v11 ⟨rfl, hx⟩
  clear lc5 c5
  have HX_ := Lib.hid (HX.out.trans hx)
  clear HX
  have HX := HX_
  clear HX_
  clear hx
  obtain ⟨A, hA⟩ : ∃ A : Nat → Bool, A = anyT (fun q => q.1 == lx) SP := ⟨_, rfl⟩
  obtain ⟨B, hB⟩ : ∃ B : Nat → Bool, B = anyT (fun q => q.1 == mx) SP := ⟨_, rfl⟩
  obtain ⟨C, hCc⟩ : ∃ C : Nat → Bool, C = anyT (fun q => q.2 == ly) SP := ⟨_, rfl⟩
  obtain ⟨D, hD⟩ : ∃ D : Nat → Bool, D = anyT (fun q => q.2 == my) SP := ⟨_, rfl⟩
  have HTN : Hid (∀ k, k < SP.length → ∀ x y, SP.getD k (0, 0) = (x, y) → A (k + 1) = (A k || (x == lx)) ∧ B (k + 1) = (B k || (x == mx)) ∧ C (k + 1) = (C k || (y == ly)) ∧ D (k + 1) = (D k || (y == my))) := fun k hk x y e => by
    rw [hA, hB, hCc, hD, anyT_next hk, anyT_next hk, anyT_next hk, anyT_next hk, e]
    exact ⟨rfl, rfl, rfl, rfl⟩
  have HT0 : Hid (tV (A 0) (B 0) (C 0) (D 0) = 0) := by
    show _ = _
    rw [hA, hB, hCc, hD]
    rfl
  have HTE : Hid (0 < SP.length → tV (A SP.length) (B SP.length) (C SP.length) (D SP.length) = 15) := fun h0 => by
    obtain ⟨-, ⟨i1, j1, f1⟩, ⟨i2, j2, f2⟩, ⟨i3, j3, f3⟩, ⟨i4, j4, f4⟩⟩ := HBX.out h0
    rw [hA, hB, hCc, hD, anyT_all ⟨i1, j1, by rw [f1]; simp⟩, anyT_all ⟨i2, j2, by rw [f2]; simp⟩, anyT_all ⟨i3, j3, by rw [f3]; simp⟩, anyT_all ⟨i4, j4, by rw [f4]; simp⟩]
    rfl
  have HBA : Hid (∀ k, k < SP.length → ∀ x y, SP.getD k (0, 0) = (x, y) → lx ≤ x ∧ x ≤ mx ∧ ly ≤ y ∧ y ≤ my) := fun k hk x y e => by
    have h := (HBX.out (by omega)).all k hk
    rw [e] at h
    exact h
  clear hA hB hCc hD HBX
  go_wp2
  go_loopw [21, 22] (fun t i wr => ∃ k : Nat, k ≤ SP.length ∧ i = .int .i64 k ∧ t = .int .i64 (tV (A k) (B k) (C k) (D k)) ∧ Hid (bb.Ext wr)) (fun _ i _ => SP.length - (intOf i).toNat)
  case atStart => exact ⟨0, Nat.zero_le _, rfl, by rw [HT0.out], HX⟩
  case round =>
    clear HX
    obtain ⟨k, hk, rfl, rfl, HX⟩ := hrel
    obtain ⟨wa, rfl⟩ : ∃ wa : World, wa = wr := ⟨_, rfl⟩
    have hk0 : (0 : Int) ≤ (k : Int) := by omega
    by_cases hlt : k < SP.length
    · have hlt' : (k : Int) < (SP.length : Int) := by omega
      obtain ⟨sb, so, rfl, -, -⟩ := ((HALL.out wa HX.out).2.2.1).at hlt
      have HXY : Hid (∀ w', RowP w' (some ⟨sb, so, none⟩) SP → w'.cell? ⟨sb, so + k * 2, none⟩ = some (.int .i64 (SP.getD k (0, 0)).1) ∧ w'.cell? ⟨sb, so + k * 2 + 1, none⟩ = some (.int .i64 (SP.getD k (0, 0)).2)) := fun w' h => by
        obtain ⟨b', o', e, h1, h2⟩ := h.at hlt
        cases e
        exact ⟨h1, h2⟩
      have HBK := Lib.hid (fun w' h => HC.out.bk w' (SP.getD k (0, 0)).1 (SP.getD k (0, 0)).2 h)
      rw [HC.out.blk k hlt] at HBK
      obtain ⟨q, hq⟩ : ∃ q, SP.getD k (0, 0) = q := ⟨_, rfl⟩
      obtain ⟨x, y⟩ := q
      have HTK := Lib.hid (HTN.out k hlt x y hq)
      have hba := HBA.out k hlt x y hq
      rw [hq] at HBK HXY
      dsimp only at HBK HXY
      obtain ⟨y1, y2, y3, y4⟩ := hba
      have f1 : decide (x < lx) = false := decide_eq_false (by omega)
      have f2 : decide (mx < x) = false := decide_eq_false (by omega)
      have f3 : decide (y < ly) = false := decide_eq_false (by omega)
      have f4 : decide (my < y) = false := decide_eq_false (by omega)
      clear hq HTN HT0 HTE HBA
      have HLT := Lib.hid hlt
      have HO := Lib.hid (tV_or (A k) (B k) (C k) (D k))
      go_upto_region 18 with fail
      have c5 := (HALL.out wa HX.out).1
      have lc5 := World.block_lt_of_cell? _ _ c5
      have d0 := (HALL.out wa HX.out).2.2.2.2.2.2.2.1
      have ld0 := World.block_lt_of_cell? _ _ d0
      have d1 := (HALL.out wa HX.out).2.2.2.2.2.2.2.2.1
      have ld1 := World.block_lt_of_cell? _ _ d1
      have e0 := (HALL.out wa HX.out).2.2.2.2.2.2.2.2.2.1
      have le0 := World.block_lt_of_cell? _ _ e0
      have e1 := (HALL.out wa HX.out).2.2.2.2.2.2.2.2.2.2.1
      have le1 := World.block_lt_of_cell? _ _ e1
      obtain ⟨x1c, y1c⟩ := HXY.out wa ((HALL.out wa HX.out).2.2.1)
      have lxc := World.block_lt_of_cell? _ _ x1c
      have HR5 := Lib.hid ((HALL.out wa HX.out).2.1)
      have HBK1 : Hid (∀ w', wa.Ext w' → Calls Tryd.prog 14 #[.agg #[.slice (some ⟨rb_, ro, none⟩) H pc], .int .i64 x, .int .i64 y] w' fun e w'' => e = .returned (.bool true) ∧ w'.Ext w'') := fun w' hx => HBK.out w' (RowOf.ext HR5.out hx)
      refine wp_region_over_lit (by kernel_rfl) (by kernel_rfl) ?_; (repeat (go_big_quiet_step ((go_at_call 14; exact Calls.over_of (HBK1.out _ ⟨_, rfl⟩))))); refine wpQuiet_nil ?_; rintro _ ⟨x1, rfl⟩
      
      clear lc5 c5 ld0 d0 ld1 d1 le0 e0 le1 e1
      clear x1c y1c lxc HBK1 HR5 HBK f1 f2 f3 f4 HO y1 y2 y3 y4
      have HX_ : Hid (bb.Ext (wa.over x1)) := HX.out.trans ⟨x1, rfl⟩
      clear HX
      have HX := HX_
      clear HX_
      generalize wa.over x1 = w20 at *
      go_upto_region 20 with fail
      have d0 := (HALL.out w20 HX.out).2.2.2.2.2.2.2.1
      have ld0 := World.block_lt_of_cell? _ _ d0
      obtain ⟨x1c, y1c⟩ := HXY.out w20 ((HALL.out w20 HX.out).2.2.1)
      have lxc := World.block_lt_of_cell? _ _ x1c
      refine wp_region_over_lit (by kernel_rfl) (by kernel_rfl) ?_; (repeat (go_big_quiet_step (fail))); refine wpQuiet_nil ?_; rintro _ ⟨x1, rfl⟩
      clear ld0 d0
      clear x1c y1c lxc
      have HX_ : Hid (bb.Ext (w20.over x1)) := HX.out.trans ⟨x1, rfl⟩
      clear HX
      have HX := HX_
      clear HX_
      generalize w20.over x1 = w20a at *
      go_upto_if 202 with fail
      go_cut [21] (fun u wc => u = .int .i64 (tV (A (k + 1)) (B k) (C k) (D k)) ∧ Hid (bb.Ext wc))
      case first =>
        have HO := Lib.hid (tV_or (A k) (B k) (C k) (D k))
        have HXN := HX
        clear HX
        cases hc : (x == lx)
        · have HE : Hid (tV (A (k + 1)) (B k) (C k) (D k) = tV (A k) (B k) (C k) (D k)) := by show _ = _; rw [HTK.out.1, hc, Bool.or_false]
          go_wp2_with fail
          go_meet
          exact ⟨by rw [HE.out], HXN⟩
        · have HE : Hid (tV (A (k + 1)) (B k) (C k) (D k) = bits .or .i64 (tV (A k) (B k) (C k) (D k)) 1) := by show _ = _; rw [HTK.out.1, hc, Bool.or_true, HO.out.1]
          go_wp2_with fail
          go_meet
          exact ⟨by rw [HE.out], HXN⟩
      case rest =>
        obtain ⟨wo, rfl⟩ : ∃ wo : World, wo = wc := ⟨_, rfl⟩
        obtain ⟨rfl, HXN⟩ := hcut
        clear HX
        have HX := HXN
        clear HXN
        obtain ⟨w20b, rfl⟩ : ∃ z : World, z = wo := ⟨_, rfl⟩
        go_upto_region 22 with fail
        have e0 := (HALL.out w20b HX.out).2.2.2.2.2.2.2.2.2.1
        have le0 := World.block_lt_of_cell? _ _ e0
        obtain ⟨x1c, y1c⟩ := HXY.out w20b ((HALL.out w20b HX.out).2.2.1)
        have lxc := World.block_lt_of_cell? _ _ x1c
        refine wp_region_over_lit (by kernel_rfl) (by kernel_rfl) ?_; (repeat (go_big_quiet_step (fail))); refine wpQuiet_nil ?_; rintro _ ⟨x1, rfl⟩
        clear le0 e0
        clear x1c y1c lxc
        have HX_ : Hid (bb.Ext (w20b.over x1)) := HX.out.trans ⟨x1, rfl⟩
        clear HX
        have HX := HX_
        clear HX_
        generalize w20b.over x1 = w22a at *
        go_upto_if 212 with fail
        go_cut [21] (fun u wc => u = .int .i64 (tV (A (k + 1)) (B (k + 1)) (C k) (D k)) ∧ Hid (bb.Ext wc))
        case first =>
          have HO := Lib.hid (tV_or (A (k + 1)) (B k) (C k) (D k))
          have HXN := HX
          clear HX
          cases hc : (x == mx)
          · have HE : Hid (tV (A (k + 1)) (B (k + 1)) (C k) (D k) = tV (A (k + 1)) (B k) (C k) (D k)) := by show _ = _; rw [HTK.out.2.1, hc, Bool.or_false]
            go_wp2_with fail
            go_meet
            exact ⟨by rw [HE.out], HXN⟩
          · have HE : Hid (tV (A (k + 1)) (B (k + 1)) (C k) (D k) = bits .or .i64 (tV (A (k + 1)) (B k) (C k) (D k)) 2) := by show _ = _; rw [HTK.out.2.1, hc, Bool.or_true, HO.out.2.1]
            go_wp2_with fail
            go_meet
            exact ⟨by rw [HE.out], HXN⟩
        case rest =>
          obtain ⟨wo, rfl⟩ : ∃ wo : World, wo = wc := ⟨_, rfl⟩
          obtain ⟨rfl, HXN⟩ := hcut
          clear HX
          have HX := HXN
          clear HXN
          obtain ⟨w22b, rfl⟩ : ∃ z : World, z = wo := ⟨_, rfl⟩
          go_upto_region 24 with fail
          have d1 := (HALL.out w22b HX.out).2.2.2.2.2.2.2.2.1
          have ld1 := World.block_lt_of_cell? _ _ d1
          obtain ⟨x1c, y1c⟩ := HXY.out w22b ((HALL.out w22b HX.out).2.2.1)
          have lxc := World.block_lt_of_cell? _ _ x1c
          refine wp_region_over_lit (by kernel_rfl) (by kernel_rfl) ?_; (repeat (go_big_quiet_step (fail))); refine wpQuiet_nil ?_; rintro _ ⟨x1, rfl⟩
          clear ld1 d1
          clear x1c y1c lxc
          have HX_ : Hid (bb.Ext (w22b.over x1)) := HX.out.trans ⟨x1, rfl⟩
          clear HX
          have HX := HX_
          clear HX_
          generalize w22b.over x1 = w24a at *
          go_upto_if 222 with fail
          go_cut [21] (fun u wc => u = .int .i64 (tV (A (k + 1)) (B (k + 1)) (C (k + 1)) (D k)) ∧ Hid (bb.Ext wc))
          case first =>
            have HO := Lib.hid (tV_or (A (k + 1)) (B (k + 1)) (C k) (D k))
            have HXN := HX
            clear HX
            cases hc : (y == ly)
            · have HE : Hid (tV (A (k + 1)) (B (k + 1)) (C (k + 1)) (D k) = tV (A (k + 1)) (B (k + 1)) (C k) (D k)) := by show _ = _; rw [HTK.out.2.2.1, hc, Bool.or_false]
              go_wp2_with fail
              go_meet
              exact ⟨by rw [HE.out], HXN⟩
            · have HE : Hid (tV (A (k + 1)) (B (k + 1)) (C (k + 1)) (D k) = bits .or .i64 (tV (A (k + 1)) (B (k + 1)) (C k) (D k)) 4) := by show _ = _; rw [HTK.out.2.2.1, hc, Bool.or_true, HO.out.2.2.1]
              go_wp2_with fail
              go_meet
              exact ⟨by rw [HE.out], HXN⟩
          case rest =>
            obtain ⟨wo, rfl⟩ : ∃ wo : World, wo = wc := ⟨_, rfl⟩
            obtain ⟨rfl, HXN⟩ := hcut
            clear HX
            have HX := HXN
            clear HXN
            obtain ⟨w24b, rfl⟩ : ∃ z : World, z = wo := ⟨_, rfl⟩
            go_upto_region 26 with fail
            have e1 := (HALL.out w24b HX.out).2.2.2.2.2.2.2.2.2.2.1
            have le1 := World.block_lt_of_cell? _ _ e1
            obtain ⟨x1c, y1c⟩ := HXY.out w24b ((HALL.out w24b HX.out).2.2.1)
            have lxc := World.block_lt_of_cell? _ _ x1c
            refine wp_region_over_lit (by kernel_rfl) (by kernel_rfl) ?_; (repeat (go_big_quiet_step (fail))); refine wpQuiet_nil ?_; rintro _ ⟨x1, rfl⟩
            clear le1 e1
            clear x1c y1c lxc
            have HX_ : Hid (bb.Ext (w24b.over x1)) := HX.out.trans ⟨x1, rfl⟩
            clear HX
            have HX := HX_
            clear HX_
            generalize w24b.over x1 = w26a at *
            have HO := Lib.hid (tV_or (A (k + 1)) (B (k + 1)) (C (k + 1)) (D k))
            have hk64 : k < 64 := by have h1 := HLT.out; have h2 := HC.out.few; omega
            cases hc : (y == my)
            · have HE : Hid (tV (A (k + 1)) (B (k + 1)) (C (k + 1)) (D (k + 1)) = tV (A (k + 1)) (B (k + 1)) (C (k + 1)) (D k)) := by show _ = _; rw [HTK.out.2.2.2, hc, Bool.or_false]
              go_wp2_with fail
              go_roundw
              case rel => exact ⟨k + 1, by have := HLT.out; omega, by go_num, by rw [HE.out], HX⟩
              case measure => have := HLT.out; simp [intOf]; omega
            · have HE : Hid (tV (A (k + 1)) (B (k + 1)) (C (k + 1)) (D (k + 1)) = bits .or .i64 (tV (A (k + 1)) (B (k + 1)) (C (k + 1)) (D k)) 8) := by show _ = _; rw [HTK.out.2.2.2, hc, Bool.or_true, HO.out.2.2.2]
              go_wp2_with fail
              go_roundw
              case rel => exact ⟨k + 1, by have := HLT.out; omega, by go_num, by rw [HE.out], HX⟩
              case measure => have := HLT.out; simp [intOf]; omega
    · as_aux_lemma =>
      have hke : k = SP.length := by omega
      subst hke
      have hlt' : ¬ ((SP.length : Int) < (SP.length : Int)) := by omega
      have H15 := Lib.hid HTE.out
      clear HTN HT0 HTE HBA
      obtain ⟨tv, htv⟩ : ∃ tv, tv = tV (A SP.length) (B SP.length) (C SP.length) (D SP.length) := ⟨_, rfl⟩
      rw [← htv] at H15
      rw [← htv]
      clear htv hk0 hk
      go_upto_region 28 with fail
      have H16 : Hid (decide (0 < SP.length) = true → tv = 15) := fun h => H15.out (of_decide_eq_true h)
      clear H15 hlt hlt'
      generalize decide (0 < SP.length) = six at *
      go_cut [239] from 235 to 239 (fun u wc => u = .bool false ∧ Hid (bb.Ext wc))
      case first =>
        have HXN := HX
        clear HX
        cases six
        · clear H16
          go_wp2_with fail
          go_meet
          exact ⟨rfl, HXN⟩
        · have h15 := H16.out rfl
          clear H16
          subst h15
          go_wp2_with fail
          go_meet
          exact ⟨rfl, HXN⟩
      case rest =>
        obtain ⟨wn, rfl⟩ : ∃ wo : World, wo = wc := ⟨_, rfl⟩
        obtain ⟨rfl, HXN⟩ := hcut
        clear HX H16
        have HX := HXN
        clear HXN
        have hxr : wn.Ext wn := .refl _
        have HALL_ : Hid (∀ w', wn.Ext w' → w'.cell? ⟨q5, 0, none⟩ = some (.slice (some ⟨rb_, ro, none⟩) H pc) ∧ RowS w' (some ⟨rb_, ro, none⟩) ss ∧ RowP w' sa SP ∧ w'.cell? ⟨q10, 0, none⟩ = some (.slice a10 H c10) ∧ RowS w' a10 (ss) ∧ w'.cell? ⟨q14, 0, none⟩ = some (.slice a14 H c14) ∧ RowS w' a14 (ss) ∧ w'.cell? ⟨q18, 0, none⟩ = some (.int .i64 lx) ∧ w'.cell? ⟨q18, 1, none⟩ = some (.int .i64 ly) ∧ w'.cell? ⟨q18 + 1, 0, none⟩ = some (.int .i64 mx) ∧ w'.cell? ⟨q18 + 1, 1, none⟩ = some (.int .i64 my) ∧ True) := fun w' hx' => ⟨(HALL.out w' ((HX.out.trans hxr).trans hx')).1, (HALL.out w' ((HX.out.trans hxr).trans hx')).2.1, (HALL.out w' ((HX.out.trans hxr).trans hx')).2.2.1, (HALL.out w' ((HX.out.trans hxr).trans hx')).2.2.2.1, (HALL.out w' ((HX.out.trans hxr).trans hx')).2.2.2.2.1, (HALL.out w' ((HX.out.trans hxr).trans hx')).2.2.2.2.2.1, (HALL.out w' ((HX.out.trans hxr).trans hx')).2.2.2.2.2.2.1, (HALL.out w' ((HX.out.trans hxr).trans hx')).2.2.2.2.2.2.2.1, (HALL.out w' ((HX.out.trans hxr).trans hx')).2.2.2.2.2.2.2.2.1, (HALL.out w' ((HX.out.trans hxr).trans hx')).2.2.2.2.2.2.2.2.2.1, (HALL.out w' ((HX.out.trans hxr).trans hx')).2.2.2.2.2.2.2.2.2.2.1, trivial⟩
        have HWB_ := Lib.hid (HWB.out.trans (HX.out.trans hxr))
        have HX_ : Hid (wn.Ext wn) := .refl _
        clear hxr HWB HX HALL
        have HALL := HALL_
        have HWB := HWB_
        have HX := HX_
        clear HALL_ HWB_ HX_
        obtain ⟨w3, hw3⟩ : ∃ w3, w3 = wn.alloc (.cells #[.slice (some ⟨rb_, ro, none⟩) H pc] 26) := ⟨_, rfl⟩
        have HN0 : Hid (NwSt wn wn.heap.size (hI W H 0) (trI ss 0) w3) := by rw [hw3]; exact ⟨by repeat (first | exact World.Ext.refl _ | exact ⟨_, rfl⟩ | assumption | refine World.Ext.over ?_ _ | refine World.Ext.drewN ?_ _ | refine World.Ext.drew ?_ | refine World.Ext.alloc ?_ _ | refine World.Ext.setCell ?_ (by simp) _), Nat.le_refl _, (some ⟨rb_, ro, none⟩), pc, One.new _ _ _ _ rfl, RowOf.ext ((HALL.out wn HX.out).2.1) (by repeat (first | exact World.Ext.refl _ | exact ⟨_, rfl⟩ | assumption | refine World.Ext.over ?_ _ | refine World.Ext.drewN ?_ _ | refine World.Ext.drew ?_ | refine World.Ext.alloc ?_ _ | refine World.Ext.setCell ?_ (by simp) _))⟩
        have c5 := (HALL.out wn HX.out).1
        have lc5 := World.block_lt_of_cell? _ _ c5
        go_upto_region 31 with fail
        rw [← hw3]
        clear hw3 c5 lc5
        generalize wn.heap.size = q23 at *
        go_wp2
        go_loopw [24] (fun i wr => ∃ k : Nat, k ≤ 4 ∧ i = .int .i64 k ∧ Hid (NwSt wn q23 (hI W H k) (trI ss k) wr)) (fun i _ => 4 - (intOf i).toNat)
        case atStart => exact ⟨0, Nat.zero_le _, rfl, HN0⟩
        case round =>
          clear HN0 HX
          obtain ⟨k, hk, rfl, HS⟩ := hrel
          obtain ⟨wa, rfl⟩ : ∃ wa : World, wa = wr := ⟨_, rfl⟩
          have hk0 : (0 : Int) ≤ (k : Int) := by omega
          by_cases hlt : k < 4
          · have hlt' : (k : Int) < 4 := by omega
            have HX := Lib.hid HS.out.x
            have HT := Lib.hid (fun w' a c h => HC.out.t3 w' k a c h)
            obtain ⟨hh, ehh⟩ : ∃ hh, hh = hI W H (k + 1) := ⟨_, rfl⟩
            have HH := Lib.hid ehh
            rw [← ehh] at HT
            clear ehh
            obtain ⟨na, nc, h1, h2⟩ := HS.out.ex
            have HN2 := Lib.hid h2
            have n23 := h1.cell
            have ln23 := World.block_lt_of_cell? _ _ n23
            clear h1 h2
            go_wp2_with fail
            refine (HT.out wa na nc HN2.out).mono ?_
            rintro e v34 ⟨a25, c25, rfl, hx, ho⟩
            clear n23 ln23 HN2
            have HO25 := Lib.hid ho
            have HS_ := Lib.hid (HS.out.ext hx)
            clear HS
            have HS := HS_
            clear HS_ ho
            have HX_ := Lib.hid (HX.out.trans hx)
            clear HX
            have HX := HX_
            clear HX_ hx
            obtain ⟨b11, hb11⟩ : ∃ b11, b11 = v34.alloc (.cells #[.slice a25 hh c25] 26) := ⟨_, rfl⟩
            have hxb : v34.Ext b11 := by rw [hb11]; repeat (first | exact World.Ext.refl _ | exact ⟨_, rfl⟩ | assumption | refine World.Ext.over ?_ _ | refine World.Ext.drewN ?_ _ | refine World.Ext.drew ?_ | refine World.Ext.alloc ?_ _ | refine World.Ext.setCell ?_ (by simp) _)
            have e25_ : b11.cell? ⟨v34.heap.size, 0, none⟩ = some (.slice a25 hh c25) := by rw [hb11]; simp [go_sem]
            have HALL_ : Hid (∀ w', b11.Ext w' → w'.cell? ⟨q5, 0, none⟩ = some (.slice (some ⟨rb_, ro, none⟩) H pc) ∧ RowS w' (some ⟨rb_, ro, none⟩) ss ∧ RowP w' sa SP ∧ w'.cell? ⟨q10, 0, none⟩ = some (.slice a10 H c10) ∧ RowS w' a10 (ss) ∧ w'.cell? ⟨q14, 0, none⟩ = some (.slice a14 H c14) ∧ RowS w' a14 (ss) ∧ w'.cell? ⟨q18, 0, none⟩ = some (.int .i64 lx) ∧ w'.cell? ⟨q18, 1, none⟩ = some (.int .i64 ly) ∧ w'.cell? ⟨q18 + 1, 0, none⟩ = some (.int .i64 mx) ∧ w'.cell? ⟨q18 + 1, 1, none⟩ = some (.int .i64 my) ∧ w'.cell? ⟨v34.heap.size, 0, none⟩ = some (.slice a25 hh c25) ∧ RowS w' a25 (trI ss (k + 1)) ∧ NwSt wn q23 (hI W H k) (trI ss k) w' ∧ True) := fun w' hx' => ⟨(HALL.out w' ((HX.out.trans hxb).trans hx')).1, (HALL.out w' ((HX.out.trans hxb).trans hx')).2.1, (HALL.out w' ((HX.out.trans hxb).trans hx')).2.2.1, (HALL.out w' ((HX.out.trans hxb).trans hx')).2.2.2.1, (HALL.out w' ((HX.out.trans hxb).trans hx')).2.2.2.2.1, (HALL.out w' ((HX.out.trans hxb).trans hx')).2.2.2.2.2.1, (HALL.out w' ((HX.out.trans hxb).trans hx')).2.2.2.2.2.2.1, (HALL.out w' ((HX.out.trans hxb).trans hx')).2.2.2.2.2.2.2.1, (HALL.out w' ((HX.out.trans hxb).trans hx')).2.2.2.2.2.2.2.2.1, (HALL.out w' ((HX.out.trans hxb).trans hx')).2.2.2.2.2.2.2.2.2.1, (HALL.out w' ((HX.out.trans hxb).trans hx')).2.2.2.2.2.2.2.2.2.2.1, hx'.cell e25_, RowOf.ext HO25.out (hxb.trans hx'), NwSt.ext HS.out (hxb.trans hx'), trivial⟩
            have HWB_ := Lib.hid (HWB.out.trans (HX.out.trans hxb))
            have HX_ : Hid (b11.Ext b11) := .refl _
            clear hxb e25_ HWB HX HALL
            have HALL := HALL_
            have HWB := HWB_
            have HX := HX_
            clear HALL_ HWB_ HX_
            clear HO25 HS
            go_upto_region 35 with fail
            rw [← hb11]
            clear hb11
            generalize v34.heap.size = q25 at *
            have c5 := (HALL.out b11 HX.out).1
            have lc5 := World.block_lt_of_cell? _ _ c5
            have e25 := (HALL.out b11 HX.out).2.2.2.2.2.2.2.2.2.2.2.1
            have le25 := World.block_lt_of_cell? _ _ e25
            go_cut [271] (fun u wc => u = .bool false ∧ Hid (b11.Ext wc))
            case first =>
              have HQ5 := Lib.hid ((HALL.out b11 HX.out).2.1)
              have HQ25 := Lib.hid ((HALL.out b11 HX.out).2.2.2.2.2.2.2.2.2.2.2.2.1)
              have HXN := HX
              clear HX
              by_cases hk1 : k = 0
              · have hkb : ((k : Int) == 0) = true := by rw [hk1]; rfl
                have eh : hh = W := by have h := HH.out; rw [hk1] at h; exact h
                have HKZ := Lib.hid hk1
                clear hk1
                subst eh
                obtain ⟨t0, ht0⟩ : ∃ t0, t0 = pxl hh H l 0 ((H : Int) - 1) := ⟨_, rfl⟩
                have HQ1 : Hid (∀ w', b11.Ext w' → Calls Tryd.prog 14 #[.agg #[.slice a25 hh c25], .int .i64 0, .int .i64 0] w' fun e w'' => e = .returned (.bool t0) ∧ w'.Ext w'') := fun w' hx => by rw [ht0]; exact HC.out.c0 w' a25 c25 (by have h := RowOf.ext HQ25.out hx; rw [HKZ.out] at h; exact h)
                have HQ2 : Hid (∀ w', b11.Ext w' → Calls Tryd.prog 14 #[.agg #[.slice (some ⟨rb_, ro, none⟩) H pc], .int .i64 0, .int .i64 ((H : Int) - 1)] w' fun e w'' => e = .returned (.bool t0) ∧ w'.Ext w'') := fun w' hx => by rw [ht0]; exact HC.out.bk w' 0 ((H : Int) - 1) (RowOf.ext HQ5.out hx)
                have wr1 : IntKind.i64.wrap ((H : Int) - 1) = (H : Int) - 1 := IntWalk.i64_in _ (by omega)
                clear ht0
                have hnn : ((hh : Int) != (hh : Int)) = false := by simp
                have htt : (t0 != t0) = false := by simp
                clear HQ5 HQ25 HT HKZ
                refine wp_region_over_lit (by kernel_rfl) (by kernel_rfl) ?_
                iterate 13 (go_big_quiet_step (fail))
                go_big_quiet_step ((go_at_call 14; go_loud (exact Calls.over_of (HQ1.out _ ⟨_, rfl⟩))))
                iterate 3 (go_big_quiet_step (fail))
                go_big_quiet_step ((go_at_call 14; go_loud (exact Calls.over_of (HQ2.out _ ⟨_, rfl⟩))))
                (repeat (go_big_quiet_step (fail)))
                refine wpQuiet_nil ?_
                rintro _ ⟨x1, rfl⟩
                have HX9 := Lib.hid (HXN.out.trans (⟨x1, rfl⟩ : b11.Ext (b11.over x1)))
                go_wp2_with fail
                go_meet
                exact ⟨by simp, HX9⟩
              · have hkb : ((k : Int) == 0) = false := by rw [beq_eq_false_iff_ne]; omega
                clear HQ5 HQ25 HT
                refine wp_region_over_lit (by kernel_rfl) (by kernel_rfl) ?_; (repeat (go_big_quiet_step (fail))); refine wpQuiet_nil ?_; rintro _ ⟨x1, rfl⟩
                have HX9 := Lib.hid (HXN.out.trans (⟨x1, rfl⟩ : b11.Ext (b11.over x1)))
                go_wp2_with fail
                go_meet
                exact ⟨by simp, HX9⟩
            case rest =>
              obtain ⟨wd, rfl⟩ : ∃ wo : World, wo = wc := ⟨_, rfl⟩
              obtain ⟨rfl, HXN⟩ := hcut
              clear HX c5 lc5 e25 le25 HT
              have HX := HXN
              clear HXN
              have HS25 := Lib.hid ((HALL.out wd HX.out).2.2.2.2.2.2.2.2.2.2.2.2.2.1)
              have HR25 := Lib.hid ((HALL.out wd HX.out).2.2.2.2.2.2.2.2.2.2.2.2.1)
              obtain ⟨na2, nc2, h1, h2⟩ := HS25.out.ex
              have n23 := h1.cell
              have ln23 := World.block_lt_of_cell? _ _ n23
              have fn23 := h1.free
              clear h1 h2
              have e25 := (HALL.out wd HX.out).2.2.2.2.2.2.2.2.2.2.2.1
              have le25 := World.block_lt_of_cell? _ _ e25
              have HNN := Lib.hid (HS25.out.put (H' := hh) (R' := trI ss (k + 1)) c25 HR25.out)
              rw [HH.out] at HNN
              rw [HH.out] at *
              go_wp2_with fail
              go_roundw
              case rel => exact ⟨k + 1, by omega, by go_num, HNN⟩
              case measure => simp [intOf]; omega
          · as_aux_lemma =>
            have hke : k = 4 := by omega
            subst hke
            have hlt' : ¬ (4 : Int) < 4 := by omega
            have HX := Lib.hid HS.out.x
            obtain ⟨na, nc, h1, h2⟩ := HS.out.ex
            rw [HC.out.t4] at h2
            have HN2 := Lib.hid h2
            have n23 := h1.cell
            have ln23 := World.block_lt_of_cell? _ _ n23
            clear h1 h2 HS hk0 hk hlt
            obtain ⟨wd, rfl⟩ : ∃ z : World, z = wa := ⟨_, rfl⟩
            have c5 := (HALL.out wd HX.out).1
            have lc5 := World.block_lt_of_cell? _ _ c5
            go_wp2_with fail
            refine (HC.out.sm wd na (some ⟨rb_, ro, none⟩) nc pc HN2.out ((HALL.out wd HX.out).2.1)).mono ?_
            rintro e v38 ⟨rfl, hx⟩
            clear n23 ln23 HN2 hlt'
            clear lc5 c5
            have HX_ := Lib.hid (HX.out.trans hx)
            clear HX
            have HX := HX_
            clear HX_ hx
            go_wp2
            go_loopw [27] (fun i wr => ∃ k : Nat, k ≤ 3 ∧ i = .int .i64 k ∧ Hid (wn.Ext wr)) (fun i _ => 3 - (intOf i).toNat)
            case atStart => exact ⟨0, Nat.zero_le _, rfl, HX⟩
            case round =>
              clear HX
              obtain ⟨k, hk, rfl, HX⟩ := hrel
              obtain ⟨wa, rfl⟩ : ∃ wa : World, wa = wr := ⟨_, rfl⟩
              have hk0 : (0 : Int) ≤ (k : Int) := by omega
              by_cases hlt : k < 3
              · have hlt' : (k : Int) < 3 := by omega
                have HKA := Lib.hid (fun w' h => HC.out.ka w' k hlt h)
                have HKB := Lib.hid (fun w' a c h => HC.out.kb w' k a c hlt h)
                obtain ⟨hh, ehh⟩ : ∃ hh, hh = trW k H W := ⟨_, rfl⟩
                obtain ⟨RR, eRR⟩ : ∃ RR, RR = trnP k ss := ⟨_, rfl⟩
                rw [← ehh, ← eRR] at HKA HKB
                clear ehh eRR
                have c5 := (HALL.out wa HX.out).1
                have lc5 := World.block_lt_of_cell? _ _ c5
                go_wp2_with fail
                refine (HKA.out wa (HALL.out wa HX.out).2.1).mono ?_
                rintro e v12 ⟨a28, c28, rfl, hx, ho⟩
                clear lc5 c5
                have HX_ := Lib.hid (HX.out.trans hx)
                clear HX
                have HX := HX_
                clear HX_
                have HO28 := Lib.hid ho
                clear ho
                clear hx
                obtain ⟨b12, hb12⟩ : ∃ b12, b12 = v12.alloc (.cells #[.slice a28 hh c28] 26) := ⟨_, rfl⟩
                have hxb : v12.Ext b12 := by rw [hb12]; repeat (first | exact World.Ext.refl _ | exact ⟨_, rfl⟩ | assumption | refine World.Ext.over ?_ _ | refine World.Ext.drewN ?_ _ | refine World.Ext.drew ?_ | refine World.Ext.alloc ?_ _ | refine World.Ext.setCell ?_ (by simp) _)
                have e28_ : b12.cell? ⟨v12.heap.size, 0, none⟩ = some (.slice a28 hh c28) := by rw [hb12]; simp [go_sem]
                have HALL_ : Hid (∀ w', b12.Ext w' → w'.cell? ⟨q5, 0, none⟩ = some (.slice (some ⟨rb_, ro, none⟩) H pc) ∧ RowS w' (some ⟨rb_, ro, none⟩) ss ∧ RowP w' sa SP ∧ w'.cell? ⟨q10, 0, none⟩ = some (.slice a10 H c10) ∧ RowS w' a10 (ss) ∧ w'.cell? ⟨q14, 0, none⟩ = some (.slice a14 H c14) ∧ RowS w' a14 (ss) ∧ w'.cell? ⟨q18, 0, none⟩ = some (.int .i64 lx) ∧ w'.cell? ⟨q18, 1, none⟩ = some (.int .i64 ly) ∧ w'.cell? ⟨q18 + 1, 0, none⟩ = some (.int .i64 mx) ∧ w'.cell? ⟨q18 + 1, 1, none⟩ = some (.int .i64 my) ∧ w'.cell? ⟨v12.heap.size, 0, none⟩ = some (.slice a28 hh c28) ∧ RowS w' a28 (RR) ∧ wn.Ext w' ∧ True) := fun w' hx' => ⟨(HALL.out w' ((HX.out.trans hxb).trans hx')).1, (HALL.out w' ((HX.out.trans hxb).trans hx')).2.1, (HALL.out w' ((HX.out.trans hxb).trans hx')).2.2.1, (HALL.out w' ((HX.out.trans hxb).trans hx')).2.2.2.1, (HALL.out w' ((HX.out.trans hxb).trans hx')).2.2.2.2.1, (HALL.out w' ((HX.out.trans hxb).trans hx')).2.2.2.2.2.1, (HALL.out w' ((HX.out.trans hxb).trans hx')).2.2.2.2.2.2.1, (HALL.out w' ((HX.out.trans hxb).trans hx')).2.2.2.2.2.2.2.1, (HALL.out w' ((HX.out.trans hxb).trans hx')).2.2.2.2.2.2.2.2.1, (HALL.out w' ((HX.out.trans hxb).trans hx')).2.2.2.2.2.2.2.2.2.1, (HALL.out w' ((HX.out.trans hxb).trans hx')).2.2.2.2.2.2.2.2.2.2.1, hx'.cell e28_, RowOf.ext HO28.out (hxb.trans hx'), HX.out.trans (hxb.trans hx'), trivial⟩
                have HWB_ := Lib.hid (HWB.out.trans (HX.out.trans hxb))
                have HX_ : Hid (b12.Ext b12) := .refl _
                clear hxb e28_ HWB HX HALL
                have HALL := HALL_
                have HWB := HWB_
                have HX := HX_
                clear HALL_ HWB_ HX_
                clear HO28
                go_upto_region 44 with fail
                rw [← hb12]
                clear hb12
                generalize v12.heap.size = q28 at *
                have e28 := (HALL.out b12 HX.out).2.2.2.2.2.2.2.2.2.2.2.1
                have le28 := World.block_lt_of_cell? _ _ e28
                go_wp2_with fail
                refine (HKB.out b12 a28 c28 (HALL.out b12 HX.out).2.2.2.2.2.2.2.2.2.2.2.2.1).mono ?_
                rintro e v13 ⟨a30, c30, rfl, hx, ho⟩
                clear le28 e28
                have HX_ := Lib.hid (HX.out.trans hx)
                clear HX
                have HX := HX_
                clear HX_
                have HO30 := Lib.hid ho
                clear ho
                clear hx
                obtain ⟨b13, hb13⟩ : ∃ b13, b13 = v13.alloc (.cells #[.slice a30 H c30] 26) := ⟨_, rfl⟩
                have hxb : v13.Ext b13 := by rw [hb13]; repeat (first | exact World.Ext.refl _ | exact ⟨_, rfl⟩ | assumption | refine World.Ext.over ?_ _ | refine World.Ext.drewN ?_ _ | refine World.Ext.drew ?_ | refine World.Ext.alloc ?_ _ | refine World.Ext.setCell ?_ (by simp) _)
                have e30_ : b13.cell? ⟨v13.heap.size, 0, none⟩ = some (.slice a30 H c30) := by rw [hb13]; simp [go_sem]
                have HALL_ : Hid (∀ w', b13.Ext w' → w'.cell? ⟨q5, 0, none⟩ = some (.slice (some ⟨rb_, ro, none⟩) H pc) ∧ RowS w' (some ⟨rb_, ro, none⟩) ss ∧ RowP w' sa SP ∧ w'.cell? ⟨q10, 0, none⟩ = some (.slice a10 H c10) ∧ RowS w' a10 (ss) ∧ w'.cell? ⟨q14, 0, none⟩ = some (.slice a14 H c14) ∧ RowS w' a14 (ss) ∧ w'.cell? ⟨q18, 0, none⟩ = some (.int .i64 lx) ∧ w'.cell? ⟨q18, 1, none⟩ = some (.int .i64 ly) ∧ w'.cell? ⟨q18 + 1, 0, none⟩ = some (.int .i64 mx) ∧ w'.cell? ⟨q18 + 1, 1, none⟩ = some (.int .i64 my) ∧ w'.cell? ⟨q28, 0, none⟩ = some (.slice a28 hh c28) ∧ RowS w' a28 (RR) ∧ wn.Ext w' ∧ w'.cell? ⟨v13.heap.size, 0, none⟩ = some (.slice a30 H c30) ∧ RowS w' a30 (ss) ∧ True) := fun w' hx' => ⟨(HALL.out w' ((HX.out.trans hxb).trans hx')).1, (HALL.out w' ((HX.out.trans hxb).trans hx')).2.1, (HALL.out w' ((HX.out.trans hxb).trans hx')).2.2.1, (HALL.out w' ((HX.out.trans hxb).trans hx')).2.2.2.1, (HALL.out w' ((HX.out.trans hxb).trans hx')).2.2.2.2.1, (HALL.out w' ((HX.out.trans hxb).trans hx')).2.2.2.2.2.1, (HALL.out w' ((HX.out.trans hxb).trans hx')).2.2.2.2.2.2.1, (HALL.out w' ((HX.out.trans hxb).trans hx')).2.2.2.2.2.2.2.1, (HALL.out w' ((HX.out.trans hxb).trans hx')).2.2.2.2.2.2.2.2.1, (HALL.out w' ((HX.out.trans hxb).trans hx')).2.2.2.2.2.2.2.2.2.1, (HALL.out w' ((HX.out.trans hxb).trans hx')).2.2.2.2.2.2.2.2.2.2.1, (HALL.out w' ((HX.out.trans hxb).trans hx')).2.2.2.2.2.2.2.2.2.2.2.1, (HALL.out w' ((HX.out.trans hxb).trans hx')).2.2.2.2.2.2.2.2.2.2.2.2.1, (HALL.out w' ((HX.out.trans hxb).trans hx')).2.2.2.2.2.2.2.2.2.2.2.2.2.1, hx'.cell e30_, RowOf.ext HO30.out (hxb.trans hx'), trivial⟩
                have HWB_ := Lib.hid (HWB.out.trans (HX.out.trans hxb))
                have HX_ : Hid (b13.Ext b13) := .refl _
                clear hxb e30_ HWB HX HALL
                have HALL := HALL_
                have HWB := HWB_
                have HX := HX_
                clear HALL_ HWB_ HX_
                clear HO30
                go_upto_region 45 with fail
                rw [← hb13]
                clear hb13
                generalize v13.heap.size = q30 at *
                have e30 := (HALL.out b13 HX.out).2.2.2.2.2.2.2.2.2.2.2.2.2.2.1
                have le30 := World.block_lt_of_cell? _ _ e30
                have c5 := (HALL.out b13 HX.out).1
                have lc5 := World.block_lt_of_cell? _ _ c5
                go_wp2_with fail
                refine (HC.out.sm b13 _ _ _ _ (HALL.out b13 HX.out).2.2.2.2.2.2.2.2.2.2.2.2.2.2.2.1 (HALL.out b13 HX.out).2.1).mono ?_
                rintro e v14 ⟨rfl, hx⟩
                clear le30 e30 lc5 c5
                have HX_ := Lib.hid (HX.out.trans hx)
                clear HX
                have HX := HX_
                clear HX_
                clear hx
                have HX9 := Lib.hid ((HALL.out v14 HX.out).2.2.2.2.2.2.2.2.2.2.2.2.2.1)
                go_wp2_with fail
                go_roundw
                case rel => exact ⟨k + 1, by omega, by go_num, HX9⟩
                case measure => simp [intOf]; omega
              · as_aux_lemma =>
                have hke : k = 3 := by omega
                subst hke
                have hlt' : ¬ (3 : Int) < 3 := by omega
                clear hk0 hk hlt
                obtain ⟨we, rfl⟩ : ∃ z : World, z = wa := ⟨_, rfl⟩
                go_wp2_with fail
                refine (HA0.out we (HWB.out.trans HX.out)).mono ?_
                rintro e v12 ⟨r1, rfl, hx, r10, r11⟩
                have HX_ := Lib.hid (HX.out.trans hx)
                clear HX
                have HX := HX_
                clear HX_
                clear hlt'
                obtain ⟨dx, rfl⟩ : ∃ dx, r1 = dx + 4 := ⟨r1 - 4, by omega⟩
                have hd1 : -4 ≤ dx ∧ dx ≤ 4 := by omega
                have wr1 : IntKind.i64.wrap dx = dx := IntWalk.i64_in _ (by omega)
                have wr2 : IntKind.i64.wrap (-dx) = -dx := IntWalk.i64_in _ (by omega)
                clear r10 r11
                clear hx
                go_wp2_with fail
                refine (HA1.out v12 (HWB.out.trans HX.out)).mono ?_
                rintro e v13 ⟨r1, rfl, hx, r10, r11⟩
                have HX_ := Lib.hid (HX.out.trans hx)
                clear HX
                have HX := HX_
                clear HX_
                obtain ⟨dy, rfl⟩ : ∃ dy, r1 = dy + 4 := ⟨r1 - 4, by omega⟩
                have hd2 : -4 ≤ dy ∧ dy ≤ 4 := by omega
                have wr3 : IntKind.i64.wrap dy = dy := IntWalk.i64_in _ (by omega)
                have wr4 : IntKind.i64.wrap (-dy) = -dy := IntWalk.i64_in _ (by omega)
                clear r10 r11
                clear hx
                have c5 := (HALL.out v13 HX.out).1
                have lc5 := World.block_lt_of_cell? _ _ c5
                go_wp2_with fail
                refine (HC.out.s1 v13 dx dy ⟨hd1.1, hd1.2, hd2.1, hd2.2⟩ (HALL.out v13 HX.out).2.1).mono ?_
                rintro e v14 ⟨a34, c34, rfl, hx, ho⟩
                clear lc5 c5
                have HX_ := Lib.hid (HX.out.trans hx)
                clear HX
                have HX := HX_
                clear HX_
                have HO34 := Lib.hid ho
                clear ho
                clear hx
                obtain ⟨b14, hb14⟩ : ∃ b14, b14 = v14.alloc (.cells #[.slice a34 H c34] 26) := ⟨_, rfl⟩
                have hxb : v14.Ext b14 := by rw [hb14]; repeat (first | exact World.Ext.refl _ | exact ⟨_, rfl⟩ | assumption | refine World.Ext.over ?_ _ | refine World.Ext.drewN ?_ _ | refine World.Ext.drew ?_ | refine World.Ext.alloc ?_ _ | refine World.Ext.setCell ?_ (by simp) _)
                have e34_ : b14.cell? ⟨v14.heap.size, 0, none⟩ = some (.slice a34 H c34) := by rw [hb14]; simp [go_sem]
                have HALL_ : Hid (∀ w', b14.Ext w' → w'.cell? ⟨q5, 0, none⟩ = some (.slice (some ⟨rb_, ro, none⟩) H pc) ∧ RowS w' (some ⟨rb_, ro, none⟩) ss ∧ RowP w' sa SP ∧ w'.cell? ⟨q10, 0, none⟩ = some (.slice a10 H c10) ∧ RowS w' a10 (ss) ∧ w'.cell? ⟨q14, 0, none⟩ = some (.slice a14 H c14) ∧ RowS w' a14 (ss) ∧ w'.cell? ⟨q18, 0, none⟩ = some (.int .i64 lx) ∧ w'.cell? ⟨q18, 1, none⟩ = some (.int .i64 ly) ∧ w'.cell? ⟨q18 + 1, 0, none⟩ = some (.int .i64 mx) ∧ w'.cell? ⟨q18 + 1, 1, none⟩ = some (.int .i64 my) ∧ w'.cell? ⟨v14.heap.size, 0, none⟩ = some (.slice a34 H c34) ∧ RowS w' a34 (shP dx dy ss) ∧ True) := fun w' hx' => ⟨(HALL.out w' ((HX.out.trans hxb).trans hx')).1, (HALL.out w' ((HX.out.trans hxb).trans hx')).2.1, (HALL.out w' ((HX.out.trans hxb).trans hx')).2.2.1, (HALL.out w' ((HX.out.trans hxb).trans hx')).2.2.2.1, (HALL.out w' ((HX.out.trans hxb).trans hx')).2.2.2.2.1, (HALL.out w' ((HX.out.trans hxb).trans hx')).2.2.2.2.2.1, (HALL.out w' ((HX.out.trans hxb).trans hx')).2.2.2.2.2.2.1, (HALL.out w' ((HX.out.trans hxb).trans hx')).2.2.2.2.2.2.2.1, (HALL.out w' ((HX.out.trans hxb).trans hx')).2.2.2.2.2.2.2.2.1, (HALL.out w' ((HX.out.trans hxb).trans hx')).2.2.2.2.2.2.2.2.2.1, (HALL.out w' ((HX.out.trans hxb).trans hx')).2.2.2.2.2.2.2.2.2.2.1, hx'.cell e34_, RowOf.ext HO34.out (hxb.trans hx'), trivial⟩
                have HWB_ := Lib.hid (HWB.out.trans (HX.out.trans hxb))
                have HX_ : Hid (b14.Ext b14) := .refl _
                clear hxb e34_ HWB HX HALL
                have HALL := HALL_
                have HWB := HWB_
                have HX := HX_
                clear HALL_ HWB_ HX_
                clear HO34
                go_upto_region 50 with fail
                rw [← hb14]
                clear hb14
                generalize v14.heap.size = q34 at *
                have e34 := (HALL.out b14 HX.out).2.2.2.2.2.2.2.2.2.2.2.1
                have le34 := World.block_lt_of_cell? _ _ e34
                go_wp2_with fail
                refine (HC.out.s2 b14 dx dy a34 c34 ⟨hd1.1, hd1.2, hd2.1, hd2.2⟩ (HALL.out b14 HX.out).2.2.2.2.2.2.2.2.2.2.2.2.1).mono ?_
                rintro e v15 ⟨a36, c36, rfl, hx, ho⟩
                clear le34 e34
                have HX_ := Lib.hid (HX.out.trans hx)
                clear HX
                have HX := HX_
                clear HX_
                have HO36 := Lib.hid ho
                clear ho
                clear hx
                obtain ⟨b15, hb15⟩ : ∃ b15, b15 = v15.alloc (.cells #[.slice a36 H c36] 26) := ⟨_, rfl⟩
                have hxb : v15.Ext b15 := by rw [hb15]; repeat (first | exact World.Ext.refl _ | exact ⟨_, rfl⟩ | assumption | refine World.Ext.over ?_ _ | refine World.Ext.drewN ?_ _ | refine World.Ext.drew ?_ | refine World.Ext.alloc ?_ _ | refine World.Ext.setCell ?_ (by simp) _)
                have e36_ : b15.cell? ⟨v15.heap.size, 0, none⟩ = some (.slice a36 H c36) := by rw [hb15]; simp [go_sem]
                have HALL_ : Hid (∀ w', b15.Ext w' → w'.cell? ⟨q5, 0, none⟩ = some (.slice (some ⟨rb_, ro, none⟩) H pc) ∧ RowS w' (some ⟨rb_, ro, none⟩) ss ∧ RowP w' sa SP ∧ w'.cell? ⟨q10, 0, none⟩ = some (.slice a10 H c10) ∧ RowS w' a10 (ss) ∧ w'.cell? ⟨q14, 0, none⟩ = some (.slice a14 H c14) ∧ RowS w' a14 (ss) ∧ w'.cell? ⟨q18, 0, none⟩ = some (.int .i64 lx) ∧ w'.cell? ⟨q18, 1, none⟩ = some (.int .i64 ly) ∧ w'.cell? ⟨q18 + 1, 0, none⟩ = some (.int .i64 mx) ∧ w'.cell? ⟨q18 + 1, 1, none⟩ = some (.int .i64 my) ∧ w'.cell? ⟨q34, 0, none⟩ = some (.slice a34 H c34) ∧ RowS w' a34 (shP dx dy ss) ∧ w'.cell? ⟨v15.heap.size, 0, none⟩ = some (.slice a36 H c36) ∧ RowS w' a36 (shP (-dx) (-dy) (shP dx dy ss)) ∧ True) := fun w' hx' => ⟨(HALL.out w' ((HX.out.trans hxb).trans hx')).1, (HALL.out w' ((HX.out.trans hxb).trans hx')).2.1, (HALL.out w' ((HX.out.trans hxb).trans hx')).2.2.1, (HALL.out w' ((HX.out.trans hxb).trans hx')).2.2.2.1, (HALL.out w' ((HX.out.trans hxb).trans hx')).2.2.2.2.1, (HALL.out w' ((HX.out.trans hxb).trans hx')).2.2.2.2.2.1, (HALL.out w' ((HX.out.trans hxb).trans hx')).2.2.2.2.2.2.1, (HALL.out w' ((HX.out.trans hxb).trans hx')).2.2.2.2.2.2.2.1, (HALL.out w' ((HX.out.trans hxb).trans hx')).2.2.2.2.2.2.2.2.1, (HALL.out w' ((HX.out.trans hxb).trans hx')).2.2.2.2.2.2.2.2.2.1, (HALL.out w' ((HX.out.trans hxb).trans hx')).2.2.2.2.2.2.2.2.2.2.1, (HALL.out w' ((HX.out.trans hxb).trans hx')).2.2.2.2.2.2.2.2.2.2.2.1, (HALL.out w' ((HX.out.trans hxb).trans hx')).2.2.2.2.2.2.2.2.2.2.2.2.1, hx'.cell e36_, RowOf.ext HO36.out (hxb.trans hx'), trivial⟩
                have HWB_ := Lib.hid (HWB.out.trans (HX.out.trans hxb))
                have HX_ : Hid (b15.Ext b15) := .refl _
                clear hxb e36_ HWB HX HALL
                have HALL := HALL_
                have HWB := HWB_
                have HX := HX_
                clear HALL_ HWB_ HX_
                clear HO36
                go_upto_region 51 with fail
                rw [← hb15]
                clear hb15
                generalize v15.heap.size = q36 at *
                go_wp2_with fail
                refine (HA2.out b15 (HWB.out.trans HX.out) _).mono ?_
                rintro e v16 ⟨r1, rfl, hx, r10, r11⟩
                have HX_ := Lib.hid (HX.out.trans hx)
                clear HX
                have HX := HX_
                clear HX_
                obtain ⟨x, rfl⟩ : ∃ x : Nat, r1 = x := ⟨r1.toNat, by omega⟩
                have hxW : x < W := by omega
                have wr5 : IntKind.i64.wrap ((W : Int) - x) = (W : Int) - x := IntWalk.i64_in _ (by omega)
                have wr6 : IntKind.i64.wrap ((x : Int) - dx) = (x : Int) - dx := IntWalk.i64_in _ (by omega)
                clear r10 r11
                clear hx
                go_wp2_with fail
                refine (HA3.out v16 (HWB.out.trans HX.out) _).mono ?_
                rintro e v17 ⟨r1, rfl, hx, r10, r11⟩
                have HX_ := Lib.hid (HX.out.trans hx)
                clear HX
                have HX := HX_
                clear HX_
                obtain ⟨y, rfl⟩ : ∃ y : Nat, r1 = y := ⟨r1.toNat, by omega⟩
                have hyH : y < H := by omega
                have wr7 : IntKind.i64.wrap ((H : Int) - y) = (H : Int) - y := IntWalk.i64_in _ (by omega)
                have wr8 : IntKind.i64.wrap ((y : Int) - dy) = (y : Int) - dy := IntWalk.i64_in _ (by omega)
                clear r10 r11
                clear hx
                have c5 := (HALL.out v17 HX.out).1
                have lc5 := World.block_lt_of_cell? _ _ c5
                go_wp2_with fail
                refine (HC.out.cr v17 x y hxW hyH (HALL.out v17 HX.out).2.1).mono ?_
                rintro e v18 ⟨a40, c40, rfl, hx, ho⟩
                clear lc5 c5
                have HX_ := Lib.hid (HX.out.trans hx)
                clear HX
                have HX := HX_
                clear HX_
                have HO40 := Lib.hid ho
                clear ho
                clear hx
                obtain ⟨b18, hb18⟩ : ∃ b18, b18 = v18.alloc (.cells #[.slice a40 (H - y) c40] 26) := ⟨_, rfl⟩
                have hxb : v18.Ext b18 := by rw [hb18]; repeat (first | exact World.Ext.refl _ | exact ⟨_, rfl⟩ | assumption | refine World.Ext.over ?_ _ | refine World.Ext.drewN ?_ _ | refine World.Ext.drew ?_ | refine World.Ext.alloc ?_ _ | refine World.Ext.setCell ?_ (by simp) _)
                have e40_ : b18.cell? ⟨v18.heap.size, 0, none⟩ = some (.slice a40 (H - y) c40) := by rw [hb18]; simp [go_sem]
                have HALL_ : Hid (∀ w', b18.Ext w' → w'.cell? ⟨q5, 0, none⟩ = some (.slice (some ⟨rb_, ro, none⟩) H pc) ∧ RowS w' (some ⟨rb_, ro, none⟩) ss ∧ RowP w' sa SP ∧ w'.cell? ⟨q10, 0, none⟩ = some (.slice a10 H c10) ∧ RowS w' a10 (ss) ∧ w'.cell? ⟨q14, 0, none⟩ = some (.slice a14 H c14) ∧ RowS w' a14 (ss) ∧ w'.cell? ⟨q18, 0, none⟩ = some (.int .i64 lx) ∧ w'.cell? ⟨q18, 1, none⟩ = some (.int .i64 ly) ∧ w'.cell? ⟨q18 + 1, 0, none⟩ = some (.int .i64 mx) ∧ w'.cell? ⟨q18 + 1, 1, none⟩ = some (.int .i64 my) ∧ w'.cell? ⟨q34, 0, none⟩ = some (.slice a34 H c34) ∧ RowS w' a34 (shP dx dy ss) ∧ w'.cell? ⟨q36, 0, none⟩ = some (.slice a36 H c36) ∧ RowS w' a36 (shP (-dx) (-dy) (shP dx dy ss)) ∧ w'.cell? ⟨v18.heap.size, 0, none⟩ = some (.slice a40 (H - y) c40) ∧ RowS w' a40 (crP x y (W - x) (H - y) ss) ∧ True) := fun w' hx' => ⟨(HALL.out w' ((HX.out.trans hxb).trans hx')).1, (HALL.out w' ((HX.out.trans hxb).trans hx')).2.1, (HALL.out w' ((HX.out.trans hxb).trans hx')).2.2.1, (HALL.out w' ((HX.out.trans hxb).trans hx')).2.2.2.1, (HALL.out w' ((HX.out.trans hxb).trans hx')).2.2.2.2.1, (HALL.out w' ((HX.out.trans hxb).trans hx')).2.2.2.2.2.1, (HALL.out w' ((HX.out.trans hxb).trans hx')).2.2.2.2.2.2.1, (HALL.out w' ((HX.out.trans hxb).trans hx')).2.2.2.2.2.2.2.1, (HALL.out w' ((HX.out.trans hxb).trans hx')).2.2.2.2.2.2.2.2.1, (HALL.out w' ((HX.out.trans hxb).trans hx')).2.2.2.2.2.2.2.2.2.1, (HALL.out w' ((HX.out.trans hxb).trans hx')).2.2.2.2.2.2.2.2.2.2.1, (HALL.out w' ((HX.out.trans hxb).trans hx')).2.2.2.2.2.2.2.2.2.2.2.1, (HALL.out w' ((HX.out.trans hxb).trans hx')).2.2.2.2.2.2.2.2.2.2.2.2.1, (HALL.out w' ((HX.out.trans hxb).trans hx')).2.2.2.2.2.2.2.2.2.2.2.2.2.1, (HALL.out w' ((HX.out.trans hxb).trans hx')).2.2.2.2.2.2.2.2.2.2.2.2.2.2.1, hx'.cell e40_, RowOf.ext HO40.out (hxb.trans hx'), trivial⟩
                have HWB_ := Lib.hid (HWB.out.trans (HX.out.trans hxb))
                have HX_ : Hid (b18.Ext b18) := .refl _
                clear hxb e40_ HWB HX HALL
                have HALL := HALL_
                have HWB := HWB_
                have HX := HX_
                clear HALL_ HWB_ HX_
                clear HO40
                obtain ⟨Hy, eHy⟩ : ∃ Hy, Hy = H - y := ⟨_, rfl⟩
                obtain ⟨CR, eCR⟩ : ∃ CR, CR = crP x y (W - x) (H - y) ss := ⟨_, rfl⟩
                go_upto_region 54 with fail
                rw [← hb18]
                clear hb18
                generalize v18.heap.size = q40 at *
                have c5 := (HALL.out b18 HX.out).1
                have lc5 := World.block_lt_of_cell? _ _ c5
                have e34 := (HALL.out b18 HX.out).2.2.2.2.2.2.2.2.2.2.2.1
                have le34 := World.block_lt_of_cell? _ _ e34
                have e36 := (HALL.out b18 HX.out).2.2.2.2.2.2.2.2.2.2.2.2.2.1
                have le36 := World.block_lt_of_cell? _ _ e36
                have e40 := (HALL.out b18 HX.out).2.2.2.2.2.2.2.2.2.2.2.2.2.2.2.1
                have le40 := World.block_lt_of_cell? _ _ e40
                have HR5 := Lib.hid ((HALL.out b18 HX.out).2.1)
                have HR34 := Lib.hid ((HALL.out b18 HX.out).2.2.2.2.2.2.2.2.2.2.2.2.1)
                have HR36 := Lib.hid ((HALL.out b18 HX.out).2.2.2.2.2.2.2.2.2.2.2.2.2.2.1)
                have HR40 := Lib.hid ((HALL.out b18 HX.out).2.2.2.2.2.2.2.2.2.2.2.2.2.2.2.2.1)
                obtain ⟨tA, htA⟩ : ∃ t, t = pxl W H l x y := ⟨_, rfl⟩
                obtain ⟨tB, htB⟩ : ∃ t, t = pxl W H l ((x : Int) - dx) ((y : Int) - dy) := ⟨_, rfl⟩
                have HIN : Hid (∀ w', b18.Ext w' → Calls Tryd.prog 19 #[.agg #[.slice a36 H c36], .agg #[.slice (some ⟨rb_, ro, none⟩) H pc]] w' fun e w'' => e = .returned (.bool true) ∧ w'.Ext w'') := fun w' hx => HC.out.ins w' dx dy a36 c36 (RowOf.ext HR36.out hx) (RowOf.ext HR5.out hx)
                have HB0 : Hid (∀ w', b18.Ext w' → Calls Tryd.prog 14 #[.agg #[.slice (some ⟨rb_, ro, none⟩) H pc], .int .i64 x, .int .i64 y] w' fun e w'' => e = .returned (.bool tA) ∧ w'.Ext w'') := fun w' hx => by rw [htA]; exact HC.out.bk w' x y (RowOf.ext HR5.out hx)
                have HB1 : Hid (∀ w', b18.Ext w' → Calls Tryd.prog 14 #[.agg #[.slice a40 (H - y) c40], .int .i64 0, .int .i64 0] w' fun e w'' => e = .returned (.bool tA) ∧ w'.Ext w'') := fun w' hx => by rw [htA]; exact HC.out.b1 w' x y a40 c40 hxW hyH (RowOf.ext HR40.out hx)
                have HB2 : Hid (∀ w', b18.Ext w' → Calls Tryd.prog 14 #[.agg #[.slice a34 H c34], .int .i64 x, .int .i64 y] w' fun e w'' => e = .returned (.bool tB) ∧ w'.Ext w'') := fun w' hx => by rw [htB]; exact HC.out.b2 w' dx dy x y a34 c34 hxW hyH (RowOf.ext HR34.out hx)
                have HB3 : Hid (∀ w', b18.Ext w' → Calls Tryd.prog 14 #[.agg #[.slice (some ⟨rb_, ro, none⟩) H pc], .int .i64 ((x : Int) - dx), .int .i64 ((y : Int) - dy)] w' fun e w'' => e = .returned (.bool tB) ∧ w'.Ext w'') := fun w' hx => by rw [htB]; exact HC.out.bk w' _ _ (RowOf.ext HR5.out hx)
                have HXE := Lib.hid (HWB.out.trans HX.out)
                clear HR5 HR34 HR36 HR40 eHy eCR
                clear htA htB
                have hAA : (tA == tA) = true := by simp
                have hBB : (tB == tB) = true := by simp
                refine wp_region_over_lit (by kernel_rfl) (by kernel_rfl) ?_
                iterate 10 (go_big_quiet_step (fail))
                go_big_quiet_step ((go_at_call 19; go_loud (exact Calls.over_of (HIN.out _ ⟨_, rfl⟩))))
                iterate 3 (go_big_quiet_step (fail))
                go_big_quiet_step ((go_at_call 14; go_loud (exact Calls.over_of (HB1.out _ ⟨_, rfl⟩))))
                iterate 3 (go_big_quiet_step (fail))
                go_big_quiet_step ((go_at_call 14; go_loud (exact Calls.over_of (HB0.out _ ⟨_, rfl⟩))))
                iterate 6 (go_big_quiet_step (fail))
                go_big_quiet_step ((go_at_call 14; go_loud (exact Calls.over_of (HB2.out _ ⟨_, rfl⟩))))
                iterate 7 (go_big_quiet_step (fail))
                go_big_quiet_step ((go_at_call 14; go_loud (exact Calls.over_of (HB3.out _ ⟨_, rfl⟩))))
                (repeat (go_big_quiet_step (fail)))
                refine wpQuiet_nil ?_
                rintro _ ⟨x1, rfl⟩
                go_wp2
                go_ret
                exact ⟨by simp, HXE.out.trans (⟨x1, rfl⟩ : b18.Ext (b18.over x1))⟩
end Go.Proofs.YtelaoimcaidoiaaDoor
