/- FnTrees' walk. -/
import Derived.Test.YtkpgelhmeokemaaTreeJ
import Derived.Test.YtkpgelhmeokemaaTrS
import Derived.Test.YtkpgelhmeokemaaTrR
import Derived.Test.YtkpgelhmeokemaaShfF
import Derived.Test.YtkpgelhmeokemaaGenQ
namespace Go.Proofs.Ytkpgelhmeokemaa
open Go Go.RowKit
/-- The counts, written in place. -/
structure TrSt (v : World) (g m : Nat) (C : Nat → Nat → Nat) (wr : World) : Prop where
  x : v.Ext wr
  lo : v.heap.size ≤ g
  l : ∃ l, PtI m l C ∧ BlkOf (Value.int .i64) wr g 2 l
theorem TrSt.ext {v : World} {g m : Nat} {C : Nat → Nat → Nat} {wr w' : World} (h : TrSt v g m C wr) (hx : wr.Ext w') : TrSt v g m C w' := ⟨h.x.trans hx, h.lo, let ⟨l, h1, h2⟩ := h.l; ⟨l, h1, h2.ext hx⟩⟩
theorem TrSt.congr {v : World} {g m : Nat} {C D : Nat → Nat → Nat} {wr : World} (h : TrSt v g m C wr) (e : ∀ i j, i < m → j < m → C i j = D i j) : TrSt v g m D wr := ⟨h.x, h.lo, let ⟨l, h1, h2⟩ := h.l; ⟨l, h1.congr e, h2⟩⟩
theorem TrSt.at {v : World} {g m : Nat} {C : Nat → Nat → Nat} {wr : World} (h : TrSt v g m C wr) {i j : Nat} (hi : i < m) (hj : j < m) :
    wr.cell? ⟨g, j * m + i, none⟩ = some (.int .i64 (C i j : Int)) ∧ wr.frozen? ⟨g, j * m + i, none⟩ = false ∧ TrSt v g m (fun a b => C a b + if a = i ∧ b = j then 1 else 0) (wr.setCell ⟨g, j * m + i, none⟩ (.int .i64 ((C i j : Int) + 1))) := by
  obtain ⟨l, h1, h2⟩ := h.l
  have hk : j * m + i < l.length := by rw [h1.1]; exact idx2 hi hj
  refine ⟨by rw [h2.cell 0 hk, h1.2 i j hi hj], h2.free _, h.x.setCell (p := ⟨g, j * m + i, none⟩) h.lo _, h.lo, _, h1.inc hi hj, h2.set _ _⟩
theorem idx_parts {m k : Nat} (hm : 1 ≤ m) (hk : k < m * m) : ∃ i j, i < m ∧ j < m ∧ k = j * m + i :=
  ⟨k % m, k / m, Nat.mod_lt _ (by omega), Nat.div_lt_of_lt_mul hk, by have := Nat.div_add_mod k m; rw [Nat.mul_comm] at this; omega⟩
theorem nat_of_beq {a b : Nat} (h : ((a : Int) == (b : Int)) = true) : b = a := by have := eq_of_beq h; omega
theorem mod_of_beq {x m : Nat} (h : ((x : Int) % (2 * (m : Int)) == 0) = true) : x % (2 * m) = 0 := by
  have h := eq_of_beq h
  have e : ((x % (2 * m) : Nat) : Int) = (x : Int) % (2 * (m : Int)) := by rw [Int.natCast_emod]; rfl
  rw [h] at e
  omega
theorem b2n_of_beq {a b : Bool} (h : (((b2n a : Nat) : Int) == ((b2n b : Nat) : Int)) = true) : b = a := by cases a <;> cases b <;> first | rfl | cases h
set_option maxRecDepth 10000 in
set_option maxHeartbeats 16000000 in
theorem fnTrees_any (a : Option Addr) (c : Nat) (zs : List Int) (a2 : Option Addr) (c2 : Nat) (ys : List Int) (w : World) (h : CodeAt w a zs) (h2 : CodeAt w a2 ys) :
    Calls Try.prog 3 #[.slice a zs.length c, .slice a2 ys.length c2] w fun e w' => e = .returned (.bool true) ∧ w.Ext w' := by
  obtain ⟨i0, hi, hz0, hz1, hz2⟩ := info_parts Try.infoI64
  have HLO := Lib.hid (longR_any a zs.length c a2 ys.length c2 w h.2.2 h2.2.2)
  have HP := Lib.hid (fun w' (hx : w.Ext w') => r8Square_any a c zs w' (h.ext hx))
  clear h h2
  go_enter Try.func3, Try.ntmps3
  have HWB : Hid (w.Ext w) := .refl _
  have HX : Hid (w.Ext w) := .refl _
  go_wp2_with fail
  refine (HLO.out).mono ?_
  rintro e v1 ⟨t, rfl, hx, -⟩
  have HX_ := Lib.hid (HX.out.trans hx)
  clear HX
  have HX := HX_
  clear HX_
  clear hx
  cases t
  rotate_left
  · go_wp2
    go_ret
    exact ⟨rfl, HX.out⟩
  go_wp2_with fail
  refine (HP.out v1 (HWB.out.trans HX.out)).mono ?_
  rintro e v2 ⟨pa, pc, ss, rfl, hpic, hx, hrow⟩
  have HX_ := Lib.hid (HX.out.trans hx)
  clear HX
  have HX := HX_
  clear HX_
  obtain ⟨n, hn4, hsq⟩ := hpic
  obtain ⟨m, hm⟩ : ∃ m, m = 2 ^ n := ⟨_, rfl⟩
  rw [← hm] at hsq
  have hm16 : m ≤ 16 := by rw [hm]; exact Nat.pow_le_pow_right (by decide) hn4
  have hm1 : 1 ≤ m := by rw [hm]; exact Nat.two_pow_pos n
  rw [hsq.2.1]
  have HM : Hid (m = 2 ^ n) := hm
  have HPIC := Lib.hid hsq
  have HROW := Lib.hid hrow.row
  clear hsq hrow hm HP
  clear hx
  obtain ⟨b2, hb2⟩ : ∃ b2, b2 = v2.alloc (.cells #[.slice pa m pc] 26) := ⟨_, rfl⟩
  have hxb : v2.Ext b2 := by rw [hb2]; repeat (first | exact World.Ext.refl _ | exact ⟨_, rfl⟩ | assumption | refine World.Ext.over ?_ _ | refine World.Ext.drewN ?_ _ | refine World.Ext.drew ?_ | refine World.Ext.alloc ?_ _ | refine World.Ext.setCell ?_ (by simp) _)
  have c5_ : b2.cell? ⟨v2.heap.size, 0, none⟩ = some (.slice pa m pc) := by rw [hb2]; simp [go_sem]
  have HALL_ : Hid (∀ w', b2.Ext w' → w'.cell? ⟨v2.heap.size, 0, none⟩ = some (.slice pa m pc) ∧ RowS w' pa ss ∧ True) := fun w' hx' => ⟨hx'.cell c5_, RowOf.ext HROW.out (hxb.trans hx'), trivial⟩
  have HWB_ := Lib.hid (HWB.out.trans (HX.out.trans hxb))
  have HX_ : Hid (b2.Ext b2) := .refl _
  clear hxb c5_ HWB HX
  have HALL := HALL_
  have HWB := HWB_
  have HX := HX_
  clear HALL_ HWB_ HX_
  clear HROW
  obtain ⟨f, hf⟩ : ∃ f : Nat → Nat → Bool, f = fun i j => (picL ss).getD (j * m + i) false := ⟨_, rfl⟩
  have HF : Hid (∀ i j, i < m → j < m → (picL ss).getD (j * m + i) false = f i j) := fun i j _ _ => by rw [hf]
  have HTA := Lib.hid (fun w' (h : RowS w' pa ss) => treeOf_m pa pc ss n m f w' HM.out hn4 HPIC.out HF.out h)
  have HOP : Hid (opn (m : Int) (txG n f) = some (n, qtr f n 0 0)) := opn_m HM.out hn4 f
  have hll : (picL ss).length = m * m := by rw [picL_len (picOk_spec HPIC.out.1).2.2.2.2.1, HPIC.out.2.1, HPIC.out.2.2]
  have HPO : Hid (∀ w', Calls Try.prog 9 #[.agg #[.int .i64 m, .string (txG n f)]] w' (PicRet2 w' ss true)) := fun w' => by
    have h := pictureOf_any m (txG n f) n _ w' (txG_ok hn4 f) HOP.out
    rw [← HM.out, mkl_eq (f := fun i j => (qtr f n 0 0).on n 0 0 i j) (g := f) fun i j h1 h2 => qtr_at f (by rw [← HM.out]; exact h1) (by rw [← HM.out]; exact h2), ← PtL.mk hm1 ⟨hll, HF.out⟩] at h
    have hs := pic_self HPIC.out.1
    rw [HPIC.out.2.1, HPIC.out.2.2] at hs
    rw [hs] at h
    exact h
  have HLV := Lib.hid (fun w' => leaves_m n m f w' HM.out hn4)
  have HBA : Hid (∀ w', Calls Try.prog 11 #[.agg #[.int .i64 m, .string (txG n f)]] w' fun e w'' => e = .returned (.tuple #[.int .i64 (arL ((qtr f n 0 0).lvs n 0 0 ⟨#[]⟩) : Nat), .bool true]) ∧ w'.Ext w'') := fun w' => by
    have h := blackArea_any m (txG n f) n _ w' (txG_ok hn4 f) HOP.out
    rw [← HM.out, mkl_eq (f := fun i j => (qtr f n 0 0).on n 0 0 i j) (g := f) fun i j h1 h2 => qtr_at f (by rw [← HM.out]; exact h1) (by rw [← HM.out]; exact h2), area_eq, ← (lvOk HM.out hn4 f).area] at h
    exact h
  have HVT : Hid (∀ w', Calls Try.prog 12 #[.agg #[.int .i64 m, .string (txG n f)]] w' fun e w'' => e = .returned (.bool true) ∧ w'.Ext w'') := fun w' => by
    have h := validTree_any m (txG n f) w' (txG_ok hn4 f)
    rw [HOP.out] at h
    exact h
  have HSM : Hid (∀ w' a1 c1, RowS w' a1 ss → RowS w' pa ss → Calls Try.prog 13 #[.agg #[.slice a1 m c1], .agg #[.slice pa m pc]] w' fun e w'' => e = .returned (.bool true) ∧ w'.Ext w'') := fun w' a1 c1 h1 h2 => by
    have h := r8Same_any a1 pa c1 pc ss ss w' (by rw [HPIC.out.2.1]; omega) h1 h2
    rw [decide_eq_true rfl, HPIC.out.2.1] at h
    exact h
  have HLK := Lib.hid (lvOk HM.out hn4 f)
  have HPX : Hid (∀ i j, i < m → j < m → ∃ hs : i < (ss.getD j ByteArray.empty).size, ((((ss.getD j ByteArray.empty)[i]'hs).toNat : Int) == 35) = f i j) := fun i j h1 h2 => by
    obtain ⟨v1, v2, v3, v4, v5, -⟩ := picOk_spec HPIC.out.1
    have hs : i < (ss.getD j ByteArray.empty).size := by rw [v5.2 j (by rw [HPIC.out.2.1]; exact h2), HPIC.out.2.2]; exact h1
    refine ⟨hs, ?_⟩
    have h := byte_eq (ss.getD j ByteArray.empty) i hs 35
    have h : ((((ss.getD j ByteArray.empty)[i]'hs).toNat : Int) == 35) = ((ss.getD j ByteArray.empty).data.toList.getD i 0 == 35) := h
    rw [h, ← HF.out i j h1 h2, ← picL_at v5 i j (by rw [HPIC.out.2.2]; exact h1) (by rw [HPIC.out.2.1]; exact h2), HPIC.out.2.2]
  have HSL : Hid (ss.length = m) := HPIC.out.2.1
  clear hf HF HPIC HM HOP hll
  generalize (qtr f n 0 0).lvs n 0 0 ⟨#[]⟩ = ls at *
  generalize txG n f = tA at *
  go_upto_region 4 with fail
  rw [← hb2]
  clear hb2
  generalize v2.heap.size = q5 at *
  have c5 := (HALL.out b2 HX.out).1
  have lc5 := World.block_lt_of_cell? _ _ c5
  go_wp2_with fail
  refine (HTA.out b2 (HALL.out b2 HX.out).2.1).mono ?_
  rintro e v3 ⟨rfl, hx⟩
  clear lc5 c5
  have HX_ := Lib.hid (HX.out.trans hx)
  clear HX
  have HX := HX_
  clear HX_
  clear HTA
  clear hx
  obtain ⟨b3, hb3⟩ : ∃ b3, b3 = v3.alloc (.cells #[.int .i64 m, .string tA] 29) := ⟨_, rfl⟩
  have hxb : v3.Ext b3 := by rw [hb3]; repeat (first | exact World.Ext.refl _ | exact ⟨_, rfl⟩ | assumption | refine World.Ext.over ?_ _ | refine World.Ext.drewN ?_ _ | refine World.Ext.drew ?_ | refine World.Ext.alloc ?_ _ | refine World.Ext.setCell ?_ (by simp) _)
  have c7a_ : b3.cell? ⟨v3.heap.size, 0, none⟩ = some (.int .i64 m) := by rw [hb3]; simp [go_sem]
  have c7b_ : b3.cell? ⟨v3.heap.size, 1, none⟩ = some (.string tA) := by rw [hb3]; simp [go_sem]
  have HALL_ : Hid (∀ w', b3.Ext w' → w'.cell? ⟨q5, 0, none⟩ = some (.slice pa m pc) ∧ RowS w' pa ss ∧ w'.cell? ⟨v3.heap.size, 0, none⟩ = some (.int .i64 m) ∧ w'.cell? ⟨v3.heap.size, 1, none⟩ = some (.string tA) ∧ True) := fun w' hx' => ⟨(HALL.out w' ((HX.out.trans hxb).trans hx')).1, (HALL.out w' ((HX.out.trans hxb).trans hx')).2.1, hx'.cell c7a_, hx'.cell c7b_, trivial⟩
  have HWB_ := Lib.hid (HWB.out.trans (HX.out.trans hxb))
  have HX_ : Hid (b3.Ext b3) := .refl _
  clear hxb c7a_ c7b_ HWB HX HALL
  have HALL := HALL_
  have HWB := HWB_
  have HX := HX_
  clear HALL_ HWB_ HX_
  go_upto_region 6 with fail
  rw [← hb3]
  clear hb3
  generalize v3.heap.size = q7 at *
  have c7a := (HALL.out b3 HX.out).2.2.1
  have lc7a := World.block_lt_of_cell? _ _ c7a
  have c7b := (HALL.out b3 HX.out).2.2.2.1
  have lc7b := World.block_lt_of_cell? _ _ c7b
  go_wp2_with fail
  refine (HPO.out b3).mono ?_
  rintro e v4 ⟨pk, ck, rfl, hx, ho⟩
  clear lc7a c7a lc7b c7b
  have HX_ := Lib.hid (HX.out.trans hx)
  clear HX
  have HX := HX_
  clear HX_
  rw [HSL.out]
  have HO := Lib.hid ho.row
  clear ho HPO
  clear hx
  obtain ⟨b4, hb4⟩ : ∃ b4, b4 = v4.alloc (.cells #[.slice pk m ck] 26) := ⟨_, rfl⟩
  have hxb : v4.Ext b4 := by rw [hb4]; repeat (first | exact World.Ext.refl _ | exact ⟨_, rfl⟩ | assumption | refine World.Ext.over ?_ _ | refine World.Ext.drewN ?_ _ | refine World.Ext.drew ?_ | refine World.Ext.alloc ?_ _ | refine World.Ext.setCell ?_ (by simp) _)
  have c9_ : b4.cell? ⟨v4.heap.size, 0, none⟩ = some (.slice pk m ck) := by rw [hb4]; simp [go_sem]
  have HALL_ : Hid (∀ w', b4.Ext w' → w'.cell? ⟨q5, 0, none⟩ = some (.slice pa m pc) ∧ RowS w' pa ss ∧ w'.cell? ⟨q7, 0, none⟩ = some (.int .i64 m) ∧ w'.cell? ⟨q7, 1, none⟩ = some (.string tA) ∧ w'.cell? ⟨v4.heap.size, 0, none⟩ = some (.slice pk m ck) ∧ RowS w' pk ss ∧ True) := fun w' hx' => ⟨(HALL.out w' ((HX.out.trans hxb).trans hx')).1, (HALL.out w' ((HX.out.trans hxb).trans hx')).2.1, (HALL.out w' ((HX.out.trans hxb).trans hx')).2.2.1, (HALL.out w' ((HX.out.trans hxb).trans hx')).2.2.2.1, hx'.cell c9_, RowOf.ext HO.out (hxb.trans hx'), trivial⟩
  have HWB_ := Lib.hid (HWB.out.trans (HX.out.trans hxb))
  have HX_ : Hid (b4.Ext b4) := .refl _
  clear hxb c9_ HWB HX HALL
  have HALL := HALL_
  have HWB := HWB_
  have HX := HX_
  clear HALL_ HWB_ HX_
  clear HO
  go_upto_region 7 with fail
  rw [← hb4]
  clear hb4
  generalize v4.heap.size = q9 at *
  have c7a := (HALL.out b4 HX.out).2.2.1
  have lc7a := World.block_lt_of_cell? _ _ c7a
  have c7b := (HALL.out b4 HX.out).2.2.2.1
  have lc7b := World.block_lt_of_cell? _ _ c7b
  go_wp2_with fail
  refine (HLV.out b4).mono ?_
  rintro e v5 ⟨la, lc, LA, LC, rfl, hx, hmat⟩
  clear lc7a c7a lc7b c7b
  have HX_ := Lib.hid (HX.out.trans hx)
  clear HX
  have HX := HX_
  clear HX_
  rw [lvM_len]
  have HML := Lib.hid hmat
  clear HLV hmat
  clear hx
  have c7a := (HALL.out v5 HX.out).2.2.1
  have lc7a := World.block_lt_of_cell? _ _ c7a
  have c7b := (HALL.out v5 HX.out).2.2.2.1
  have lc7b := World.block_lt_of_cell? _ _ c7b
  go_wp2_with fail
  refine (HBA.out v5).mono ?_
  rintro e v6 ⟨rfl, hx⟩
  clear lc7a c7a lc7b c7b
  have HX_ := Lib.hid (HX.out.trans hx)
  clear HX
  have HX := HX_
  clear HX_
  clear HBA
  have HML_ := Lib.hid (HML.out.ext hx)
  clear HML
  have HML := HML_
  clear HML_
  clear hx
  have c7a := (HALL.out v6 HX.out).2.2.1
  have lc7a := World.block_lt_of_cell? _ _ c7a
  have c7b := (HALL.out v6 HX.out).2.2.2.1
  have lc7b := World.block_lt_of_cell? _ _ c7b
  go_wp2_with fail
  refine (HVT.out v6).mono ?_
  rintro e v7 ⟨rfl, hx⟩
  clear lc7a c7a lc7b c7b
  have HX_ := Lib.hid (HX.out.trans hx)
  clear HX
  have HX := HX_
  clear HX_
  clear HVT
  have HML_ := Lib.hid (HML.out.ext hx)
  clear HML
  have HML := HML_
  clear HML_
  clear hx
  have c5 := (HALL.out v7 HX.out).1
  have lc5 := World.block_lt_of_cell? _ _ c5
  have c9 := (HALL.out v7 HX.out).2.2.2.2.1
  have lc9 := World.block_lt_of_cell? _ _ c9
  go_wp2_with fail
  refine (HSM.out v7 _ _ (HALL.out v7 HX.out).2.2.2.2.2.1 (HALL.out v7 HX.out).2.1).mono ?_
  rintro e v8 ⟨rfl, hx⟩
  clear lc5 c5 lc9 c9
  have HX_ := Lib.hid (HX.out.trans hx)
  clear HX
  have HX := HX_
  clear HX_
  clear HSM
  have HML_ := Lib.hid (HML.out.ext hx)
  clear HML
  have HML := HML_
  clear HML_
  clear hx
  obtain ⟨hlk1, hlk2⟩ := HLK.out.few
  obtain ⟨rb, ro, rfl, -⟩ := ((HALL.out v8 HX.out).2.1) 0 (show 0 < ss.length by rw [HSL.out]; omega)
  obtain ⟨lb, lo, rfl, -⟩ := (HML.out 0 (by rw [lvM_len]; omega)).1
  have HLF : Hid (∀ k f, ls[k]? = some f → ∃ bk ok ck, ∀ wr, v8.Ext wr → wr.cell? ⟨lb, lo + k, none⟩ = some (.slice (some ⟨bk, ok, none⟩) 4 ck) ∧ wr.cell? ⟨bk, ok, none⟩ = some (.int .i64 f.x) ∧ wr.cell? ⟨bk, ok + 1, none⟩ = some (.int .i64 f.y) ∧ wr.cell? ⟨bk, ok + 2, none⟩ = some (.int .i64 f.m) ∧ wr.cell? ⟨bk, ok + 3, none⟩ = some (.int .i64 (b2n f.b : Nat))) := fun k f hk => by
    have hkl := lt_of_at hk
    obtain ⟨⟨b1, o1, e1, hc1⟩, hr1⟩ := HML.out k (by rw [lvM_len]; exact hkl)
    cases e1
    have hrow : (lvM ls).getD k [] = lvR f := by
      unfold lvM
      rw [List.getD_eq_getElem?_getD, List.getElem?_map, hk]
      rfl
    rw [hrow] at hc1 hr1
    obtain ⟨bk, ok, hA, q0⟩ := hr1 0 (show 0 < 4 by decide)
    have qs : ∀ i, i < 4 → v8.cell? ⟨bk, ok + i, none⟩ = some (.int .i64 ((lvR f).getD i 0)) := fun i hi => by
      obtain ⟨b', o', e', q⟩ := hr1 i hi
      rw [hA] at e'
      cases e'
      exact q
    rw [hA] at hc1
    exact ⟨bk, ok, LC k, fun wr hx => ⟨hx.cell hc1, hx.cell (qs 0 (by decide)), hx.cell (qs 1 (by decide)), hx.cell (qs 2 (by decide)), hx.cell (qs 3 (by decide))⟩⟩
  have HPR : Hid (∀ wr j, v8.Ext wr → j < m → wr.cell? ⟨rb, ro + j, none⟩ = some (.string (ss.getD j ByteArray.empty))) := fun wr j hx hj => by
    obtain ⟨b1, o1, e1, hc1⟩ := ((HALL.out v8 HX.out).2.1) j (by rw [HSL.out]; exact hj)
    cases e1
    exact hx.cell hc1
  have HC5 := Lib.hid (fun wr (hx : v8.Ext wr) => hx.cell (HALL.out v8 HX.out).1)
  have HV := Lib.hid ((HWB.out.trans HX.out))
  obtain ⟨v, hv⟩ : ∃ v, v = v8 := ⟨_, rfl⟩
  rw [← hv] at HLF HPR HC5 HV ⊢
  clear hv HML HALL HX HWB
  obtain ⟨mm, hmm⟩ : ∃ mm, mm = m * m := ⟨_, rfl⟩
  have hmi : (m : Int) * (m : Int) = (mm : Int) := by rw [hmm, Int.natCast_mul]
  have hmm256 : mm ≤ 256 := by rw [hmm]; exact Nat.mul_le_mul hm16 hm16
  have HAL : Hid (arL ls ≤ mm) := by show _ ≤ _; rw [HLK.out.area, hmm]; exact sqC_le _ _ _ _
  have hal : arL ls ≤ 256 := Nat.le_trans HAL.out hmm256
  have C1 : Hid (i0.bytes * mm ≤ 281474976710656) := by show _ ≤ _; rw [hz2]; omega
  have C2 : Hid (mm ≤ maxLen) := by show _ ≤ _; unfold maxLen; omega
  have HMM := Lib.hid hmm
  have HMI := Lib.hid hmi
  clear hmm
  go_wp2_with (at_make; refine wpList_make_full _ rfl _ _ 41 rfl 0 2 i0 (.int .i64 0) 1 Try.underlying41 hi hz0 hz1 .i64 .i64 _ _ mm rfl rfl rfl rfl C1.out C2.out (Nat.zero_le _) (fun w3 hown hgrow => ?_); go_loud (have hS0 : TrSt v v.heap.size m (cvr (ls.take 0)) w3 := ⟨World.Ext.made hgrow, Nat.le_refl _, List.replicate mm 0, (by rw [HMM.out]; exact ptI_zero m), blk_of_made (f := Value.int .i64) 0 rfl hown⟩; have HS0 := Lib.hid hS0; clear hS0 hown hgrow))
  generalize v.heap.size = g at *
  clear C1 C2 hi hz0 hz1 hz2
  go_loopw [16, 17, 18, 19] (fun s i _ _ wr => ∃ k : Nat, k ≤ ls.length ∧ i = .int .i64 k ∧ s = .int .i64 (arL (ls.take k) : Nat) ∧ Hid (TrSt v g m (cvr (ls.take k)) wr)) (fun _ i _ _ _ => ls.length - (intOf i).toNat)
  case atStart => exact ⟨0, Nat.zero_le _, rfl, rfl, HS0⟩
  case round =>
    as_aux_lemma =>
    clear HS0
    obtain ⟨k, hk, rfl, rfl, HS⟩ := hrel
    obtain ⟨wo, rfl⟩ : ∃ wo : World, wo = wr := ⟨_, rfl⟩
    have hk0 : (0 : Int) ≤ (k : Int) := by omega
    by_cases hlt : k < ls.length
    · have hlt' : (k : Int) < (ls.length : Int) := by omega
      obtain ⟨F, hF⟩ : ∃ F, ls[k]? = some F := ⟨_, List.getElem?_eq_getElem hlt⟩
      have HFK := Lib.hid hF
      have hmem := List.mem_of_getElem? hF
      obtain ⟨n1, n2, n3⟩ := HLK.out.ins F hmem
      have HCOL := Lib.hid (HLK.out.col F hmem)
      have HAR := Lib.hid (arL_take hF)
      have hark := Nat.le_trans (arL_le ls (k + 1)) hal
      have hark0 := Nat.le_trans (arL_le ls k) hal
      have HCV := Lib.hid (fun i j => cvr_take hF i j)
      have HCB : Hid (∀ i j, i < m → j < m → cvr (ls.take k) i j ≤ 1) := fun i j h1 h2 => by
        rw [← HLK.out.one i j h1 h2]
        exact cvr_le ls k i j
      obtain ⟨bk, ok, ck, hrow⟩ := HLF.out k F hF
      have HRW := Lib.hid hrow
      clear hF hmem hrow
      generalize hCk : cvr (ls.take k) = C at *
      clear hCk
      obtain ⟨fx, fy, fm, fb, fp⟩ := F
      dsimp only at n1 n2 n3 HCOL HAR HRW
      have k1 : decide ((fm : Int) < 1) = false := decide_eq_false (by omega)
      have k2 : decide ((fx : Int) < 0) = false := decide_eq_false (by omega)
      have k3 : decide ((fy : Int) < 0) = false := decide_eq_false (by omega)
      have k4 : decide ((m : Int) < (fx : Int) + (fm : Int)) = false := decide_eq_false (by omega)
      have k5 : decide ((m : Int) < (fy : Int) + (fm : Int)) = false := decide_eq_false (by omega)
      obtain ⟨p0, r0, r1, r2, r3⟩ := HRW.out wo HS.out.x
      go_wp2_with fail
      refine wp_region_over_lit (by kernel_rfl) (by kernel_rfl) ?_; (repeat (go_big_quiet_step (fail))); refine wpQuiet_nil ?_; rintro _ ⟨x1, rfl⟩
      have HS1 := Lib.hid (HS.out.ext ⟨x1, rfl⟩)
      clear HS p0 r0 r1 r2 r3 k1 k2 k3 k4 k5
      generalize wo.over x1 = w1 at *
      obtain ⟨p0, r0, r1, r2, r3⟩ := HRW.out w1 HS1.out.x
      have HS2 : Hid (TrSt v g m (pcv ⟨fx, fy, fm, fb, fp⟩ 0 0 C) w1) := HS1.out.congr fun i j _ _ => (pcv_zero i j).symm
      clear HS1
      go_wp2
      clear p0 r0 r1 r2 r3
      go_loopw [18, 19] (fun y _ wr => ∃ b : Nat, b ≤ fm ∧ y = .int .i64 ((fy + b : Nat) : Int) ∧ Hid (TrSt v g m (pcv ⟨fx, fy, fm, fb, fp⟩ 0 b C) wr)) (fun y _ _ => fy + fm - (intOf y).toNat)
      case atStart => exact ⟨0, Nat.zero_le _, rfl, HS2⟩
      case round =>
        as_aux_lemma =>
        clear HS2
        obtain ⟨b, hb, rfl, HS⟩ := hrel
        obtain ⟨wb, rfl⟩ : ∃ wb : World, wb = wr := ⟨_, rfl⟩
        obtain ⟨p0, r0, r1, r2, r3⟩ := HRW.out wb HS.out.x
        by_cases hltb : b < fm
        · have k1 : decide (((fy + b : Nat) : Int) < (fy : Int) + (fm : Int)) = true := decide_eq_true (by omega)
          have k2 : ((fy + b : Nat) : Int) < (fy : Int) + (fm : Int) := by omega
          go_wp2_with fail
          refine wp_region_over_lit (by kernel_rfl) (by kernel_rfl) ?_; (repeat (go_big_quiet_step (fail))); refine wpQuiet_nil ?_; rintro _ ⟨x1, rfl⟩
          have HS1 := Lib.hid (HS.out.ext ⟨x1, rfl⟩)
          clear HS p0 r0 r1 r2 r3 k1
          generalize wb.over x1 = w1 at *
          obtain ⟨p0, r0, r1, r2, r3⟩ := HRW.out w1 HS1.out.x
          obtain ⟨jj, hjj⟩ : ∃ jj, jj = fy + b := ⟨_, rfl⟩
          have hjm : jj < m := by omega
          rw [← hjj] at k2 ⊢
          have HJJ := Lib.hid hjj
          clear hjj
          go_wp2
          clear p0 r0 r1 r2 r3
          go_loopw [19] (fun x wr => ∃ a : Nat, a ≤ fm ∧ x = .int .i64 ((fx + a : Nat) : Int) ∧ Hid (TrSt v g m (pcv ⟨fx, fy, fm, fb, fp⟩ a b C) wr)) (fun x _ => fx + fm - (intOf x).toNat)
          case atStart => exact ⟨0, Nat.zero_le _, rfl, HS1⟩
          case round =>
            as_aux_lemma =>
            clear HS1
            obtain ⟨a', ha, rfl, HS⟩ := hrel
            obtain ⟨wa, rfl⟩ : ∃ wa : World, wa = wr := ⟨_, rfl⟩
            obtain ⟨p0, r0, r1, r2, r3⟩ := HRW.out wa HS.out.x
            by_cases hlta : a' < fm
            · have k3 : decide (((fx + a' : Nat) : Int) < (fx : Int) + (fm : Int)) = true := decide_eq_true (by omega)
              have k4 : ((fx + a' : Nat) : Int) < (fx : Int) + (fm : Int) := by omega
              go_wp2_with fail
              refine wp_region_over_lit (by kernel_rfl) (by kernel_rfl) ?_; (repeat (go_big_quiet_step (fail))); refine wpQuiet_nil ?_; rintro _ ⟨x1, rfl⟩
              have HS1 := Lib.hid (HS.out.ext ⟨x1, rfl⟩)
              clear HS p0 r0 r1 r2 r3 k3
              generalize wa.over x1 = w2 at *
              obtain ⟨ii, hii⟩ : ∃ ii, ii = fx + a' := ⟨_, rfl⟩
              have him : ii < m := by omega
              rw [← hii] at k4 ⊢
              have HII := Lib.hid hii
              obtain ⟨q1, q2, q3⟩ := HS1.out.at him hjm
              have HS3 : Hid (TrSt v g m (pcv ⟨fx, fy, fm, fb, fp⟩ (a' + 1) b C) (w2.setCell ⟨g, jj * m + ii, none⟩ (.int .i64 ((pcv ⟨fx, fy, fm, fb, fp⟩ a' b C ii jj : Int) + 1)))) := q3.congr fun i j _ _ => by
                rw [pcv_next, HII.out, HJJ.out]
              have hcle := pcv_le (f := ⟨fx, fy, fm, fb, fp⟩) (a := a') (b := b) (C := C) ii jj
              have hcb := HCB.out ii jj him hjm
              have hcol : f ii jj = fb := HCOL.out ii jj (by omega) (by omega) (by rw [HJJ.out]; omega) (by rw [HJJ.out]; omega)
              have hlin0 : 0 ≤ (jj : Int) * (m : Int) := by rw [← Int.natCast_mul]; omega
              have hlin1 : (jj : Int) * (m : Int) + (ii : Int) < (mm : Int) := by
                have := idx2 him hjm
                rw [← Int.natCast_mul, HMM.out]
                omega
              clear q3 HS1 hii
              generalize pcv ⟨fx, fy, fm, fb, fp⟩ a' b C ii jj = cc at *
              have hcc : cc ≤ 2 := by omega
              go_upto_region 25 with fail
              generalize w2.setCell ⟨g, jj * m + ii, none⟩ (.int .i64 ((cc : Int) + 1)) = w3 at *
              obtain ⟨p0, r0, r1, r2, r3⟩ := HRW.out w3 HS3.out.x
              have c5 := HC5.out w3 HS3.out.x
              have cp := HPR.out w3 jj HS3.out.x hjm
              obtain ⟨hs, hbyte⟩ := HPX.out ii jj him hjm
              rw [hcol] at hbyte
              have hsl : (ii : Int) < ((ss.getD jj ByteArray.empty).size : Int) := by omega
              have hb1 : (((b2n fb : Nat) : Int) == 1) = fb := by cases fb <;> rfl
              clear hcol q1 q2
              generalize ss.getD jj ByteArray.empty = sj at *
              generalize (b2n fb : Nat) = bn at *
              refine wp_region_over_lit (by kernel_rfl) (by kernel_rfl) ?_; (repeat (go_big_quiet_step (fail))); refine wpQuiet_nil ?_; rintro _ ⟨x1, rfl⟩
              have HS4 := Lib.hid (HS3.out.ext ⟨x1, rfl⟩)
              clear HS3 p0 r0 r1 r2 r3 c5 cp hbyte hb1
              go_wp2
              go_roundw
              case rel => exact ⟨a' + 1, by omega, by rw [HII.out]; go_num, HS4⟩
              case measure => have h1 := HII.out; simp [intOf]; omega
            · have hae : a' = fm := by omega
              have k3 : decide (((fx + a' : Nat) : Int) < (fx : Int) + (fm : Int)) = false := decide_eq_false (by omega)
              have k4 : ¬ ((fx + a' : Nat) : Int) < (fx : Int) + (fm : Int) := by omega
              go_wp2_with fail
              refine wp_region_over_lit (by kernel_rfl) (by kernel_rfl) ?_; (repeat (go_big_quiet_step (fail))); refine wpQuiet_nil ?_; rintro _ ⟨x1, rfl⟩
              have HS1 : Hid (TrSt v g m (pcv ⟨fx, fy, fm, fb, fp⟩ 0 (b + 1) C) (wa.over x1)) := (HS.out.ext ⟨x1, rfl⟩).congr fun i j _ _ => by rw [hae]; exact pcv_row (f := ⟨fx, fy, fm, fb, fp⟩) i j
              clear HS p0 r0 r1 r2 r3 k3
              go_wp2
              go_roundw
              case rel => exact ⟨b + 1, by omega, by rw [HJJ.out]; go_num, HS1⟩
              case measure => have h1 := HJJ.out; simp [intOf]; omega
        · have hbe : b = fm := by omega
          have k1 : decide (((fy + b : Nat) : Int) < (fy : Int) + (fm : Int)) = false := decide_eq_false (by omega)
          have k2 : ¬ ((fy + b : Nat) : Int) < (fy : Int) + (fm : Int) := by omega
          go_wp2_with fail
          refine wp_region_over_lit (by kernel_rfl) (by kernel_rfl) ?_; (repeat (go_big_quiet_step (fail))); refine wpQuiet_nil ?_; rintro _ ⟨x1, rfl⟩
          have HS1 : Hid (TrSt v g m (cvr (ls.take (k + 1))) (wb.over x1)) := (HS.out.ext ⟨x1, rfl⟩).congr fun i j _ _ => by rw [hbe, HCV.out i j]; exact pcv_all (f := ⟨fx, fy, fm, fb, fp⟩) i j
          clear HS p0 r0 r1 r2 r3 k1 k2
          generalize wb.over x1 = w1 at *
          obtain ⟨p0, r0, r1, r2, r3⟩ := HRW.out w1 HS1.out.x
          have hb1 : (((b2n fb : Nat) : Int) == 1) = fb := by cases fb <;> rfl
          have hq0 : (0 : Int) ≤ (fm : Int) * (fm : Int) := by rw [← Int.natCast_mul]; omega
          have hq1 : (fm : Int) * (fm : Int) ≤ 256 := by
            have := Nat.mul_le_mul (show fm ≤ 16 by omega) (show fm ≤ 16 by omega)
            rw [← Int.natCast_mul]
            omega
          have hz2 : (2 : Int) * (fm : Int) ≠ 0 := by omega
          have hz3 : (0 : Int) < (2 : Int) * (fm : Int) := by omega
          go_upto_if 235 with fail
          go_cut [16] (fun z wc => z = .int .i64 (arL (ls.take (k + 1)) : Nat) ∧ Hid (TrSt v g m (cvr (ls.take (k + 1))) wc))
          case first =>
            as_aux_lemma =>
            cases fb
            · go_wp2_with fail
              go_meet
              exact ⟨by rw [HAR.out]; simp, HS1⟩
            · go_wp2_with fail
              refine wp_region_over_lit (by kernel_rfl) (by kernel_rfl) ?_; (repeat (go_big_quiet_step (fail))); refine wpQuiet_nil ?_; rintro _ ⟨x1, rfl⟩
              have HS5 := Lib.hid (HS1.out.ext ⟨x1, rfl⟩)
              clear p0 r0 r1 r2 r3 HS1
              go_wp2_with fail
              go_meet
              exact ⟨by rw [HAR.out]; simp, HS5⟩
          case rest =>
          as_aux_lemma =>
          obtain ⟨hz16, HS6⟩ := hcut
          clear p0 r0 r1 r2 r3 HS1 hb1 hq0 hq1
          subst hz16
          obtain ⟨p0, r0, r1, r2, r3⟩ := HRW.out wc HS6.out.x
          go_upto_region 29 with fail
          go_cut [385] (fun z wd => z = .bool false ∧ Hid (TrSt v g m (cvr (ls.take (k + 1))) wd))
          case first JJ KK hJJ hKK =>
            as_aux_lemma =>
            have HR29 := Lib.hid (show k + 3 < ls.length → ∃ f1m f2m f3m b1 o1 c1 b2 o2 c2 b3 o3 c3 f1b f2b f3b, Four wc lb lo ls.length k fx fy fm f1m f2m f3m bk ok ck b1 o1 c1 b2 o2 c2 b3 o3 c3 fb f1b f2b f3b from fun h3 => by
              obtain ⟨F1, hF1⟩ : ∃ F, ls[k + 1]? = some F := ⟨_, List.getElem?_eq_getElem (by omega)⟩
              obtain ⟨F2, hF2⟩ : ∃ F, ls[k + 2]? = some F := ⟨_, List.getElem?_eq_getElem (by omega)⟩
              obtain ⟨F3, hF3⟩ : ∃ F, ls[k + 3]? = some F := ⟨_, List.getElem?_eq_getElem (by omega)⟩
              obtain ⟨b1, o1, c1, hr1⟩ := HLF.out (k + 1) F1 hF1
              obtain ⟨b2, o2, c2, hr2⟩ := HLF.out (k + 2) F2 hF2
              obtain ⟨b3, o3, c3, hr3⟩ := HLF.out (k + 3) F3 hF3
              obtain ⟨u1, -, -, u2, u3⟩ := hr1 wc HS6.out.x
              obtain ⟨v1, -, -, v2, v3⟩ := hr2 wc HS6.out.x
              obtain ⟨t1, -, -, t2, t3⟩ := hr3 wc HS6.out.x
              exact ⟨F1.m, F2.m, F3.m, b1, o1, c1, b2, o2, c2, b3, o3, c3, F1.b, F2.b, F3.b, h3, by omega, ⟨by omega, by omega, by omega, by omega⟩, p0, r0, r1, r2, r3, u1, u2, u3, v1, v2, v3, t1, t2, t3, fun e1 e2 e3 e4 e5 e6 e7 e8 => quad_fails (HLK.out.quad k) HFK.out hF1 hF2 hF3 (nat_of_beq e1) (nat_of_beq e2) (nat_of_beq e3) (mod_of_beq e4) (mod_of_beq e5) (b2n_of_beq e6) (b2n_of_beq e7) (b2n_of_beq e8)⟩)
            clear p0 r0 r1 r2 r3
            simp only [List.append_eq, List.cons_append, List.nil_append]
            refine reg29 hlt (by omega) HR29.out ?_
            clear HR29
            intro x y251 y252 y253 y254 y255 y256 y257 y258 y259 y260 y261 y262 y263 y264 y265 y266 y267 y268 y269 y270 y271 y272 y273 y274 y275 y276 y277 y278 y279 y280 y281 y282 y283 y284 y285 y286 y287 y288 y289 y290 y291 y292 y293 y294 y295 y296 y297 y298 y299 y300 y301 y302 y303 y304 y305 y306 y307 y308 y309 y310 y311 y312 y313 y314 y315 y316 y317 y318 y319 y320 y321 y322 y323 y324 y325 y326 y327 y328 y329 y330 y331 y332 y333 y334 y335 y336 y337 y338 y339 y340 y341 y342 y343 y344 y345 y346 y347 y348 y349 y350 y351 y352 y353 y354 y355 y356 y357 y358 y359 y360 y361 y362 y363 y364 y365 y366 y367 y368 y369 y370 y371 y372 y373 y374 y375 y376 y377 y378 y379 y380 y381 y382 y383 y384
            refine hKK _ _ (Met.intro (hJJ _ _ ?_))
            repeat apply Exists.intro
            refine ⟨?rel, rfl⟩
            exact ⟨rfl, HS6.out.ext ⟨x, rfl⟩⟩
          case rest =>
          as_aux_lemma =>
          obtain ⟨hz385, HS9⟩ := hcut
          clear p0 r0 r1 r2 r3 HS6
          subst hz385
          go_wp2
          go_roundw
          case rel => exact ⟨k + 1, by omega, by go_num, rfl, HS9⟩
          case measure => simp [intOf]; omega
    · have hke : k = ls.length := by omega
      have hlt' : ¬ (k : Int) < (ls.length : Int) := by omega
      have HS1 : Hid (TrSt v g m (fun _ _ => 1) wo) := HS.out.congr fun i j h1 h2 => by rw [hke, List.take_length]; exact HLK.out.one i j h1 h2
      rw [hke, List.take_length]
      clear HS
      as_aux_lemma =>
      go_wp2
      go_loopw [20] (fun i wr => ∃ q : Nat, q ≤ mm ∧ i = .int .i64 q ∧ Hid (TrSt v g m (fun _ _ => 1) wr)) (fun i _ => mm - (intOf i).toNat)
      case atStart => exact ⟨0, Nat.zero_le _, rfl, HS1⟩
      case round =>
        clear HS1
        obtain ⟨q, hq, rfl, HS⟩ := hrel
        obtain ⟨wq, rfl⟩ : ∃ wq : World, wq = wr := ⟨_, rfl⟩
        have hq0 : (0 : Int) ≤ (q : Int) := by omega
        by_cases hltq : q < mm
        · have hltq' : (q : Int) < (mm : Int) := by omega
          obtain ⟨ci, cj, h1, h2, h3⟩ := idx_parts hm1 (show q < m * m by rw [← HMM.out]; exact hltq)
          obtain ⟨c0, -, -⟩ := HS.out.at h1 h2
          rw [← h3] at c0
          have c0 : wq.cell? ⟨g, q, none⟩ = some (.int .i64 1) := c0
          clear h1 h2 h3
          go_wp2
          go_roundw
          case rel => exact ⟨q + 1, by omega, by go_num, HS⟩
          case measure => simp [intOf]; omega
        · have hltq' : ¬ (q : Int) < (mm : Int) := by omega
          have HFIN : Hid (w.Ext wq) := HV.out.trans HS.out.x
          clear HS
          go_wp2
          go_ret
          exact ⟨by simp, HFIN.out⟩
end Go.Proofs.Ytkpgelhmeokemaa
