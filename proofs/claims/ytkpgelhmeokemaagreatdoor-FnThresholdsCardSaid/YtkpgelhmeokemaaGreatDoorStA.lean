/- Plain: pictures that are stacked. -/
import Derived.Test.YtkpgelhmeokemaaGreatDoorGrB
import Derived.Test.YtkpgelhmeokemaaGreatDoorLPs
import Derived.Test.YtkpgelhmeokemaaGreatDoorPtrAt
import Derived.Test.YtkpgelhmeokemaaGreatDoorRecP
import Derived.Deep.RegionHeld3
namespace Go.Proofs.YtkpgelhmeokemaaGreatDoor
open Go Go.RowKit
def likeAll (m : List (List ByteArray)) : Bool := (List.range m.length).all fun i => likeP (m.getD 0 []) (m.getD i [])
def stkOk (m : List (List ByteArray)) : Bool := decide (1 ≤ m.length) && decide (m.length ≤ 99) && likeAll m
theorem likeAll_true {m : List (List ByteArray)} : likeAll m = true ↔ ∀ i, i < m.length → likeP (m.getD 0 []) (m.getD i []) = true := by
  unfold likeAll
  rw [List.all_eq_true]
  exact ⟨fun h i hi => h i (List.mem_range.2 hi), fun h i hi => h i (List.mem_range.1 hi)⟩
theorem likeAll_false {m : List (List ByteArray)} {i : Nat} (hi : i < m.length) (h : likeP (m.getD 0 []) (m.getD i []) = false) : likeAll m = false := by
  cases e : likeAll m
  · rfl
  · rw [likeAll_true.1 e i hi] at h; cases h
theorem likeP_comm (ss tt : List ByteArray) : likeP ss tt = likeP tt ss := by
  unfold likeP
  rw [Bool.and_comm (picOk ss) (picOk tt)]
  have e1 : decide (picW ss = picW tt) = decide (picW tt = picW ss) := decide_eq_decide.2 eq_comm
  have e2 : decide (ss.length = tt.length) = decide (tt.length = ss.length) := decide_eq_decide.2 eq_comm
  rw [e1, e2]
/-- How many of the first j pictures are black at k. -/
def cntK (m : List (List ByteArray)) (k : Nat) : Nat → Nat
  | 0 => 0
  | j + 1 => cntK m k j + if (picL (m.getD j [])).getD k false then 1 else 0
theorem cntK_le (m : List (List ByteArray)) (k : Nat) : ∀ j, cntK m k j ≤ j
  | 0 => Nat.le_refl _
  | j + 1 => by have := cntK_le m k j; simp only [cntK]; split <;> omega
/-- The numbers when j pictures have been added, and of the next one the first k0 pixels. -/
def stkT (m : List (List ByteArray)) (n j k0 : Nat) : List Int := (List.range n).map fun k => ((cntK m k (if k < k0 then j + 1 else j) : Nat) : Int)
theorem stkT_len (m : List (List ByteArray)) (n j k0 : Nat) : (stkT m n j k0).length = n := by simp [stkT]
theorem stkT_at {m : List (List ByteArray)} {n j k0 k : Nat} (h : k < n) : (stkT m n j k0).getD k 0 = ((cntK m k (if k < k0 then j + 1 else j) : Nat) : Int) := by
  simp [stkT, List.getD_eq_getElem?_getD, h]
theorem stkT_set {m : List (List ByteArray)} {n j k0 : Nat} (h : k0 < n) : (stkT m n j k0).set k0 ((cntK m k0 (j + 1) : Nat) : Int) = stkT m n j (k0 + 1) := by
  apply List.ext_getElem?
  intro k
  rw [List.getElem?_set]
  by_cases e : k0 = k
  · subst e
    rw [if_pos rfl, if_pos (by rw [stkT_len]; exact h)]
    unfold stkT
    rw [List.getElem?_map, List.getElem?_range h]
    simp
  · rw [if_neg e]
    unfold stkT
    rw [List.getElem?_map, List.getElem?_map]
    by_cases hk : k < n
    · rw [List.getElem?_range hk]
      simp only [Option.map_some]
      have : (k < k0 + 1) ↔ (k < k0) := by omega
      simp only [this]
    · rw [List.getElem?_eq_none (by simp; omega)]; rfl
theorem stkT_keep {m : List (List ByteArray)} {n j k0 : Nat} (h : k0 < n) (hb : (picL (m.getD j [])).getD k0 false = false) : stkT m n j k0 = stkT m n j (k0 + 1) := by
  rw [← stkT_set h]
  apply List.ext_getElem?
  intro k
  rw [List.getElem?_set]
  by_cases e : k0 = k
  · subst e
    rw [if_pos rfl, if_pos (by rw [stkT_len]; exact h)]
    unfold stkT
    rw [List.getElem?_map, List.getElem?_range h]
    show some ((cntK m k0 (if k0 < k0 then j + 1 else j) : Nat) : Int) = some ((cntK m k0 (j + 1) : Nat) : Int)
    rw [if_neg (Nat.lt_irrefl _)]
    simp only [cntK, hb]
    rfl
  · rw [if_neg e]
theorem stkT_next {m : List (List ByteArray)} {n j : Nat} : stkT m n j n = stkT m n (j + 1) 0 := by
  unfold stkT
  apply List.map_congr_left
  intro k hk
  rw [if_pos (List.mem_range.1 hk), if_neg (by omega)]
theorem stkT_zero {m : List (List ByteArray)} {n : Nat} : stkT m n 0 0 = List.replicate n 0 := by
  apply List.ext_getElem?
  intro k
  unfold stkT
  rw [List.getElem?_map]
  by_cases hk : k < n
  · rw [List.getElem?_range hk, List.getElem?_replicate, if_pos hk]; simp [cntK]
  · rw [List.getElem?_eq_none (by simp; omega), List.getElem?_eq_none (by simp; omega)]; rfl
def stkG (m : List (List ByteArray)) : List (List Int) := grl (picW (m.getD 0 [])) (m.getD 0 []).length (stkT m ((m.getD 0 []).length * picW (m.getD 0 [])) m.length 0)
theorem stk_bnd (m : List (List ByteArray)) : MatBnd (optM (stkOk m) (stkG m)) ∧ offM (optM (stkOk m) (stkG m)) (optM (stkOk m) (stkG m)).length ≤ 1048576 := by
  cases h : stkOk m
  · exact ⟨⟨by simp [optM], fun r => by simp [optM]⟩, by simp [optM, offM]⟩
  · unfold stkOk at h
    rw [Bool.and_eq_true, Bool.and_eq_true, decide_eq_true_iff] at h
    obtain ⟨h1, -, -, -⟩ := likeP_true (likeAll_true.1 h.2 0 (by omega))
    obtain ⟨v1, v2, v3, v4, -, -⟩ := picOk_spec h1
    exact optM_bnd true _ _ _ (by omega) (by omega)
end Go.Proofs.YtkpgelhmeokemaaGreatDoor

/- StackPictures: the reference's. -/
namespace Go.Proofs.YtkpgelhmeokemaaGreatDoor
open Go Go.RowKit
structure StkD (m : List (List ByteArray)) (W H : Nat) : Prop where
  w1 : 1 ≤ W
  w2 : W ≤ 16
  h1 : 1 ≤ H
  h2 : H ≤ 16
  e : ∀ i, i < m.length → Even (m.getD i []) ∧ picW (m.getD i []) = W ∧ (m.getD i []).length = H ∧ (picL (m.getD i [])).length = H * W
theorem stkD_of {m : List (List ByteArray)} (hn : 1 ≤ m.length) (h : ∀ i, i < m.length → likeP (m.getD 0 []) (m.getD i []) = true) : StkD m (picW (m.getD 0 [])) (m.getD 0 []).length := by
  obtain ⟨h1, -, -, -⟩ := likeP_true (h 0 (by omega))
  obtain ⟨v1, v2, v3, v4, -, -⟩ := picOk_spec h1
  refine ⟨by omega, by omega, by omega, by omega, fun i hi => ?_⟩
  obtain ⟨-, q1, q2, q3⟩ := likeP_true (h i hi)
  obtain ⟨-, -, -, -, e1, -⟩ := picOk_spec q1
  refine ⟨e1, q2.symm, q3.symm, ?_⟩
  rw [picL_len e1, ← q2, ← q3]
/-- The numbers under way, and the result's cell. -/
structure StkN (w : World) (g : Nat) (l : List Int) (wr : World) : Prop where
  x : w.Ext wr
  lo : w.heap.size < g
  one : One wr w.heap.size 26 (.slice none 0 0)
  blk : BlkOf (Value.int .i64) wr g 2 l
theorem StkN.ext {w wr w' : World} {g : Nat} {l : List Int} (h : StkN w g l wr) (hx : wr.Ext w') : StkN w g l w' := ⟨h.x.trans hx, h.lo, h.one.ext hx, h.blk.ext hx⟩
theorem StkN.put {w wr : World} {g : Nat} {l l' : List Int} (h : StkN w g l wr) (k : Nat) (v : Int) (e : l.set k v = l') : StkN w g l' (wr.setCell ⟨g, k, none⟩ (.int .i64 v)) :=
  ⟨h.x.setCell (p := ⟨g, k, none⟩) (Nat.le_of_lt h.lo) _, h.lo, h.one.other (a := ⟨g, k, none⟩) (by have := h.lo; dsimp only; omega) _, e ▸ h.blk.set k v⟩
end Go.Proofs.YtkpgelhmeokemaaGreatDoor

/- The program's two images, told to be new. -/
namespace Go.Proofs.YtkpgelhmeokemaaGreatDoor
open Go.RowKit
def TwoNew (w : World) (ss _ : List ByteArray) (ok : Bool) (e : Ending) (w' : World) : Prop :=
  if ok then ∃ b ab v, e = .returned (.tuple #[.pointer (some ⟨b, 0, none⟩), .pointer v, .bool true]) ∧ w.Ext w' ∧ Img w' b ab (picW ss) ss.length (picL ss) ∧ w.heap.size ≤ b ∧ w.heap.size ≤ ab
  else ∃ u v, e = .returned (.tuple #[.pointer u, .pointer v, .bool false]) ∧ w.Ext w'
theorem TwoNew.no {w w' : World} {ss tt : List ByteArray} {u v : Option Addr} (hx : w.Ext w') : TwoNew w ss tt false (.returned (.tuple #[.pointer u, .pointer v, .bool false])) w' := ⟨u, v, rfl, hx⟩
theorem TwoNew.yes {w w' : World} {ss tt : List ByteArray} {b ab : Nat} {v : Option Addr} (hx : w.Ext w') (h1 : Img w' b ab (picW ss) ss.length (picL ss)) (h2 : w.heap.size ≤ b ∧ w.heap.size ≤ ab) :
    TwoNew w ss tt true (.returned (.tuple #[.pointer (some ⟨b, 0, none⟩), .pointer v, .bool true])) w' := ⟨b, ab, v, rfl, hx, h1, h2⟩
set_option maxRecDepth 5000 in
set_option maxHeartbeats 3200000 in
theorem twoImages_new (a : Option Addr) (c : Nat) (ss : List ByteArray) (a' : Option Addr) (c' : Nat) (tt : List ByteArray) (w : World) (hb : PicBnd ss) (hb' : PicBnd tt) (hm : RowS w a ss) (hm' : RowS w a' tt) :
    Calls Tryz.prog 20 #[.agg #[.slice a ss.length c], .agg #[.slice a' tt.length c']] w (TwoNew w ss tt (likeP ss tt)) := by
  have HI1 : Hid (∀ w', w.Ext w' → Calls Tryz.prog 43 #[.agg #[.slice a ss.length c]] w' (ImgOf w' ss (picOk ss))) := fun w' hx => imageOf_any a c ss w' hb.1 hb.2 (hm.ext hx) _ rfl
  have HI2 : Hid (∀ w', w.Ext w' → Calls Tryz.prog 43 #[.agg #[.slice a' tt.length c']] w' (ImgOf w' tt (picOk tt))) := fun w' hx => imageOf_any a' c' tt w' hb'.1 hb'.2 (hm'.ext hx) _ rfl
  unfold likeP
  cases h1 : picOk ss <;> cases h2 : picOk tt
  · rw [h1] at HI1
    rw [h2] at HI2
    simp only [Bool.false_and]
    clear h1 h2 hb hb' hm hm'
    go_enter Tryz.func20, Tryz.ntmps20
    go_wp2_with fail
    refine (HI1.out _ (by repeat (first | exact World.Ext.refl _ | exact ⟨_, rfl⟩ | assumption | refine World.Ext.over ?_ _ | refine World.Ext.drewN ?_ _ | refine World.Ext.drew ?_ | refine World.Ext.alloc ?_ _ | refine World.Ext.setCell ?_ (by simp) _))).mono ?_
    rintro e w1 ⟨rfl, hx⟩
    have hx1 : w.Ext w1 := World.Ext.trans (by repeat (first | exact World.Ext.refl _ | exact ⟨_, rfl⟩ | assumption | refine World.Ext.over ?_ _ | refine World.Ext.drewN ?_ _ | refine World.Ext.drew ?_ | refine World.Ext.alloc ?_ _ | refine World.Ext.setCell ?_ (by simp) _)) hx
    have d0 : w1.cell? ⟨w.heap.size + 1, 0, none⟩ = some (.slice a' tt.length c') := hx.cell (by simp [go_sem])
    clear hx
    go_wp2_with fail
    refine (HI2.out _ hx1).mono ?_
    rintro e w2 ⟨rfl, hx2⟩
    clear d0
    go_wp2_with fail
    refine wp_region_over_lit (by kernel_rfl) (by kernel_rfl) ?_; (repeat (go_big_quiet_step (fail))); refine wpQuiet_nil ?_; rintro _ ⟨x1, rfl⟩
    have HX := Lib.hid ((hx1.trans hx2).trans (show w2.Ext (w2.over x1) from ⟨x1, rfl⟩))
    clear hx1 hx2
    go_wp2
    go_ret3
    exact TwoNew.no HX.out
  · rw [h1] at HI1
    rw [h2] at HI2
    simp only [Bool.false_and]
    clear h1 h2 hb hb' hm hm'
    go_enter Tryz.func20, Tryz.ntmps20
    go_wp2_with fail
    refine (HI1.out _ (by repeat (first | exact World.Ext.refl _ | exact ⟨_, rfl⟩ | assumption | refine World.Ext.over ?_ _ | refine World.Ext.drewN ?_ _ | refine World.Ext.drew ?_ | refine World.Ext.alloc ?_ _ | refine World.Ext.setCell ?_ (by simp) _))).mono ?_
    rintro e w1 ⟨rfl, hx⟩
    have hx1 : w.Ext w1 := World.Ext.trans (by repeat (first | exact World.Ext.refl _ | exact ⟨_, rfl⟩ | assumption | refine World.Ext.over ?_ _ | refine World.Ext.drewN ?_ _ | refine World.Ext.drew ?_ | refine World.Ext.alloc ?_ _ | refine World.Ext.setCell ?_ (by simp) _)) hx
    have d0 : w1.cell? ⟨w.heap.size + 1, 0, none⟩ = some (.slice a' tt.length c') := hx.cell (by simp [go_sem])
    clear hx
    go_wp2_with fail
    refine (HI2.out _ hx1).mono ?_
    rintro e w2 ⟨b, ab, rfl, hx2, -, -, -⟩
    clear d0
    go_wp2_with fail
    refine wp_region_over_lit (by kernel_rfl) (by kernel_rfl) ?_; (repeat (go_big_quiet_step (fail))); refine wpQuiet_nil ?_; rintro _ ⟨x1, rfl⟩
    have HX := Lib.hid ((hx1.trans hx2).trans (show w2.Ext (w2.over x1) from ⟨x1, rfl⟩))
    clear hx1 hx2
    go_wp2
    go_ret3
    exact TwoNew.no HX.out
  · rw [h1] at HI1
    rw [h2] at HI2
    simp only [Bool.true_and, Bool.false_and]
    clear h1 h2 hb hb' hm hm'
    go_enter Tryz.func20, Tryz.ntmps20
    go_wp2_with fail
    refine (HI1.out _ (by repeat (first | exact World.Ext.refl _ | exact ⟨_, rfl⟩ | assumption | refine World.Ext.over ?_ _ | refine World.Ext.drewN ?_ _ | refine World.Ext.drew ?_ | refine World.Ext.alloc ?_ _ | refine World.Ext.setCell ?_ (by simp) _))).mono ?_
    rintro e w1 ⟨b, ab, rfl, hx, -, -, -⟩
    have hx1 : w.Ext w1 := World.Ext.trans (by repeat (first | exact World.Ext.refl _ | exact ⟨_, rfl⟩ | assumption | refine World.Ext.over ?_ _ | refine World.Ext.drewN ?_ _ | refine World.Ext.drew ?_ | refine World.Ext.alloc ?_ _ | refine World.Ext.setCell ?_ (by simp) _)) hx
    have d0 : w1.cell? ⟨w.heap.size + 1, 0, none⟩ = some (.slice a' tt.length c') := hx.cell (by simp [go_sem])
    clear hx
    go_wp2_with fail
    refine (HI2.out _ hx1).mono ?_
    rintro e w2 ⟨rfl, hx2⟩
    clear d0
    go_wp2_with fail
    refine wp_region_over_lit (by kernel_rfl) (by kernel_rfl) ?_; (repeat (go_big_quiet_step (fail))); refine wpQuiet_nil ?_; rintro _ ⟨x1, rfl⟩
    have HX := Lib.hid ((hx1.trans hx2).trans (show w2.Ext (w2.over x1) from ⟨x1, rfl⟩))
    clear hx1 hx2
    go_wp2
    go_ret3
    exact TwoNew.no HX.out
  · rw [h1] at HI1
    rw [h2] at HI2
    simp only [Bool.true_and]
    clear h1 h2 hb hb' hm hm'
    by_cases hw : picW ss = picW tt
    · have f1 : ((picW ss : Int) == (picW tt : Int)) = true := by simp; omega
      by_cases hh : ss.length = tt.length
      · have f2 : ((ss.length : Int) == (tt.length : Int)) = true := by simp; omega
        rw [decide_eq_true hw, decide_eq_true hh]
        simp only [Bool.true_and]
        clear hw hh
        go_enter Tryz.func20, Tryz.ntmps20
        go_wp2_with fail
        refine (HI1.out _ (by repeat (first | exact World.Ext.refl _ | exact ⟨_, rfl⟩ | assumption | refine World.Ext.over ?_ _ | refine World.Ext.drewN ?_ _ | refine World.Ext.drew ?_ | refine World.Ext.alloc ?_ _ | refine World.Ext.setCell ?_ (by simp) _))).mono ?_
        rintro e w1 ⟨b, ab, rfl, hx, hi, hq1, hq2⟩
        have HQ := Lib.hid (show w.heap.size ≤ b ∧ w.heap.size ≤ ab from ⟨by simp at hq1; omega, by simp at hq2; omega⟩)
        clear hq1 hq2
        have hx1 : w.Ext w1 := World.Ext.trans (by repeat (first | exact World.Ext.refl _ | exact ⟨_, rfl⟩ | assumption | refine World.Ext.over ?_ _ | refine World.Ext.drewN ?_ _ | refine World.Ext.drew ?_ | refine World.Ext.alloc ?_ _ | refine World.Ext.setCell ?_ (by simp) _)) hx
        have d0 : w1.cell? ⟨w.heap.size + 1, 0, none⟩ = some (.slice a' tt.length c') := hx.cell (by simp [go_sem])
        have HIA := Lib.hid hi
        clear hx hi
        go_wp2_with fail
        refine (HI2.out _ hx1).mono ?_
        rintro e w2 ⟨b2, ab2, rfl, hx2, hi2, -, -⟩
        have HIB := Lib.hid hi2
        have HIC := Lib.hid (HIA.out.ext hx2)
        have c0 := HIC.out.c0
        have c1 := HIC.out.c1
        have c2 := HIB.out.c0
        have c3 := HIB.out.c1
        clear d0 hi2 HIA
        go_wp2_with fail
        refine wp_region_over_lit (by kernel_rfl) (by kernel_rfl) ?_; (repeat (go_big_quiet_step (fail))); refine wpQuiet_nil ?_; rintro _ ⟨x1, rfl⟩
        have HX := Lib.hid ((hx1.trans hx2).trans (show w2.Ext (w2.over x1) from ⟨x1, rfl⟩))
        have HID := Lib.hid (HIC.out.ext (show w2.Ext (w2.over x1) from ⟨x1, rfl⟩))
        have HIE := Lib.hid (HIB.out.ext (show w2.Ext (w2.over x1) from ⟨x1, rfl⟩))
        clear hx1 hx2 c0 c1 c2 c3 HIB HIC
        go_wp2
        go_ret3
        exact TwoNew.yes HX.out HID.out HQ.out
      · have f2 : ((ss.length : Int) == (tt.length : Int)) = false := by simp; omega
        rw [decide_eq_false hh, Bool.and_false]
        clear hw hh
        go_enter Tryz.func20, Tryz.ntmps20
        go_wp2_with fail
        refine (HI1.out _ (by repeat (first | exact World.Ext.refl _ | exact ⟨_, rfl⟩ | assumption | refine World.Ext.over ?_ _ | refine World.Ext.drewN ?_ _ | refine World.Ext.drew ?_ | refine World.Ext.alloc ?_ _ | refine World.Ext.setCell ?_ (by simp) _))).mono ?_
        rintro e w1 ⟨b, ab, rfl, hx, hi, -, -⟩
        have hx1 : w.Ext w1 := World.Ext.trans (by repeat (first | exact World.Ext.refl _ | exact ⟨_, rfl⟩ | assumption | refine World.Ext.over ?_ _ | refine World.Ext.drewN ?_ _ | refine World.Ext.drew ?_ | refine World.Ext.alloc ?_ _ | refine World.Ext.setCell ?_ (by simp) _)) hx
        have d0 : w1.cell? ⟨w.heap.size + 1, 0, none⟩ = some (.slice a' tt.length c') := hx.cell (by simp [go_sem])
        have HIA := Lib.hid hi
        clear hx hi
        go_wp2_with fail
        refine (HI2.out _ hx1).mono ?_
        rintro e w2 ⟨b2, ab2, rfl, hx2, hi2, -, -⟩
        have HIB := Lib.hid hi2
        have HIC := Lib.hid (HIA.out.ext hx2)
        have c0 := HIC.out.c0
        have c1 := HIC.out.c1
        have c2 := HIB.out.c0
        have c3 := HIB.out.c1
        clear d0 hi2 HIA
        go_wp2_with fail
        refine wp_region_over_lit (by kernel_rfl) (by kernel_rfl) ?_; (repeat (go_big_quiet_step (fail))); refine wpQuiet_nil ?_; rintro _ ⟨x1, rfl⟩
        have HX := Lib.hid ((hx1.trans hx2).trans (show w2.Ext (w2.over x1) from ⟨x1, rfl⟩))
        have HID := Lib.hid (HIC.out.ext (show w2.Ext (w2.over x1) from ⟨x1, rfl⟩))
        have HIE := Lib.hid (HIB.out.ext (show w2.Ext (w2.over x1) from ⟨x1, rfl⟩))
        clear hx1 hx2 c0 c1 c2 c3 HIB HIC
        go_wp2
        go_ret3
        exact TwoNew.no HX.out
    · have f1 : ((picW ss : Int) == (picW tt : Int)) = false := by simp; omega
      rw [decide_eq_false hw, Bool.false_and]
      clear hw
      go_enter Tryz.func20, Tryz.ntmps20
      go_wp2_with fail
      refine (HI1.out _ (by repeat (first | exact World.Ext.refl _ | exact ⟨_, rfl⟩ | assumption | refine World.Ext.over ?_ _ | refine World.Ext.drewN ?_ _ | refine World.Ext.drew ?_ | refine World.Ext.alloc ?_ _ | refine World.Ext.setCell ?_ (by simp) _))).mono ?_
      rintro e w1 ⟨b, ab, rfl, hx, hi, -, -⟩
      have hx1 : w.Ext w1 := World.Ext.trans (by repeat (first | exact World.Ext.refl _ | exact ⟨_, rfl⟩ | assumption | refine World.Ext.over ?_ _ | refine World.Ext.drewN ?_ _ | refine World.Ext.drew ?_ | refine World.Ext.alloc ?_ _ | refine World.Ext.setCell ?_ (by simp) _)) hx
      have d0 : w1.cell? ⟨w.heap.size + 1, 0, none⟩ = some (.slice a' tt.length c') := hx.cell (by simp [go_sem])
      have HIA := Lib.hid hi
      clear hx hi
      go_wp2_with fail
      refine (HI2.out _ hx1).mono ?_
      rintro e w2 ⟨b2, ab2, rfl, hx2, hi2, -, -⟩
      have HIB := Lib.hid hi2
      have HIC := Lib.hid (HIA.out.ext hx2)
      have c0 := HIC.out.c0
      have c1 := HIC.out.c1
      have c2 := HIB.out.c0
      have c3 := HIB.out.c1
      clear d0 hi2 HIA
      go_wp2_with fail
      refine wp_region_over_lit (by kernel_rfl) (by kernel_rfl) ?_; (repeat (go_big_quiet_step (fail))); refine wpQuiet_nil ?_; rintro _ ⟨x1, rfl⟩
      have HX := Lib.hid ((hx1.trans hx2).trans (show w2.Ext (w2.over x1) from ⟨x1, rfl⟩))
      have HID := Lib.hid (HIC.out.ext (show w2.Ext (w2.over x1) from ⟨x1, rfl⟩))
      have HIE := Lib.hid (HIB.out.ext (show w2.Ext (w2.over x1) from ⟨x1, rfl⟩))
      clear hx1 hx2 c0 c1 c2 c3 HIB HIC
      go_wp2
      go_ret3
      exact TwoNew.no HX.out
end Go.Proofs.YtkpgelhmeokemaaGreatDoor

/- StackPictures: the program's. -/
namespace Go.Proofs.YtkpgelhmeokemaaGreatDoor
open Go Go.RowKit
theorem stkT_put {m : List (List ByteArray)} {n j k0 : Nat} (h : k0 < n) : (stkT m n j k0).set k0 ((stkT m n j k0).getD k0 0 + if (picL (m.getD j [])).getD k0 false then 1 else 0) = stkT m n j (k0 + 1) := by
  rw [stkT_at h, if_neg (by omega), ← stkT_set h]
  congr 1
  simp only [cntK]
  split <;> simp
theorem stkT_bnd {m : List (List ByteArray)} {n j k0 : Nat} (hj : j < 1000) (k : Nat) : 0 ≤ (stkT m n j k0).getD k 0 ∧ (stkT m n j k0).getD k 0 ≤ 1000 := by
  by_cases h : k < n
  · rw [stkT_at h]
    have := cntK_le m k (if k < k0 then j + 1 else j)
    split at this <;> split <;> omega
  · rw [getD_out (by rw [stkT_len]; omega)]
    omega
theorem grl_zero (W H N : Nat) (m : List (List ByteArray)) : grd W H (fun _ _ => 0) = grl W H (stkT m N 0 0) := by
  unfold grl
  congr 1
  funext x y
  unfold flG
  rw [stkT_zero]
  by_cases h : y * W + x < N
  · simp [List.getD_eq_getElem?_getD, h]
  · rw [getD_out (by simp; omega)]
set_option maxHeartbeats 400000 in
theorem stk1_any (x y : Int) (w : World) : Calls Tryz.prog 23 #[.int .i64 x, .int .i64 y] w fun e w' => e = .returned (.int .i64 0) ∧ w.Ext w' := by
  go_enter Tryz.func23, Tryz.ntmps23
  go_wp2
  go_ret
  refine ⟨rfl, ?_⟩
  repeat (first | exact World.Ext.refl _ | exact ⟨_, rfl⟩ | assumption | refine World.Ext.over ?_ _ | refine World.Ext.drewN ?_ _ | refine World.Ext.drew ?_ | refine World.Ext.alloc ?_ _ | refine World.Ext.setCell ?_ (by simp) _)
theorem enters_stk1 : Enters 23 := enters_of Tryz.func23 (by kernel_rfl) (by kernel_rfl)
theorem oneIfK_any (b : Bool) (w : World) : Calls Tryz.prog 26 #[.bool b] w fun e w' => e = .returned (.int .i64 (if b then 1 else 0)) ∧ w.Ext w' := by
  cases b
  · go_enter Tryz.func26, Tryz.ntmps26
    go_wp2
    go_ret
    exact ⟨rfl, .refl _⟩
  · go_enter Tryz.func26, Tryz.ntmps26
    go_wp2
    go_ret
    exact ⟨rfl, .refl _⟩
theorem enters_stk2 : Enters 25 := enters_of Tryz.func25 (by kernel_rfl) (by kernel_rfl)
set_option maxRecDepth 5000 in
set_option maxHeartbeats 3200000 in
theorem stk2_any (w1 : World) (p4 p7 b ab W H lo hi c : Nat) (L : List Bool) (a : Option Addr) (A : Nat → Option Addr) (C : Nat → Nat) (T : List Int) (x y : Nat) (wr : World) (hW : W ≤ 16) (hH : H ≤ 16) (hx : x < W) (hy : y < H)
    (h4 : One w1 p4 26 (.slice a H c)) (h7 : One w1 p7 48 (.pointer (some ⟨b, 0, none⟩))) (hI : Img w1 b ab W H L) (d4 : ¬ (lo ≤ p4 ∧ p4 < hi)) (d7 : ¬ (lo ≤ p7 ∧ p7 < hi)) (db : ¬ (lo ≤ b ∧ b < hi)) (dab : ¬ (lo ≤ ab ∧ ab < hi))
    (hT : T.length = H * W) (hTb : ∀ k, 0 ≤ T.getD k 0 ∧ T.getD k 0 ≤ 1000) (hw : Wrote (fun k => lo ≤ k ∧ k < hi) w1 wr) (ho : OwnMat lo hi wr a A C (grl W H T)) :
    Calls Tryz.prog 25 #[.int .i64 x, .int .i64 y, .pointer (some ⟨p4, 0, none⟩), .pointer (some ⟨p7, 0, none⟩)] wr fun e w' => e = .returned (.tuple #[]) ∧ Wrote (fun k => lo ≤ k ∧ k < hi) w1 w' ∧
      OwnMat lo hi w' a A C (grl W H (T.set (y * W + x) (T.getD (y * W + x) 0 + if L.getD (y * W + x) false then 1 else 0))) := by
  have c4 := (h4.keep (hw.block p4 h4.lt d4)).cell
  have c7 := (h7.keep (hw.block p7 h7.lt d7)).cell
  have hIr := hI.keep (hw.block b hI.lt db) (hw.block ab hI.px.lt dab)
  obtain ⟨t, ht⟩ : ∃ t, L.getD (y * W + x) false = t := ⟨_, rfl⟩
  have HG : Hid (∀ w', wr.Ext w' → Calls Tryz.prog 27 #[.pointer (some ⟨b, 0, none⟩), .int .i64 x, .int .i64 y] w' fun e w'' => e = .returned (.bool t) ∧ w'.Ext w'') := fun w' hx' =>
    get_any b ab W H L x y w' (by omega) (by omega) (hIr.ext hx') t (by rw [pxl_at _ _ _ _ _ hx hy, ht])
  rw [ht]
  have hylen : y < (grl W H T).length := by rw [grl_len]; exact hy
  have hxlen : x < ((grl W H T).getD y []).length := by rw [grl_row hy]; exact hx
  obtain ⟨b1, o1, rfl, -, -, k1, -⟩ := ho.outer y hylen
  obtain ⟨b2, o2, hA2, g1, g2, k2, f2⟩ := ho.rows y hylen x hxlen
  rw [grl_row hy, hA2] at k1
  rw [grl_at hx hy] at k2
  obtain ⟨z0, z1⟩ := hTb (y * W + x)
  have HNX : Hid (∀ x1, Wrote (fun k => lo ≤ k ∧ k < hi) w1 ((wr.over x1).setCell ⟨b2, o2 + x, none⟩ (.int .i64 (T.getD (y * W + x) 0 + if t then 1 else 0))) ∧ OwnMat lo hi ((wr.over x1).setCell ⟨b2, o2 + x, none⟩ (.int .i64 (T.getD (y * W + x) 0 + if t then 1 else 0))) (some ⟨b1, o1, none⟩) A C (grl W H (T.set (y * W + x) (T.getD (y * W + x) 0 + if t then 1 else 0)))) := fun x1 => by
    have hxx : wr.Ext (wr.over x1) := ⟨x1, rfl⟩
    refine ⟨(hw.trans (hxx.wrote _)).setCell (p := ⟨b2, o2 + x, none⟩) ⟨g1, g2⟩ _, ?_⟩
    rw [← grl_set hx hy hT]
    exact OwnMat.put (ho.ext hxx) hylen hxlen hA2 _
  have f2x : ∀ x1 : World, (wr.over x1).frozen? ⟨b2, o2 + x, none⟩ = false := fun x1 => by rw [World.Ext.frozen (w := wr) ⟨x1, rfl⟩ k2]; exact f2
  have l4 := World.block_lt_of_cell? _ _ c4
  have l7 := World.block_lt_of_cell? _ _ c7
  have l1 := World.block_lt_of_cell? _ _ k1
  have l2 := World.block_lt_of_cell? _ _ k2
  have hx0 : (0 : Int) ≤ (x : Int) := by omega
  have hy0 : (0 : Int) ≤ (y : Int) := by omega
  have hx' : (x : Int) < (W : Int) := by omega
  have hy' : (y : Int) < (H : Int) := by omega
  have HOI : Hid (∀ w' : World, Calls Tryz.prog 26 #[.bool t] w' fun e w'' => e = .returned (.int .i64 (if t then 1 else 0)) ∧ w'.Ext w'') := fun w' => oneIfK_any t w'
  clear hIr hI h4 h7 hw ho ht hTb hT
  generalize T.getD (y * W + x) 0 = z at *
  cases t
  all_goals
    simp only [Bool.false_eq_true, if_true, if_false, Int.add_zero] at HNX HOI ⊢
    go_enter Tryz.func25, Tryz.ntmps25
    go_wp2_with fail
    refine wp_region_over_tail 15 (by kernel_rfl) (by kernel_rfl) ?_
    simp only [List.take_succ_cons, List.take_zero, List.drop_succ_cons, List.drop_zero]
    (repeat (go_big_quiet_step ((go_at_call 27; exact Calls.over_of (HG.out _ ⟨_, rfl⟩)))))
    (go_big_quiet_step ((go_at_call 26; exact Calls.over_of (HOI.out _))))
    (repeat (go_big_quiet_step (fail)))
    refine wpQuiet_nil ?_
    rintro _ ⟨x1, rfl⟩
    have f3 := f2x x1
    have k3 := World.Ext.cell (w' := wr.over x1) ⟨x1, rfl⟩ k2
    have HN := Lib.hid (HNX.out x1)
    clear HNX f2x
    go_wp2
    go_end0
    exact ⟨rfl, HN.out⟩
theorem stkEach_any (w1 : World) (p4 p7 b ab W H lo hi c N k : Nat) (a : Option Addr) (A : Nat → Option Addr) (C : Nat → Nat) (m : List (List ByteArray)) (hN : H * W = N) (hk : k < 1000) (hW : W ≤ 16) (hH : H ≤ 16)
    (h4 : One w1 p4 26 (.slice a H c)) (h7 : One w1 p7 48 (.pointer (some ⟨b, 0, none⟩))) (hI : Img w1 b ab W H (picL (m.getD k []))) (d4 : ¬ (lo ≤ p4 ∧ p4 < hi)) (d7 : ¬ (lo ≤ p7 ∧ p7 < hi)) (db : ¬ (lo ≤ b ∧ b < hi)) (dab : ¬ (lo ≤ ab ∧ ab < hi))
    (ho : OwnMat lo hi w1 a A C (grl W H (stkT m N k 0))) :
    Calls Tryz.prog 24 #[.pointer (some ⟨b, 0, none⟩), .func (.func 25) #[] #[.pointer (some ⟨p4, 0, none⟩), .pointer (some ⟨p7, 0, none⟩)]] w1 fun e w' => e = .returned (.tuple #[]) ∧ Wrote (fun k => lo ≤ k ∧ k < hi) w1 w' ∧ OwnMat lo hi w' a A C (grl W H (stkT m N (k + 1) 0)) := by
  have h := each_any b 25 W H #[.pointer (some ⟨p4, 0, none⟩), .pointer (some ⟨p7, 0, none⟩)] (fun q w' => Wrote (fun k => lo ≤ k ∧ k < hi) w1 w' ∧ OwnMat lo hi w' a A C (grl W H (stkT m N k q))) w1 (by omega) (by omega) enters_stk2
    (fun q w' h => by
      have hIr := hI.keep (h.1.block b hI.lt db) (h.1.block ab hI.px.lt dab)
      exact ⟨hIr.c0, hIr.c1⟩)
    (fun x y w' hx hy h => by
      have hq : y * W + x < N := by
        have := Nat.mul_le_mul_right W (show y + 1 ≤ H by omega)
        rw [Nat.succ_mul] at this
        omega
      have h2 := stk2_any w1 p4 p7 b ab W H lo hi c (picL (m.getD k [])) a A C (stkT m N k (y * W + x)) x y w' hW hH hx hy h4 h7 hI d4 d7 db dab (by rw [stkT_len, hN]) (stkT_bnd hk) h.1 h.2
      rw [stkT_put hq] at h2
      exact h2.mono fun e w'' hh => ⟨hh.1, hh.2.1, hh.2.2⟩)
    ⟨.refl _ _, ho⟩
  rw [hN, stkT_next] at h
  exact h
/-- The table under way. -/
structure StkJ (w : World) (p4 : Nat) (m : List (List ByteArray)) (N W H k : Nat) (wr : World) : Prop where
  x : w.Ext wr
  one : One wr w.heap.size 26 (.slice none 0 0)
  lo : w.heap.size < p4
  tb : (k = 0 ∧ One wr p4 26 (.slice none 0 0)) ∨ (0 < k ∧ ∃ a c A C lo hi, One wr p4 26 (.slice a H c) ∧ p4 < lo ∧ hi ≤ wr.heap.size ∧ OwnMat lo hi wr a A C (grl W H (stkT m N k 0)))
theorem StkJ.ext {w wr w' : World} {p4 N W H k : Nat} {m : List (List ByteArray)} (h : StkJ w p4 m N W H k wr) (hx : wr.Ext w') : StkJ w p4 m N W H k w' := by
  refine ⟨h.x.trans hx, h.one.ext hx, h.lo, ?_⟩
  rcases h.tb with ⟨e, h1⟩ | ⟨e, a, c, A, C, lo, hi, h1, h2, h3, h4⟩
  · exact .inl ⟨e, h1.ext hx⟩
  · exact .inr ⟨e, a, c, A, C, lo, hi, h1.ext hx, h2, Nat.le_trans h3 hx.size, h4.ext hx⟩
/-- What the drawn region tells. -/
def StkC (W3 : World) (W H : Nat) (L : List Bool) (u7 u9 : Value) (wc : World) : Prop := ∃ p7 b ab, u7 = .pointer (some ⟨p7, 0, none⟩) ∧ u9 = .bool true ∧ W3.Ext wc ∧ One wc p7 48 (.pointer (some ⟨b, 0, none⟩)) ∧ Img wc b ab W H L ∧ W3.heap.size ≤ p7 ∧ W3.heap.size ≤ b ∧ W3.heap.size ≤ ab
theorem StkC.one {W3 w4 : World} {W H b ab : Nat} {L : List Bool} (hx : W3.drew.Ext w4) (hi : Img w4 b ab W H L) (h1 : W3.drew.heap.size ≤ b) (h2 : W3.drew.heap.size ≤ ab) :
    StkC W3 W H L (.pointer (some ⟨w4.heap.size, 0, none⟩)) (.bool true) (w4.alloc (.cells #[.pointer (some ⟨b, 0, none⟩)] 48)) := by
  have hd : W3.drew.heap.size = W3.heap.size := rfl
  have hxa : w4.Ext (w4.alloc (.cells #[.pointer (some ⟨b, 0, none⟩)] 48)) := by repeat (first | exact World.Ext.refl _ | exact ⟨_, rfl⟩ | assumption | refine World.Ext.over ?_ _ | refine World.Ext.drewN ?_ _ | refine World.Ext.drew ?_ | refine World.Ext.alloc ?_ _ | refine World.Ext.setCell ?_ (by simp) _)
  have hxd : W3.Ext W3.drew := by repeat (first | exact World.Ext.refl _ | exact ⟨_, rfl⟩ | assumption | refine World.Ext.over ?_ _ | refine World.Ext.drewN ?_ _ | refine World.Ext.drew ?_ | refine World.Ext.alloc ?_ _ | refine World.Ext.setCell ?_ (by simp) _)
  have hsz := hx.size
  refine ⟨w4.heap.size, b, ab, rfl, rfl, (hxd.trans hx).trans hxa, One.new w4 _ _ _ rfl, hi.ext hxa, by omega, by omega, by omega⟩
theorem StkC.two {W3 w4 : World} {W H b ab : Nat} {L : List Bool} {v0 : Value} (hx : (W3.drew.alloc (.cells #[v0] 48)).Ext w4) (hi : Img w4 b ab W H L) (h1 : (W3.drew.alloc (.cells #[v0] 48)).heap.size ≤ b) (h2 : (W3.drew.alloc (.cells #[v0] 48)).heap.size ≤ ab) :
    StkC W3 W H L (.pointer (some ⟨W3.drew.heap.size, 0, none⟩)) (.bool true) (w4.setCell ⟨W3.drew.heap.size, 0, none⟩ (.pointer (some ⟨b, 0, none⟩))) := by
  have hd : W3.drew.heap.size = W3.heap.size := rfl
  have hxa : W3.drew.Ext (W3.drew.alloc (.cells #[v0] 48)) := by repeat (first | exact World.Ext.refl _ | exact ⟨_, rfl⟩ | assumption | refine World.Ext.over ?_ _ | refine World.Ext.drewN ?_ _ | refine World.Ext.drew ?_ | refine World.Ext.alloc ?_ _ | refine World.Ext.setCell ?_ (by simp) _)
  have hxd : W3.Ext W3.drew := by repeat (first | exact World.Ext.refl _ | exact ⟨_, rfl⟩ | assumption | refine World.Ext.over ?_ _ | refine World.Ext.drewN ?_ _ | refine World.Ext.drew ?_ | refine World.Ext.alloc ?_ _ | refine World.Ext.setCell ?_ (by simp) _)
  have hsz := hx.size
  simp at h1 h2 hsz
  refine ⟨W3.drew.heap.size, b, ab, rfl, rfl, ((hxd.trans hxa).trans hx).setCell (p := ⟨W3.drew.heap.size, 0, none⟩) (by dsimp only; omega) _, ((One.new W3.drew _ _ _ rfl).ext hx).set _, hi.keep (Below.heap_setCell _ _ _ _ (by dsimp only; omega)) (Below.heap_setCell _ _ _ _ (by dsimp only; omega)), by omega, by omega, by omega⟩
theorem StkC.three {W3 w4 : World} {W H b ab : Nat} {L : List Bool} {v0 : Value} (hx : (W3.alloc (.cells #[v0] 48)).drew.Ext w4) (hi : Img w4 b ab W H L) (h1 : (W3.alloc (.cells #[v0] 48)).drew.heap.size ≤ b) (h2 : (W3.alloc (.cells #[v0] 48)).drew.heap.size ≤ ab) :
    StkC W3 W H L (.pointer (some ⟨W3.heap.size, 0, none⟩)) (.bool true) (w4.setCell ⟨W3.heap.size, 0, none⟩ (.pointer (some ⟨b, 0, none⟩))) := by
  have hs : (W3.alloc (.cells #[v0] 48)).drew.heap.size = W3.heap.size + 1 := by simp
  have hxa : W3.Ext (W3.alloc (.cells #[v0] 48)).drew := by repeat (first | exact World.Ext.refl _ | exact ⟨_, rfl⟩ | assumption | refine World.Ext.over ?_ _ | refine World.Ext.drewN ?_ _ | refine World.Ext.drew ?_ | refine World.Ext.alloc ?_ _ | refine World.Ext.setCell ?_ (by simp) _)
  have hxd : (W3.alloc (.cells #[v0] 48)).Ext w4 := World.Ext.trans (by repeat (first | exact World.Ext.refl _ | exact ⟨_, rfl⟩ | assumption | refine World.Ext.over ?_ _ | refine World.Ext.drewN ?_ _ | refine World.Ext.drew ?_ | refine World.Ext.alloc ?_ _ | refine World.Ext.setCell ?_ (by simp) _)) hx
  rw [hs] at h1 h2
  refine ⟨W3.heap.size, b, ab, rfl, rfl, (hxa.trans hx).setCell (p := ⟨W3.heap.size, 0, none⟩) (Nat.le_refl _) _, ((One.new W3 _ _ _ rfl).ext hxd).set _, hi.keep (Below.heap_setCell _ _ _ _ (by dsimp only; omega)) (Below.heap_setCell _ _ _ _ (by dsimp only; omega)), by omega, by omega, by omega⟩
/-- .. where it fails. -/
def StkF (W3 : World) (u9 : Value) (wc : World) : Prop := u9 = .bool false ∧ W3.Ext wc
theorem StkF.one {W3 w4 : World} {v : Value} (hx : W3.drew.Ext w4) : StkF W3 (.bool false) (w4.alloc (.cells #[v] 48)) := by
  have hxa : w4.Ext (w4.alloc (.cells #[v] 48)) := by repeat (first | exact World.Ext.refl _ | exact ⟨_, rfl⟩ | assumption | refine World.Ext.over ?_ _ | refine World.Ext.drewN ?_ _ | refine World.Ext.drew ?_ | refine World.Ext.alloc ?_ _ | refine World.Ext.setCell ?_ (by simp) _)
  have hxd : W3.Ext W3.drew := by repeat (first | exact World.Ext.refl _ | exact ⟨_, rfl⟩ | assumption | refine World.Ext.over ?_ _ | refine World.Ext.drewN ?_ _ | refine World.Ext.drew ?_ | refine World.Ext.alloc ?_ _ | refine World.Ext.setCell ?_ (by simp) _)
  exact ⟨rfl, (hxd.trans hx).trans hxa⟩
theorem StkF.two {W3 w4 : World} {v0 v : Value} (hx : (W3.drew.alloc (.cells #[v0] 48)).Ext w4) : StkF W3 (.bool false) (w4.setCell ⟨W3.drew.heap.size, 0, none⟩ v) := by
  have hd : W3.drew.heap.size = W3.heap.size := rfl
  have hxa : W3.drew.Ext (W3.drew.alloc (.cells #[v0] 48)) := by repeat (first | exact World.Ext.refl _ | exact ⟨_, rfl⟩ | assumption | refine World.Ext.over ?_ _ | refine World.Ext.drewN ?_ _ | refine World.Ext.drew ?_ | refine World.Ext.alloc ?_ _ | refine World.Ext.setCell ?_ (by simp) _)
  have hxd : W3.Ext W3.drew := by repeat (first | exact World.Ext.refl _ | exact ⟨_, rfl⟩ | assumption | refine World.Ext.over ?_ _ | refine World.Ext.drewN ?_ _ | refine World.Ext.drew ?_ | refine World.Ext.alloc ?_ _ | refine World.Ext.setCell ?_ (by simp) _)
  exact ⟨rfl, ((hxd.trans hxa).trans hx).setCell (p := ⟨W3.drew.heap.size, 0, none⟩) (by dsimp only; omega) _⟩
theorem StkF.three {W3 w4 : World} {v0 v : Value} (hx : (W3.alloc (.cells #[v0] 48)).drew.Ext w4) : StkF W3 (.bool false) (w4.setCell ⟨W3.heap.size, 0, none⟩ v) := by
  have hxa : W3.Ext (W3.alloc (.cells #[v0] 48)).drew := by repeat (first | exact World.Ext.refl _ | exact ⟨_, rfl⟩ | assumption | refine World.Ext.over ?_ _ | refine World.Ext.drewN ?_ _ | refine World.Ext.drew ?_ | refine World.Ext.alloc ?_ _ | refine World.Ext.setCell ?_ (by simp) _)
  exact ⟨rfl, (hxa.trans hx).setCell (p := ⟨W3.heap.size, 0, none⟩) (Nat.le_refl _) _⟩
end Go.Proofs.YtkpgelhmeokemaaGreatDoor

/- StackPictures: the program's, whole. -/
namespace Go.Proofs.YtkpgelhmeokemaaGreatDoor
open Go Go.RowKit
theorem likeP_dim {m : List (List ByteArray)} {k : Nat} (h : likeP (m.getD 0 []) (m.getD k []) = true) : picW (m.getD k []) = picW (m.getD 0 []) ∧ (m.getD k []).length = (m.getD 0 []).length ∧ (picL (m.getD k [])).length = (m.getD 0 []).length * picW (m.getD 0 []) ∧ picW (m.getD 0 []) ≤ 16 ∧ (m.getD 0 []).length ≤ 16 := by
  obtain ⟨q0, q1, q2, q3⟩ := likeP_true h
  obtain ⟨-, -, -, -, e1, -⟩ := picOk_spec q1
  obtain ⟨v1, v2, v3, v4, -, -⟩ := picOk_spec q0
  exact ⟨q2.symm, q3.symm, by rw [picL_len e1, ← q2, ← q3], by omega, by omega⟩
set_option maxRecDepth 5000 in
set_option maxHeartbeats 12800000 in
theorem implStk_any (a : Option Addr) (c : Nat) (A : Nat → Option Addr) (C : Nat → Nat) (m : List (List ByteArray)) (w : World) (hb : PcsBnd m) (hm : PcsAt w a A C m) :
    Calls Tryz.prog 8 #[.slice a m.length c] w (GreyRet2 w (optM (stkOk m) (stkG m)) (stkOk m)) := by
  obtain ⟨W0, hW0⟩ : ∃ W0, W0 = w.alloc (.cells #[.slice none 0 0] 26) := ⟨_, rfl⟩
  have hx0 : w.Ext W0 := by rw [hW0]; repeat (first | exact World.Ext.refl _ | exact ⟨_, rfl⟩ | assumption | refine World.Ext.over ?_ _ | refine World.Ext.drewN ?_ _ | refine World.Ext.drew ?_ | refine World.Ext.alloc ?_ _ | refine World.Ext.setCell ?_ (by simp) _)
  have HONE : Hid (One W0 w.heap.size 26 (.slice none 0 0)) := by rw [hW0]; exact One.new _ _ _ _ rfl
  have HX0 := Lib.hid hx0
  have hl0 := HONE.out.lt
  have hmb := hb.1
  obtain ⟨Q, hQ⟩ : ∃ Q, Q = GreyRet2 w (optM (stkOk m) (stkG m)) (stkOk m) := ⟨_, rfl⟩
  have HQN : Hid (stkOk m = false → ∀ w', w.Ext w' → Q (.returned (.tuple #[.agg #[.slice none 0 0], .bool false])) w') := fun h w' hx => by
    rw [hQ, h]
    exact GreyRet2.no hx
  have HQY : Hid (stkOk m = true → ∀ e w', GreyRet2 w (stkG m) true e w' → Q e w') := fun h e w' hr => by
    rw [hQ, h]
    exact hr
  rw [← hQ]
  clear hQ
  obtain ⟨t, ht⟩ : ∃ t, inB (m.length : Int) 1 99 = t := ⟨_, rfl⟩
  have HIN : Hid (Calls Tryz.prog 17 #[.int .i64 m.length, .int .i64 1, .int .i64 99] W0 fun e w'' => e = .returned (.bool t) ∧ W0.Ext w'') := in_any _ _ _ W0 t ht
  cases t
  · have hok : stkOk m = false := by
      unfold stkOk
      rw [← Bool.not_eq_true, inB_true] at ht
      by_cases h1 : 1 ≤ m.length
      · rw [decide_eq_false (show ¬ m.length ≤ 99 by omega), Bool.and_false]; rfl
      · rw [decide_eq_false h1]; rfl
    have HQ := Lib.hid (HQN.out hok)
    clear hb hm hok HQN HQY hx0 ht
    go_enter Tryz.func8, Tryz.ntmps8
    go_wp2_with fail
    rw [← hW0]
    clear hW0
    refine HIN.out.mono ?_
    rintro e w1 ⟨rfl, hx1⟩
    obtain ⟨r1, r2, r3, HR⟩ := Res.storeM (lo := w.heap.size + 1) (.slice none 0 0) (HX0.out.trans hx1) (by omega) (HONE.out.ext hx1) (by omega) (OwnMat.none _ _ _ none)
    clear hx1
    go_wp2
    exact bodyPost_ret (v := .tuple #[.agg #[.slice none 0 0], .bool false]) (by simp [results, Tryz.results8, go_sem, r3]) rfl (HQ.out _ HR.out.1)
  rw [inB_true] at ht
  have hn1 : 1 ≤ m.length := by omega
  have hn2 : m.length ≤ 99 := by omega
  obtain ⟨⟨b, o, rfl, -⟩, -⟩ := hm 0 (by omega)
  have HC : Hid (∀ w', w.Ext w' → ∀ i, i < m.length → w'.cell? ⟨b, o + i, none⟩ = some (.slice (A i) (m.getD i []).length (C i)) ∧ RowS w' (A i) (m.getD i [])) := fun w' hx i hi => by
    obtain ⟨⟨b', o', e', h1⟩, h2⟩ := hm i hi
    cases e'
    exact ⟨hx.cell h1, RowOf.ext h2 hx⟩
  have HC0 : Hid (∀ w', w.Ext w' → w'.cell? ⟨b, o, none⟩ = some (.slice (A 0) (m.getD 0 []).length (C 0))) := fun w' hx => (HC.out w' hx 0 (by omega)).1
  have HNO : Hid (∀ i, i < m.length → likeP (m.getD 0 []) (m.getD i []) = false → stkOk m = false) := fun i hi h => by
    unfold stkOk; rw [likeAll_false hi h, Bool.and_false]
  have HYES : Hid ((∀ i, i < m.length → likeP (m.getD 0 []) (m.getD i []) = true) → stkOk m = true) := fun h => by
    unfold stkOk; rw [likeAll_true.2 h, decide_eq_true hn1, decide_eq_true hn2]; rfl
  have HTW : Hid (∀ w', w.Ext w' → ∀ i, i < m.length → Calls Tryz.prog 20 #[.agg #[.slice (A i) (m.getD i []).length (C i)], .agg #[.slice (A 0) (m.getD 0 []).length (C 0)]] w' (TwoNew w' (m.getD i []) (m.getD 0 []) (likeP (m.getD 0 []) (m.getD i [])))) := fun w' hx i hi => by
    rw [likeP_comm]
    exact twoImages_new (A i) (C i) _ (A 0) (C 0) _ w' (hb.2 i) (hb.2 0) (HC.out w' hx i hi).2 (HC.out w' hx 0 (by omega)).2
  have HDIM : Hid (∀ i, likeP (m.getD 0 []) (m.getD i []) = true → picW (m.getD i []) = picW (m.getD 0 []) ∧ (m.getD i []).length = (m.getD 0 []).length ∧ (picL (m.getD i [])).length = (m.getD 0 []).length * picW (m.getD 0 []) ∧ picW (m.getD 0 []) ≤ 16 ∧ (m.getD 0 []).length ≤ 16) := fun i h => likeP_dim h
  have HG : Hid (stkG m = grl (picW (m.getD 0 [])) (m.getD 0 []).length (stkT m ((m.getD 0 []).length * picW (m.getD 0 [])) m.length 0)) := rfl
  clear hb hm hx0 ht
  generalize hNN : (m.getD 0 []).length * picW (m.getD 0 []) = N at *
  generalize picW (m.getD 0 []) = W at *
  generalize (m.getD 0 []).length = H at *
  generalize stkG m = G at *
  generalize stkOk m = ok at *
  generalize m.getD 0 [] = m0 at *
  have HNN := Lib.hid hNN
  clear hNN
  have hn0 : (0 : Int) < (m.length : Int) := by omega
  have hn0n : 0 < m.length := by omega
  go_enter Tryz.func8, Tryz.ntmps8
  go_wp2_with fail
  rw [← hW0]
  clear hW0
  refine HIN.out.mono ?_
  rintro e w1 ⟨rfl, hx1⟩
  obtain ⟨W2, hW2⟩ : ∃ W2, W2 = w1.alloc (.cells #[.slice none 0 0] 26) := ⟨_, rfl⟩
  have hx2 : w1.Ext W2 := by rw [hW2]; repeat (first | exact World.Ext.refl _ | exact ⟨_, rfl⟩ | assumption | refine World.Ext.over ?_ _ | refine World.Ext.drewN ?_ _ | refine World.Ext.drew ?_ | refine World.Ext.alloc ?_ _ | refine World.Ext.setCell ?_ (by simp) _)
  have HST : Hid (StkJ w w1.heap.size m N W H 0 W2) := ⟨HX0.out.trans (hx1.trans hx2), HONE.out.ext (hx1.trans hx2), by have := hx1.size; omega, .inl ⟨rfl, by rw [hW2]; exact One.new _ _ _ _ rfl⟩⟩
  clear hx1 HIN HX0 HONE hl0
  go_wp2_with fail
  rw [← hW2]
  clear hW2 hx2
  generalize w1.heap.size = p4 at *
  go_loopw [5, 6, 7, 8, 9, 18] (fun _ _ _ _ _ i wr => ∃ k : Nat, k ≤ m.length ∧ i = .int .i64 k ∧ Hid (∀ r, r < k → likeP m0 (m.getD r []) = true) ∧ Hid (StkJ w p4 m N W H k wr)) (fun _ _ _ _ _ i _ => m.length - (intOf i).toNat)
  case atStart => exact ⟨0, Nat.zero_le _, rfl, fun r hr => by omega, HST⟩
  case round =>
    clear HST
    obtain ⟨k, hk, rfl, HL, HS⟩ := hrel
    obtain ⟨wo, rfl⟩ : ∃ wo : World, wo = wr := ⟨_, rfl⟩
    by_cases hlt : k < m.length
    · have hlt' : (k : Int) < (m.length : Int) := by omega
      have hk0 : (0 : Int) ≤ (k : Int) := by omega
      obtain ⟨tt, htt⟩ : ∃ tt, m.getD k [] = tt := ⟨_, rfl⟩
      have HTT := Lib.hid htt
      obtain ⟨W3, hW3⟩ : ∃ W3, W3 = wo.alloc (.cells #[.slice (A k) (tt).length (C k)] 31) := ⟨_, rfl⟩
      have hx3 : wo.Ext W3 := by rw [hW3]; repeat (first | exact World.Ext.refl _ | exact ⟨_, rfl⟩ | assumption | refine World.Ext.over ?_ _ | refine World.Ext.drewN ?_ _ | refine World.Ext.drew ?_ | refine World.Ext.alloc ?_ _ | refine World.Ext.setCell ?_ (by simp) _)
      have c6 : W3.cell? ⟨wo.heap.size, 0, none⟩ = some (.slice (A k) (tt).length (C k)) := by rw [hW3]; simp [go_sem]
      have l6 := World.block_lt_of_cell? _ _ c6
      have HS3 := Lib.hid (HS.out.ext hx3)
      have ck := (HC.out wo HS.out.x k hlt).1
      rw [htt] at ck
      have c0 := HC0.out W3 HS3.out.x
      have lk := World.block_lt_of_cell? _ _ ck
      have l0 := World.block_lt_of_cell? _ _ c0
      have HT3 : Hid (∀ w', W3.Ext w' → Calls Tryz.prog 20 #[.agg #[.slice (A k) (tt).length (C k)], .agg #[.slice (A 0) H (C 0)]] w' (TwoNew w' (tt) m0 (likeP m0 (tt)))) := fun w' hx => by
        have h := HTW.out w' (HS3.out.x.trans hx) k hlt
        rw [htt] at h
        exact h
      clear htt
      have hE : W3.Ext W3 := World.Ext.refl _
      go_upto_region 7 with fail
      rw [← hW3]
      clear hW3 hx3 ck lk HS
      cases hl : likeP m0 (tt)
      · rw [hl] at HT3
        have HQ := Lib.hid (HQN.out (HNO.out k hlt (by rw [HTT.out]; exact hl)))
        clear hl HL
        go_cut [7, 8, 9] (fun u7 u8 u9 wc => StkF W3 u9 wc)
        case first =>
          go_region_held3 (fun w' => w'.cell? ⟨wo.heap.size, 0, none⟩ = some (.slice (A k) tt.length (C k)) ∧ w'.cell? ⟨b, o, none⟩ = some (.slice (A 0) H (C 0)))
            (first | (refine ⟨World.Ext.cell ?_ c6, World.Ext.cell ?_ c0⟩ <;> ((repeat (first | exact World.Ext.refl _ | exact ⟨_, rfl⟩ | assumption | refine World.Ext.over ?_ _ | refine World.Ext.drewN ?_ _ | refine World.Ext.drew ?_ | refine World.Ext.alloc ?_ _ | refine World.Ext.setCell ?_ ?_ _ | (simp; done))); done)) | (refine ⟨World.Ext.cell ?_ c6, World.Ext.cell ?_ c0⟩ <;> (refine World.Ext.trans ?_ hx4; (repeat (first | exact World.Ext.refl _ | exact ⟨_, rfl⟩ | assumption | refine World.Ext.over ?_ _ | refine World.Ext.drewN ?_ _ | refine World.Ext.drew ?_ | refine World.Ext.alloc ?_ _ | refine World.Ext.setCell ?_ ?_ _ | (simp; done))); done)) | (refine ⟨World.Ext.cell ?_ c6, World.Ext.cell ?_ c0⟩ <;> (refine World.Ext.trans ?_ (World.Ext.trans hx4 ?_) <;> ((repeat (first | exact World.Ext.refl _ | exact ⟨_, rfl⟩ | assumption | refine World.Ext.over ?_ _ | refine World.Ext.drewN ?_ _ | refine World.Ext.drew ?_ | refine World.Ext.alloc ?_ _ | refine World.Ext.setCell ?_ ?_ _ | (simp; done))); done))) | (refine ⟨World.Ext.cell ?_ c6, World.Ext.cell ?_ c0⟩ <;> exact hS _))
            (first | (go_at_call 20; go_loud (refine (HT3.out _ (by (repeat (first | exact World.Ext.refl _ | exact ⟨_, rfl⟩ | assumption | refine World.Ext.over ?_ _ | refine World.Ext.drewN ?_ _ | refine World.Ext.drew ?_ | refine World.Ext.alloc ?_ _ | refine World.Ext.setCell ?_ ?_ _ | (simp; done))))).mono ?_; rintro e w4 ⟨u, v, rfl, hx4⟩; (first | have hA := newCellD hx4 | have hA := newCell1 hx4 | skip); (try have hAl := World.block_lt_of_cell? w4 _ hA.1); (first | have hS := fun v => (StkF.two (W3 := W3) (v := v) hx4).2 | have hS := fun v => (StkF.three (W3 := W3) (v := v) hx4).2 | skip))))
          all_goals
            go_wp2_with fail
            go_meet
            first
              | exact StkF.one hx4
              | exact StkF.two hx4
              | exact StkF.three hx4
        case rest =>
          obtain ⟨rfl, hx⟩ := hcut
          have HS4 := Lib.hid (HS3.out.ext hx)
          obtain ⟨r1, r2, r3, HR⟩ := Res.storeM (lo := w.heap.size + 1) (.slice none 0 0) HS4.out.x (by omega) HS4.out.one (by omega) (OwnMat.none _ _ _ none)
          clear hx
          go_wp2
          exact bodyPost_ret (v := .tuple #[.agg #[.slice none 0 0], .bool false]) (by simp [results, Tryz.results8, go_sem, r3]) rfl (HQ.out _ HR.out.1)
      · rw [hl] at HT3
        have HL2 : Hid (∀ r, r < k + 1 → likeP m0 (m.getD r []) = true) := fun r hr => by
          by_cases e : r = k
          · rw [e, HTT.out]; exact hl
          · exact HL.out r (by omega)
        obtain ⟨dw, dh, dl, dw2, dh2⟩ := HDIM.out k (by rw [HTT.out]; exact hl)
        rw [HTT.out] at dw dh dl
        have HDWH := Lib.hid (show picW tt = W ∧ tt.length = H ∧ (picL tt).length = N from ⟨dw, dh, dl⟩)
        clear hl HL dw dh dl
        go_cut [7, 8, 9] (fun u7 u8 u9 wc => StkC W3 (picW (tt)) (tt).length (picL (tt)) u7 u9 wc)
        case first =>
          go_region_held3 (fun w' => w'.cell? ⟨wo.heap.size, 0, none⟩ = some (.slice (A k) tt.length (C k)) ∧ w'.cell? ⟨b, o, none⟩ = some (.slice (A 0) H (C 0)))
            (first | (refine ⟨World.Ext.cell ?_ c6, World.Ext.cell ?_ c0⟩ <;> ((repeat (first | exact World.Ext.refl _ | exact ⟨_, rfl⟩ | assumption | refine World.Ext.over ?_ _ | refine World.Ext.drewN ?_ _ | refine World.Ext.drew ?_ | refine World.Ext.alloc ?_ _ | refine World.Ext.setCell ?_ ?_ _ | (simp; done))); done)) | (refine ⟨World.Ext.cell ?_ c6, World.Ext.cell ?_ c0⟩ <;> (refine World.Ext.trans ?_ hx4; (repeat (first | exact World.Ext.refl _ | exact ⟨_, rfl⟩ | assumption | refine World.Ext.over ?_ _ | refine World.Ext.drewN ?_ _ | refine World.Ext.drew ?_ | refine World.Ext.alloc ?_ _ | refine World.Ext.setCell ?_ ?_ _ | (simp; done))); done)) | (refine ⟨World.Ext.cell ?_ c6, World.Ext.cell ?_ c0⟩ <;> (refine World.Ext.trans ?_ (World.Ext.trans hx4 ?_) <;> ((repeat (first | exact World.Ext.refl _ | exact ⟨_, rfl⟩ | assumption | refine World.Ext.over ?_ _ | refine World.Ext.drewN ?_ _ | refine World.Ext.drew ?_ | refine World.Ext.alloc ?_ _ | refine World.Ext.setCell ?_ ?_ _ | (simp; done))); done))) | (refine ⟨World.Ext.cell ?_ c6, World.Ext.cell ?_ c0⟩ <;> exact hS _))
            (first | (go_at_call 20; go_loud (refine (HT3.out _ (by (repeat (first | exact World.Ext.refl _ | exact ⟨_, rfl⟩ | assumption | refine World.Ext.over ?_ _ | refine World.Ext.drewN ?_ _ | refine World.Ext.drew ?_ | refine World.Ext.alloc ?_ _ | refine World.Ext.setCell ?_ ?_ _ | (simp; done))))).mono ?_; rintro e w4 ⟨b4, ab4, v4, rfl, hx4, hi4, hb4, hab4⟩; (first | have hA := newCellD hx4 | have hA := newCell1 hx4 | skip); (try have hAl := World.block_lt_of_cell? w4 _ hA.1); (first | have hS := fun v => (StkF.two (W3 := W3) (v := v) hx4).2 | have hS := fun v => (StkF.three (W3 := W3) (v := v) hx4).2 | skip))))
          all_goals
            go_wp2_with fail
            go_meet
            first
              | exact StkC.one hx4 hi4 hb4 hab4
              | exact StkC.two hx4 hi4 hb4 hab4
              | exact StkC.three hx4 hi4 hb4 hab4
        case rest =>
          obtain ⟨p7, b7, ab7, rfl, rfl, hx, h7, hi7, g1, g2, g3⟩ := hcut
          obtain ⟨dw, dh, dl⟩ := HDWH.out
          rw [dw, dh] at hi7
          clear dw dh
          have HS4 := Lib.hid (HS3.out.ext hx)
          have HP4 : p4 < W3.heap.size := by
            rcases HS3.out.tb with ⟨-, h⟩ | ⟨-, _, _, _, _, _, _, h, -⟩ <;> exact h.lt
          have hsz := hx.size
          have H7 := Lib.hid h7
          have HI7 := Lib.hid hi7
          have c7 := h7.cell
          have l7 := h7.lt
          have hN : H * W = N := HNN.out
          have HFIN : Hid (∀ (wE : World) (lo hi c' : Nat) (a' : Option Addr) (A' : Nat → Option Addr) (C' : Nat → Nat), w.Ext wE → One wE w.heap.size 26 (.slice none 0 0) → One wE p4 26 (.slice a' H c') → One wE p7 48 (.pointer (some ⟨b7, 0, none⟩)) → Img wE b7 ab7 W H (picL (tt)) → p4 < lo → hi ≤ wE.heap.size → ¬ (lo ≤ p7 ∧ p7 < hi) → ¬ (lo ≤ b7 ∧ b7 < hi) → ¬ (lo ≤ ab7 ∧ ab7 < hi) → OwnMat lo hi wE a' A' C' (grl W H (stkT m N k 0)) →
              Calls Tryz.prog 24 #[.pointer (some ⟨b7, 0, none⟩), .func (.func 25) #[] #[.pointer (some ⟨p4, 0, none⟩), .pointer (some ⟨p7, 0, none⟩)]] wE fun e w' => e = .returned (.tuple #[]) ∧ StkJ w p4 m N W H (k + 1) w') := fun wE lo hi c' a' A' C' hX hone h4 h7' hi' q1 q2 d7 db dab ho => by
            refine (stkEach_any wE p4 p7 b7 ab7 W H lo hi c' N k a' A' C' m hN (by omega) dw2 dh2 h4 h7' (by rw [HTT.out]; exact hi') (by omega) d7 db dab ho).mono ?_
            rintro e w' ⟨he, hw, ho'⟩
            have hlo := HS3.out.lo
            refine ⟨he, hX.wroteNew hw (fun k h1 h2 => by omega), hone.keep (hw.block _ hone.lt (by omega)), hlo, .inr ⟨by omega, a', c', A', C', lo, hi, h4.keep (hw.block _ h4.lt (by omega)), q1, Nat.le_trans q2 hw.size, ho'⟩⟩
          by_cases hk00 : k = 0
          · subst hk00
            have HGR : Hid (Calls Tryz.prog 22 #[.pointer (some ⟨b7, 0, none⟩), .func (.func 23) #[] #[]] wc (MatRet wc (grl W H (stkT m N 0 0)))) := by
              have h := grid_any b7 ab7 23 W H _ #[] (fun _ _ => 0) wc (by omega) (by omega) hi7 enters_stk1 (fun w' _ x y _ _ => stk1_any x y w')
              rw [grl_zero W H N m] at h
              exact h
            have H4 : Hid (One wc p4 26 (.slice none 0 0)) := by
              rcases HS4.out.tb with ⟨-, h⟩ | ⟨h, -⟩
              · exact h
              · omega
            have hb7 := hi7.lt
            have hab7 := hi7.px.lt
            clear hi7 h7 hx dl
            go_wp2_with fail
            refine HGR.out.mono ?_
            rintro e w5 ⟨a5, c5, A5, C5, rfl, hx5, hm5⟩
            rw [grl_len]
            have ho5 := hm5.mat (by decide)
            have h45 := H4.out.ext hx5
            have c4 := h45.cell
            have f4 := h45.free
            have l4 := h45.lt
            obtain ⟨W6, hW6⟩ : ∃ W6, W6 = w5.setCell ⟨p4, 0, none⟩ (.slice a5 H c5) := ⟨_, rfl⟩
            have HX6 : w.Ext W6 := by rw [hW6]; exact (HS4.out.x.trans hx5).setCell (p := ⟨p4, 0, none⟩) (Nat.le_of_lt HS4.out.lo) _
            have HE : Hid (Calls Tryz.prog 24 #[.pointer (some ⟨b7, 0, none⟩), .func (.func 25) #[] #[.pointer (some ⟨p4, 0, none⟩), .pointer (some ⟨p7, 0, none⟩)]] W6 fun e w' => e = .returned (.tuple #[]) ∧ StkJ w p4 m N W H (0 + 1) w') := by
              have hlo := HS4.out.lo
              have hl4 := H4.out.lt
              have hsz5 := hx5.size
              have hs6 : W6.heap.size = w5.heap.size := by rw [hW6]; simp [World.setCell]
              refine HFIN.out W6 wc.heap.size w5.heap.size c5 a5 A5 C5 HX6 ?_ ?_ ?_ ?_ hl4 (by omega) (by omega) (by omega) (by omega) ?_
              · rw [hW6]; exact (HS4.out.one.ext hx5).other (a := ⟨p4, 0, none⟩) (by dsimp only; omega) _
              · rw [hW6]; exact h45.set _
              · rw [hW6]; exact (H7.out.ext hx5).other (a := ⟨p4, 0, none⟩) (by dsimp only; omega) _
              · rw [hW6]; exact (HI7.out.ext hx5).keep (Below.heap_setCell _ _ _ _ (by dsimp only; omega)) (Below.heap_setCell _ _ _ _ (by dsimp only; omega))
              · rw [hW6]; exact ho5.wrote (Wrote.setCell (S := fun k => k = p4) (Wrote.refl _ _) (p := ⟨p4, 0, none⟩) rfl _) (fun k h1 h2 => by omega)
            have c76 : W6.cell? ⟨p7, 0, none⟩ = some (.pointer (some ⟨b7, 0, none⟩)) := by
              have hl4 := H4.out.lt
              rw [hW6]
              exact ((H7.out.ext hx5).other (a := ⟨p4, 0, none⟩) (by dsimp only; omega) _).cell
            have l76 := World.block_lt_of_cell? _ _ c76
            clear hm5 ho5 h45 hx5 HGR c7 l7 HFIN HX6 H7 HI7 H4 HS4 HS3
            go_upto_region 12 with fail
            rw [← hW6]
            clear hW6 c4 f4 l4
            go_wp2_with fail
            refine HE.out.mono ?_
            rintro e w8 ⟨rfl, hs8⟩
            have HS8 := Lib.hid hs8
            clear hs8 HE c76 l76
            go_wp2
            go_roundw
            case rel => exact ⟨0 + 1, by omega, by go_num, HL2, HS8⟩
            case measure => simp [intOf]; omega
          · have fk0 : ((k : Int) == 0) = false := by rw [beq_eq_false_iff_ne]; omega
            have HE : Hid (Calls Tryz.prog 24 #[.pointer (some ⟨b7, 0, none⟩), .func (.func 25) #[] #[.pointer (some ⟨p4, 0, none⟩), .pointer (some ⟨p7, 0, none⟩)]] wc fun e w' => e = .returned (.tuple #[]) ∧ StkJ w p4 m N W H (k + 1) w') := by
              rcases HS3.out.tb with ⟨h, -⟩ | ⟨-, a', c', A', C', lo, hi, t1, t2, t3, t4⟩
              · exact absurd h hk00
              · exact HFIN.out wc lo hi c' a' A' C' HS4.out.x HS4.out.one (t1.ext hx) h7 hi7 t2 (by omega) (by omega) (by omega) (by omega) (t4.ext hx)
            clear hi7 h7 hx dl HFIN H7 HI7 HS4 HS3
            go_wp2_with fail
            refine HE.out.mono ?_
            rintro e w8 ⟨rfl, hs8⟩
            have HS8 := Lib.hid hs8
            clear hs8 HE c7 l7
            go_wp2
            go_roundw
            case rel => exact ⟨k + 1, by omega, by go_num, HL2, HS8⟩
            case measure => simp [intOf]; omega
    · have hke : k = m.length := by omega
      subst hke
      have HQ := Lib.hid (HQY.out (HYES.out HL.out))
      obtain ⟨a', c', A', C', lo, hi, t1, t2, t3, t4⟩ : ∃ a c A C lo hi, One wo p4 26 (.slice a H c) ∧ p4 < lo ∧ hi ≤ wo.heap.size ∧ OwnMat lo hi wo a A C (grl W H (stkT m N m.length 0)) := by
        rcases HS.out.tb with ⟨h, -⟩ | ⟨-, h⟩
        · omega
        · exact h
      have hgl : G.length = H := by rw [HG.out, grl_len]
      rw [← HG.out] at t4
      rw [← hgl] at t1
      have hlo := HS.out.lo
      obtain ⟨r1, r2, r3, HR⟩ := Res.storeM (lo := lo) (.slice a' G.length c') HS.out.x (Nat.le_refl _) HS.out.one (by omega) (t4.mono (Nat.le_refl _) t3)
      have c4 := t1.cell
      have l4 := t1.lt
      have hl2 := HS.out.one.lt
      clear HS t1 t4 HL hgl
      go_wp2
      exact bodyPost_ret (v := .tuple #[.agg #[.slice a' G.length c'], .bool true]) (by simp [results, Tryz.results8, go_sem, r3]) rfl (HQ.out _ _ ⟨a', c', A', C', rfl, HR.out.1, HR.out.2⟩)
end Go.Proofs.YtkpgelhmeokemaaGreatDoor
