/- Two pictures of one size; what is reconstructed. -/
import Derived.Test.YtelaoimcaidoiaaDoorSprI
import Derived.Test.YtelaoimcaidoiaaDoorSpotS
import Derived.Test.YtelaoimcaidoiaaDoorDepF
import Derived.Deep.RegionWith
namespace Go.Proofs.YtelaoimcaidoiaaDoor
open Go.RowKit
theorem rowBits_rowStr (l : List Bool) : rowBits (rowStr l) = l := by
  unfold rowBits rowStr
  rw [strOfNums_data, List.map_map, List.map_map]
  conv => rhs; rw [← List.map_id l]
  refine List.map_congr_left fun b _ => ?_
  cases b <;> rfl
theorem rowStr_size (l : List Bool) : (rowStr l).size = l.length := by unfold rowStr; rw [strOfNums_size, List.length_map]
theorem picRows_at (W H : Nat) (l : List Bool) {y : Nat} (hy : y < H) : (picRows W H l).getD y ByteArray.empty = rowStr (rowAt W l y) := by
  unfold picRows
  simp [List.getD_eq_getElem?_getD, hy]
theorem picW_rows {W H : Nat} {l : List Bool} (h : 0 < H) (hl : l.length = W * H) : picW (picRows W H l) = W := by
  unfold picW
  rw [picRows_at W H l h, rowStr_size, rowAt_len W H l 0 hl h]
theorem even_rows {W H : Nat} {l : List Bool} (h : 0 < H) (hl : l.length = W * H) : Even (picRows W H l) :=
  ⟨by rw [picRows_len]; exact h, fun y hy => by
    rw [picRows_len] at hy
    rw [picRows_at W H l hy, rowStr_size, rowAt_len W H l y hl hy, picW_rows h hl]⟩
theorem rows_flat (W : Nat) (l : List Bool) : ∀ k, ((List.range k).map (rowAt W l)).flatten = l.take (k * W)
  | 0 => by simp
  | k + 1 => by
    rw [List.range_succ, List.map_append, List.flatten_append, rows_flat W l k, Nat.succ_mul, List.take_add]
    simp [rowAt]
theorem picL_rows {W H : Nat} {l : List Bool} (hl : l.length = W * H) : picL (picRows W H l) = l := by
  unfold picL picRows
  rw [List.map_map]
  have e : (rowBits ∘ fun y => rowStr (rowAt W l y)) = rowAt W l := by funext y; exact rowBits_rowStr _
  rw [e, rows_flat, Nat.mul_comm, ← hl, List.take_length]
def likeP (ss tt : List ByteArray) : Bool := picOk ss && picOk tt && decide (picW ss = picW tt) && decide (ss.length = tt.length)
theorem likeP_true {ss tt : List ByteArray} (h : likeP ss tt = true) : picOk ss = true ∧ picOk tt = true ∧ picW ss = picW tt ∧ ss.length = tt.length := by
  unfold likeP at h
  simp only [Bool.and_eq_true, decide_eq_true_eq] at h
  exact ⟨h.1.1.1, h.1.1.2, h.1.2, h.2⟩
/-- Two images of one size are returned, if both pictures are right. -/
def TwoRet (w : World) (ss tt : List ByteArray) (ok : Bool) (e : Ending) (w' : World) : Prop :=
  if ok then ∃ b ab b2 ab2, e = .returned (.tuple #[.pointer (some ⟨b, 0, none⟩), .pointer (some ⟨b2, 0, none⟩), .bool true]) ∧ w.Ext w' ∧ Img w' b ab (picW ss) ss.length (picL ss) ∧ Img w' b2 ab2 (picW tt) tt.length (picL tt)
  else ∃ u v, e = .returned (.tuple #[.pointer u, .pointer v, .bool false]) ∧ w.Ext w'
theorem TwoRet.no {w w' : World} {ss tt : List ByteArray} {u v : Option Addr} (hx : w.Ext w') : TwoRet w ss tt false (.returned (.tuple #[.pointer u, .pointer v, .bool false])) w' := ⟨u, v, rfl, hx⟩
theorem TwoRet.yes {w w' : World} {ss tt : List ByteArray} {b ab b2 ab2 : Nat} (hx : w.Ext w') (h1 : Img w' b ab (picW ss) ss.length (picL ss)) (h2 : Img w' b2 ab2 (picW tt) tt.length (picL tt)) :
    TwoRet w ss tt true (.returned (.tuple #[.pointer (some ⟨b, 0, none⟩), .pointer (some ⟨b2, 0, none⟩), .bool true])) w' := ⟨b, ab, b2, ab2, rfl, hx, h1, h2⟩
set_option maxRecDepth 5000 in
set_option maxHeartbeats 3200000 in
theorem twoImages_any (a : Option Addr) (c : Nat) (ss : List ByteArray) (a' : Option Addr) (c' : Nat) (tt : List ByteArray) (w : World) (hb : PicBnd ss) (hb' : PicBnd tt) (hm : RowS w a ss) (hm' : RowS w a' tt) :
    Calls Tryd.prog 44 #[.agg #[.slice a ss.length c], .agg #[.slice a' tt.length c']] w (TwoRet w ss tt (likeP ss tt)) := by
  have HI1 : Hid (∀ w', w.Ext w' → Calls Tryd.prog 23 #[.agg #[.slice a ss.length c]] w' (ImgOf w' ss (picOk ss))) := fun w' hx => imageOf_any a c ss w' hb.1 hb.2 (hm.ext hx) _ rfl
  have HI2 : Hid (∀ w', w.Ext w' → Calls Tryd.prog 23 #[.agg #[.slice a' tt.length c']] w' (ImgOf w' tt (picOk tt))) := fun w' hx => imageOf_any a' c' tt w' hb'.1 hb'.2 (hm'.ext hx) _ rfl
  unfold likeP
  cases h1 : picOk ss <;> cases h2 : picOk tt
  · rw [h1] at HI1
    rw [h2] at HI2
    simp only [Bool.false_and]
    clear h1 h2 hb hb' hm hm'
    go_enter Tryd.func44, Tryd.ntmps44
    go_wp2_with fail
    refine (HI1.out _ (by repeat (first | exact World.Ext.refl _ | exact ⟨_, rfl⟩ | assumption | refine World.Ext.over ?_ _ | refine World.Ext.drewN ?_ _ | refine World.Ext.drew ?_ | refine World.Ext.alloc ?_ _ | refine World.Ext.setCell ?_ (by simp) _))).mono ?_
    rintro e w1 ⟨rfl, hx⟩
    have hx1 : w.Ext w1 := World.Ext.trans (by repeat (first | exact World.Ext.refl _ | exact ⟨_, rfl⟩ | assumption | refine World.Ext.over ?_ _ | refine World.Ext.drewN ?_ _ | refine World.Ext.drew ?_ | refine World.Ext.alloc ?_ _ | refine World.Ext.setCell ?_ (by simp) _)) hx
    have d0 : w1.cell? ⟨w.heap.size + 1, 0, none⟩ = some (.slice a' tt.length c') := hx.cell (by simp [go_sem])
    clear hx
    go_wp2_with fail
    refine (HI2.out _ hx1).mono ?_
    rintro e w2 ⟨rfl, hx2⟩
    clear d0
    go_wp2_with fail
    refine wp_region_over_lit (by kernel_rfl) (by kernel_rfl) ?_; (repeat (go_big_quiet_step (fail))); refine wpQuiet_nil ?_; rintro _ ⟨x1, rfl⟩
    have HX := Lib.hid ((hx1.trans hx2).trans (show w2.Ext (w2.over x1) from ⟨x1, rfl⟩))
    clear hx1 hx2
    go_wp2
    go_ret3
    exact TwoRet.no HX.out
  · rw [h1] at HI1
    rw [h2] at HI2
    simp only [Bool.false_and]
    clear h1 h2 hb hb' hm hm'
    go_enter Tryd.func44, Tryd.ntmps44
    go_wp2_with fail
    refine (HI1.out _ (by repeat (first | exact World.Ext.refl _ | exact ⟨_, rfl⟩ | assumption | refine World.Ext.over ?_ _ | refine World.Ext.drewN ?_ _ | refine World.Ext.drew ?_ | refine World.Ext.alloc ?_ _ | refine World.Ext.setCell ?_ (by simp) _))).mono ?_
    rintro e w1 ⟨rfl, hx⟩
    have hx1 : w.Ext w1 := World.Ext.trans (by repeat (first | exact World.Ext.refl _ | exact ⟨_, rfl⟩ | assumption | refine World.Ext.over ?_ _ | refine World.Ext.drewN ?_ _ | refine World.Ext.drew ?_ | refine World.Ext.alloc ?_ _ | refine World.Ext.setCell ?_ (by simp) _)) hx
    have d0 : w1.cell? ⟨w.heap.size + 1, 0, none⟩ = some (.slice a' tt.length c') := hx.cell (by simp [go_sem])
    clear hx
    go_wp2_with fail
    refine (HI2.out _ hx1).mono ?_
    rintro e w2 ⟨b, ab, rfl, hx2, -, -, -⟩
    clear d0
    go_wp2_with fail
    refine wp_region_over_lit (by kernel_rfl) (by kernel_rfl) ?_; (repeat (go_big_quiet_step (fail))); refine wpQuiet_nil ?_; rintro _ ⟨x1, rfl⟩
    have HX := Lib.hid ((hx1.trans hx2).trans (show w2.Ext (w2.over x1) from ⟨x1, rfl⟩))
    clear hx1 hx2
    go_wp2
    go_ret3
    exact TwoRet.no HX.out
  · rw [h1] at HI1
    rw [h2] at HI2
    simp only [Bool.true_and, Bool.false_and]
    clear h1 h2 hb hb' hm hm'
    go_enter Tryd.func44, Tryd.ntmps44
    go_wp2_with fail
    refine (HI1.out _ (by repeat (first | exact World.Ext.refl _ | exact ⟨_, rfl⟩ | assumption | refine World.Ext.over ?_ _ | refine World.Ext.drewN ?_ _ | refine World.Ext.drew ?_ | refine World.Ext.alloc ?_ _ | refine World.Ext.setCell ?_ (by simp) _))).mono ?_
    rintro e w1 ⟨b, ab, rfl, hx, -, -, -⟩
    have hx1 : w.Ext w1 := World.Ext.trans (by repeat (first | exact World.Ext.refl _ | exact ⟨_, rfl⟩ | assumption | refine World.Ext.over ?_ _ | refine World.Ext.drewN ?_ _ | refine World.Ext.drew ?_ | refine World.Ext.alloc ?_ _ | refine World.Ext.setCell ?_ (by simp) _)) hx
    have d0 : w1.cell? ⟨w.heap.size + 1, 0, none⟩ = some (.slice a' tt.length c') := hx.cell (by simp [go_sem])
    clear hx
    go_wp2_with fail
    refine (HI2.out _ hx1).mono ?_
    rintro e w2 ⟨rfl, hx2⟩
    clear d0
    go_wp2_with fail
    refine wp_region_over_lit (by kernel_rfl) (by kernel_rfl) ?_; (repeat (go_big_quiet_step (fail))); refine wpQuiet_nil ?_; rintro _ ⟨x1, rfl⟩
    have HX := Lib.hid ((hx1.trans hx2).trans (show w2.Ext (w2.over x1) from ⟨x1, rfl⟩))
    clear hx1 hx2
    go_wp2
    go_ret3
    exact TwoRet.no HX.out
  · rw [h1] at HI1
    rw [h2] at HI2
    simp only [Bool.true_and]
    clear h1 h2 hb hb' hm hm'
    by_cases hw : picW ss = picW tt
    · have f1 : ((picW ss : Int) == (picW tt : Int)) = true := by simp; omega
      by_cases hh : ss.length = tt.length
      · have f2 : ((ss.length : Int) == (tt.length : Int)) = true := by simp; omega
        rw [decide_eq_true hw, decide_eq_true hh]
        simp only [Bool.true_and]
        clear hw hh
        go_enter Tryd.func44, Tryd.ntmps44
        go_wp2_with fail
        refine (HI1.out _ (by repeat (first | exact World.Ext.refl _ | exact ⟨_, rfl⟩ | assumption | refine World.Ext.over ?_ _ | refine World.Ext.drewN ?_ _ | refine World.Ext.drew ?_ | refine World.Ext.alloc ?_ _ | refine World.Ext.setCell ?_ (by simp) _))).mono ?_
        rintro e w1 ⟨b, ab, rfl, hx, hi, -, -⟩
        have hx1 : w.Ext w1 := World.Ext.trans (by repeat (first | exact World.Ext.refl _ | exact ⟨_, rfl⟩ | assumption | refine World.Ext.over ?_ _ | refine World.Ext.drewN ?_ _ | refine World.Ext.drew ?_ | refine World.Ext.alloc ?_ _ | refine World.Ext.setCell ?_ (by simp) _)) hx
        have d0 : w1.cell? ⟨w.heap.size + 1, 0, none⟩ = some (.slice a' tt.length c') := hx.cell (by simp [go_sem])
        have HIA := Lib.hid hi
        clear hx hi
        go_wp2_with fail
        refine (HI2.out _ hx1).mono ?_
        rintro e w2 ⟨b2, ab2, rfl, hx2, hi2, -, -⟩
        have HIB := Lib.hid hi2
        have HIC := Lib.hid (HIA.out.ext hx2)
        have c0 := HIC.out.c0
        have c1 := HIC.out.c1
        have c2 := HIB.out.c0
        have c3 := HIB.out.c1
        clear d0 hi2 HIA
        go_wp2_with fail
        refine wp_region_over_lit (by kernel_rfl) (by kernel_rfl) ?_; (repeat (go_big_quiet_step (fail))); refine wpQuiet_nil ?_; rintro _ ⟨x1, rfl⟩
        have HX := Lib.hid ((hx1.trans hx2).trans (show w2.Ext (w2.over x1) from ⟨x1, rfl⟩))
        have HID := Lib.hid (HIC.out.ext (show w2.Ext (w2.over x1) from ⟨x1, rfl⟩))
        have HIE := Lib.hid (HIB.out.ext (show w2.Ext (w2.over x1) from ⟨x1, rfl⟩))
        clear hx1 hx2 c0 c1 c2 c3 HIB HIC
        go_wp2
        go_ret3
        exact TwoRet.yes HX.out HID.out HIE.out
      · have f2 : ((ss.length : Int) == (tt.length : Int)) = false := by simp; omega
        rw [decide_eq_false hh, Bool.and_false]
        clear hw hh
        go_enter Tryd.func44, Tryd.ntmps44
        go_wp2_with fail
        refine (HI1.out _ (by repeat (first | exact World.Ext.refl _ | exact ⟨_, rfl⟩ | assumption | refine World.Ext.over ?_ _ | refine World.Ext.drewN ?_ _ | refine World.Ext.drew ?_ | refine World.Ext.alloc ?_ _ | refine World.Ext.setCell ?_ (by simp) _))).mono ?_
        rintro e w1 ⟨b, ab, rfl, hx, hi, -, -⟩
        have hx1 : w.Ext w1 := World.Ext.trans (by repeat (first | exact World.Ext.refl _ | exact ⟨_, rfl⟩ | assumption | refine World.Ext.over ?_ _ | refine World.Ext.drewN ?_ _ | refine World.Ext.drew ?_ | refine World.Ext.alloc ?_ _ | refine World.Ext.setCell ?_ (by simp) _)) hx
        have d0 : w1.cell? ⟨w.heap.size + 1, 0, none⟩ = some (.slice a' tt.length c') := hx.cell (by simp [go_sem])
        have HIA := Lib.hid hi
        clear hx hi
        go_wp2_with fail
        refine (HI2.out _ hx1).mono ?_
        rintro e w2 ⟨b2, ab2, rfl, hx2, hi2, -, -⟩
        have HIB := Lib.hid hi2
        have HIC := Lib.hid (HIA.out.ext hx2)
        have c0 := HIC.out.c0
        have c1 := HIC.out.c1
        have c2 := HIB.out.c0
        have c3 := HIB.out.c1
        clear d0 hi2 HIA
        go_wp2_with fail
        refine wp_region_over_lit (by kernel_rfl) (by kernel_rfl) ?_; (repeat (go_big_quiet_step (fail))); refine wpQuiet_nil ?_; rintro _ ⟨x1, rfl⟩
        have HX := Lib.hid ((hx1.trans hx2).trans (show w2.Ext (w2.over x1) from ⟨x1, rfl⟩))
        have HID := Lib.hid (HIC.out.ext (show w2.Ext (w2.over x1) from ⟨x1, rfl⟩))
        have HIE := Lib.hid (HIB.out.ext (show w2.Ext (w2.over x1) from ⟨x1, rfl⟩))
        clear hx1 hx2 c0 c1 c2 c3 HIB HIC
        go_wp2
        go_ret3
        exact TwoRet.no HX.out
    · have f1 : ((picW ss : Int) == (picW tt : Int)) = false := by simp; omega
      rw [decide_eq_false hw, Bool.false_and]
      clear hw
      go_enter Tryd.func44, Tryd.ntmps44
      go_wp2_with fail
      refine (HI1.out _ (by repeat (first | exact World.Ext.refl _ | exact ⟨_, rfl⟩ | assumption | refine World.Ext.over ?_ _ | refine World.Ext.drewN ?_ _ | refine World.Ext.drew ?_ | refine World.Ext.alloc ?_ _ | refine World.Ext.setCell ?_ (by simp) _))).mono ?_
      rintro e w1 ⟨b, ab, rfl, hx, hi, -, -⟩
      have hx1 : w.Ext w1 := World.Ext.trans (by repeat (first | exact World.Ext.refl _ | exact ⟨_, rfl⟩ | assumption | refine World.Ext.over ?_ _ | refine World.Ext.drewN ?_ _ | refine World.Ext.drew ?_ | refine World.Ext.alloc ?_ _ | refine World.Ext.setCell ?_ (by simp) _)) hx
      have d0 : w1.cell? ⟨w.heap.size + 1, 0, none⟩ = some (.slice a' tt.length c') := hx.cell (by simp [go_sem])
      have HIA := Lib.hid hi
      clear hx hi
      go_wp2_with fail
      refine (HI2.out _ hx1).mono ?_
      rintro e w2 ⟨b2, ab2, rfl, hx2, hi2, -, -⟩
      have HIB := Lib.hid hi2
      have HIC := Lib.hid (HIA.out.ext hx2)
      have c0 := HIC.out.c0
      have c1 := HIC.out.c1
      have c2 := HIB.out.c0
      have c3 := HIB.out.c1
      clear d0 hi2 HIA
      go_wp2_with fail
      refine wp_region_over_lit (by kernel_rfl) (by kernel_rfl) ?_; (repeat (go_big_quiet_step (fail))); refine wpQuiet_nil ?_; rintro _ ⟨x1, rfl⟩
      have HX := Lib.hid ((hx1.trans hx2).trans (show w2.Ext (w2.over x1) from ⟨x1, rfl⟩))
      have HID := Lib.hid (HIC.out.ext (show w2.Ext (w2.over x1) from ⟨x1, rfl⟩))
      have HIE := Lib.hid (HIB.out.ext (show w2.Ext (w2.over x1) from ⟨x1, rfl⟩))
      clear hx1 hx2 c0 c1 c2 c3 HIB HIC
      go_wp2
      go_ret3
      exact TwoRet.no HX.out
end Go.Proofs.YtelaoimcaidoiaaDoor
