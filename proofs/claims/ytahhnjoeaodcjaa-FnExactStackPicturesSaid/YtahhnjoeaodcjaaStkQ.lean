/- The program's two images, told to be new. -/
import Derived.Test.YtahhnjoeaodcjaaRecP
namespace Go.Proofs.Ytahhnjoeaodcjaa
open Go.RowKit
def TwoNew (w : World) (ss _ : List ByteArray) (ok : Bool) (e : Ending) (w' : World) : Prop :=
  if ok then ∃ b ab v, e = .returned (.tuple #[.pointer (some ⟨b, 0, none⟩), .pointer v, .bool true]) ∧ w.Ext w' ∧ Img w' b ab (picW ss) ss.length (picL ss) ∧ w.heap.size ≤ b ∧ w.heap.size ≤ ab
  else ∃ u v, e = .returned (.tuple #[.pointer u, .pointer v, .bool false]) ∧ w.Ext w'
theorem TwoNew.no {w w' : World} {ss tt : List ByteArray} {u v : Option Addr} (hx : w.Ext w') : TwoNew w ss tt false (.returned (.tuple #[.pointer u, .pointer v, .bool false])) w' := ⟨u, v, rfl, hx⟩
theorem TwoNew.yes {w w' : World} {ss tt : List ByteArray} {b ab : Nat} {v : Option Addr} (hx : w.Ext w') (h1 : Img w' b ab (picW ss) ss.length (picL ss)) (h2 : w.heap.size ≤ b ∧ w.heap.size ≤ ab) :
    TwoNew w ss tt true (.returned (.tuple #[.pointer (some ⟨b, 0, none⟩), .pointer v, .bool true])) w' := ⟨b, ab, v, rfl, hx, h1, h2⟩
set_option maxRecDepth 5000 in
set_option maxHeartbeats 3200000 in
theorem twoImages_new (a : Option Addr) (c : Nat) (ss : List ByteArray) (a' : Option Addr) (c' : Nat) (tt : List ByteArray) (w : World) (hb : PicBnd ss) (hb' : PicBnd tt) (hm : RowS w a ss) (hm' : RowS w a' tt) :
    Calls Try.prog 104 #[.agg #[.slice a ss.length c], .agg #[.slice a' tt.length c']] w (TwoNew w ss tt (likeP ss tt)) := by
  have HI1 : Hid (∀ w', w.Ext w' → Calls Try.prog 90 #[.agg #[.slice a ss.length c]] w' (ImgOf w' ss (picOk ss))) := fun w' hx => imageOf_any a c ss w' hb.1 hb.2 (hm.ext hx) _ rfl
  have HI2 : Hid (∀ w', w.Ext w' → Calls Try.prog 90 #[.agg #[.slice a' tt.length c']] w' (ImgOf w' tt (picOk tt))) := fun w' hx => imageOf_any a' c' tt w' hb'.1 hb'.2 (hm'.ext hx) _ rfl
  unfold likeP
  cases h1 : picOk ss <;> cases h2 : picOk tt
  · rw [h1] at HI1
    rw [h2] at HI2
    simp only [Bool.false_and]
    clear h1 h2 hb hb' hm hm'
    go_enter Try.func104, Try.ntmps104
    go_wp2_with fail
    refine (HI1.out _ (by repeat (first | exact World.Ext.refl _ | exact ⟨_, rfl⟩ | assumption | refine World.Ext.over ?_ _ | refine World.Ext.drewN ?_ _ | refine World.Ext.drew ?_ | refine World.Ext.alloc ?_ _ | refine World.Ext.setCell ?_ (by simp) _))).mono ?_
    rintro e w1 ⟨rfl, hx⟩
    have hx1 : w.Ext w1 := World.Ext.trans (by repeat (first | exact World.Ext.refl _ | exact ⟨_, rfl⟩ | assumption | refine World.Ext.over ?_ _ | refine World.Ext.drewN ?_ _ | refine World.Ext.drew ?_ | refine World.Ext.alloc ?_ _ | refine World.Ext.setCell ?_ (by simp) _)) hx
    have d0 : w1.cell? ⟨w.heap.size + 1, 0, none⟩ = some (.slice a' tt.length c') := hx.cell (by simp [go_sem])
    clear hx
    go_wp2_with fail
    refine (HI2.out _ hx1).mono ?_
    rintro e w2 ⟨rfl, hx2⟩
    clear d0
    go_wp2_with fail
    refine wp_region_over_lit (by kernel_rfl) (by kernel_rfl) ?_; (repeat (go_big_quiet_step (fail))); refine wpQuiet_nil ?_; rintro _ ⟨x1, rfl⟩
    have HX := Lib.hid ((hx1.trans hx2).trans (show w2.Ext (w2.over x1) from ⟨x1, rfl⟩))
    clear hx1 hx2
    go_wp2
    go_ret3
    exact TwoNew.no HX.out
  · rw [h1] at HI1
    rw [h2] at HI2
    simp only [Bool.false_and]
    clear h1 h2 hb hb' hm hm'
    go_enter Try.func104, Try.ntmps104
    go_wp2_with fail
    refine (HI1.out _ (by repeat (first | exact World.Ext.refl _ | exact ⟨_, rfl⟩ | assumption | refine World.Ext.over ?_ _ | refine World.Ext.drewN ?_ _ | refine World.Ext.drew ?_ | refine World.Ext.alloc ?_ _ | refine World.Ext.setCell ?_ (by simp) _))).mono ?_
    rintro e w1 ⟨rfl, hx⟩
    have hx1 : w.Ext w1 := World.Ext.trans (by repeat (first | exact World.Ext.refl _ | exact ⟨_, rfl⟩ | assumption | refine World.Ext.over ?_ _ | refine World.Ext.drewN ?_ _ | refine World.Ext.drew ?_ | refine World.Ext.alloc ?_ _ | refine World.Ext.setCell ?_ (by simp) _)) hx
    have d0 : w1.cell? ⟨w.heap.size + 1, 0, none⟩ = some (.slice a' tt.length c') := hx.cell (by simp [go_sem])
    clear hx
    go_wp2_with fail
    refine (HI2.out _ hx1).mono ?_
    rintro e w2 ⟨b, ab, rfl, hx2, -, -, -⟩
    clear d0
    go_wp2_with fail
    refine wp_region_over_lit (by kernel_rfl) (by kernel_rfl) ?_; (repeat (go_big_quiet_step (fail))); refine wpQuiet_nil ?_; rintro _ ⟨x1, rfl⟩
    have HX := Lib.hid ((hx1.trans hx2).trans (show w2.Ext (w2.over x1) from ⟨x1, rfl⟩))
    clear hx1 hx2
    go_wp2
    go_ret3
    exact TwoNew.no HX.out
  · rw [h1] at HI1
    rw [h2] at HI2
    simp only [Bool.true_and, Bool.false_and]
    clear h1 h2 hb hb' hm hm'
    go_enter Try.func104, Try.ntmps104
    go_wp2_with fail
    refine (HI1.out _ (by repeat (first | exact World.Ext.refl _ | exact ⟨_, rfl⟩ | assumption | refine World.Ext.over ?_ _ | refine World.Ext.drewN ?_ _ | refine World.Ext.drew ?_ | refine World.Ext.alloc ?_ _ | refine World.Ext.setCell ?_ (by simp) _))).mono ?_
    rintro e w1 ⟨b, ab, rfl, hx, -, -, -⟩
    have hx1 : w.Ext w1 := World.Ext.trans (by repeat (first | exact World.Ext.refl _ | exact ⟨_, rfl⟩ | assumption | refine World.Ext.over ?_ _ | refine World.Ext.drewN ?_ _ | refine World.Ext.drew ?_ | refine World.Ext.alloc ?_ _ | refine World.Ext.setCell ?_ (by simp) _)) hx
    have d0 : w1.cell? ⟨w.heap.size + 1, 0, none⟩ = some (.slice a' tt.length c') := hx.cell (by simp [go_sem])
    clear hx
    go_wp2_with fail
    refine (HI2.out _ hx1).mono ?_
    rintro e w2 ⟨rfl, hx2⟩
    clear d0
    go_wp2_with fail
    refine wp_region_over_lit (by kernel_rfl) (by kernel_rfl) ?_; (repeat (go_big_quiet_step (fail))); refine wpQuiet_nil ?_; rintro _ ⟨x1, rfl⟩
    have HX := Lib.hid ((hx1.trans hx2).trans (show w2.Ext (w2.over x1) from ⟨x1, rfl⟩))
    clear hx1 hx2
    go_wp2
    go_ret3
    exact TwoNew.no HX.out
  · rw [h1] at HI1
    rw [h2] at HI2
    simp only [Bool.true_and]
    clear h1 h2 hb hb' hm hm'
    by_cases hw : picW ss = picW tt
    · have f1 : ((picW ss : Int) == (picW tt : Int)) = true := by simp; omega
      by_cases hh : ss.length = tt.length
      · have f2 : ((ss.length : Int) == (tt.length : Int)) = true := by simp; omega
        rw [decide_eq_true hw, decide_eq_true hh]
        simp only [Bool.true_and]
        clear hw hh
        go_enter Try.func104, Try.ntmps104
        go_wp2_with fail
        refine (HI1.out _ (by repeat (first | exact World.Ext.refl _ | exact ⟨_, rfl⟩ | assumption | refine World.Ext.over ?_ _ | refine World.Ext.drewN ?_ _ | refine World.Ext.drew ?_ | refine World.Ext.alloc ?_ _ | refine World.Ext.setCell ?_ (by simp) _))).mono ?_
        rintro e w1 ⟨b, ab, rfl, hx, hi, hq1, hq2⟩
        have HQ := Lib.hid (show w.heap.size ≤ b ∧ w.heap.size ≤ ab from ⟨by simp at hq1; omega, by simp at hq2; omega⟩)
        clear hq1 hq2
        have hx1 : w.Ext w1 := World.Ext.trans (by repeat (first | exact World.Ext.refl _ | exact ⟨_, rfl⟩ | assumption | refine World.Ext.over ?_ _ | refine World.Ext.drewN ?_ _ | refine World.Ext.drew ?_ | refine World.Ext.alloc ?_ _ | refine World.Ext.setCell ?_ (by simp) _)) hx
        have d0 : w1.cell? ⟨w.heap.size + 1, 0, none⟩ = some (.slice a' tt.length c') := hx.cell (by simp [go_sem])
        have HIA := Lib.hid hi
        clear hx hi
        go_wp2_with fail
        refine (HI2.out _ hx1).mono ?_
        rintro e w2 ⟨b2, ab2, rfl, hx2, hi2, -, -⟩
        have HIB := Lib.hid hi2
        have HIC := Lib.hid (HIA.out.ext hx2)
        have c0 := HIC.out.c0
        have c1 := HIC.out.c1
        have c2 := HIB.out.c0
        have c3 := HIB.out.c1
        clear d0 hi2 HIA
        go_wp2_with fail
        refine wp_region_over_lit (by kernel_rfl) (by kernel_rfl) ?_; (repeat (go_big_quiet_step (fail))); refine wpQuiet_nil ?_; rintro _ ⟨x1, rfl⟩
        have HX := Lib.hid ((hx1.trans hx2).trans (show w2.Ext (w2.over x1) from ⟨x1, rfl⟩))
        have HID := Lib.hid (HIC.out.ext (show w2.Ext (w2.over x1) from ⟨x1, rfl⟩))
        have HIE := Lib.hid (HIB.out.ext (show w2.Ext (w2.over x1) from ⟨x1, rfl⟩))
        clear hx1 hx2 c0 c1 c2 c3 HIB HIC
        go_wp2
        go_ret3
        exact TwoNew.yes HX.out HID.out HQ.out
      · have f2 : ((ss.length : Int) == (tt.length : Int)) = false := by simp; omega
        rw [decide_eq_false hh, Bool.and_false]
        clear hw hh
        go_enter Try.func104, Try.ntmps104
        go_wp2_with fail
        refine (HI1.out _ (by repeat (first | exact World.Ext.refl _ | exact ⟨_, rfl⟩ | assumption | refine World.Ext.over ?_ _ | refine World.Ext.drewN ?_ _ | refine World.Ext.drew ?_ | refine World.Ext.alloc ?_ _ | refine World.Ext.setCell ?_ (by simp) _))).mono ?_
        rintro e w1 ⟨b, ab, rfl, hx, hi, -, -⟩
        have hx1 : w.Ext w1 := World.Ext.trans (by repeat (first | exact World.Ext.refl _ | exact ⟨_, rfl⟩ | assumption | refine World.Ext.over ?_ _ | refine World.Ext.drewN ?_ _ | refine World.Ext.drew ?_ | refine World.Ext.alloc ?_ _ | refine World.Ext.setCell ?_ (by simp) _)) hx
        have d0 : w1.cell? ⟨w.heap.size + 1, 0, none⟩ = some (.slice a' tt.length c') := hx.cell (by simp [go_sem])
        have HIA := Lib.hid hi
        clear hx hi
        go_wp2_with fail
        refine (HI2.out _ hx1).mono ?_
        rintro e w2 ⟨b2, ab2, rfl, hx2, hi2, -, -⟩
        have HIB := Lib.hid hi2
        have HIC := Lib.hid (HIA.out.ext hx2)
        have c0 := HIC.out.c0
        have c1 := HIC.out.c1
        have c2 := HIB.out.c0
        have c3 := HIB.out.c1
        clear d0 hi2 HIA
        go_wp2_with fail
        refine wp_region_over_lit (by kernel_rfl) (by kernel_rfl) ?_; (repeat (go_big_quiet_step (fail))); refine wpQuiet_nil ?_; rintro _ ⟨x1, rfl⟩
        have HX := Lib.hid ((hx1.trans hx2).trans (show w2.Ext (w2.over x1) from ⟨x1, rfl⟩))
        have HID := Lib.hid (HIC.out.ext (show w2.Ext (w2.over x1) from ⟨x1, rfl⟩))
        have HIE := Lib.hid (HIB.out.ext (show w2.Ext (w2.over x1) from ⟨x1, rfl⟩))
        clear hx1 hx2 c0 c1 c2 c3 HIB HIC
        go_wp2
        go_ret3
        exact TwoNew.no HX.out
    · have f1 : ((picW ss : Int) == (picW tt : Int)) = false := by simp; omega
      rw [decide_eq_false hw, Bool.false_and]
      clear hw
      go_enter Try.func104, Try.ntmps104
      go_wp2_with fail
      refine (HI1.out _ (by repeat (first | exact World.Ext.refl _ | exact ⟨_, rfl⟩ | assumption | refine World.Ext.over ?_ _ | refine World.Ext.drewN ?_ _ | refine World.Ext.drew ?_ | refine World.Ext.alloc ?_ _ | refine World.Ext.setCell ?_ (by simp) _))).mono ?_
      rintro e w1 ⟨b, ab, rfl, hx, hi, -, -⟩
      have hx1 : w.Ext w1 := World.Ext.trans (by repeat (first | exact World.Ext.refl _ | exact ⟨_, rfl⟩ | assumption | refine World.Ext.over ?_ _ | refine World.Ext.drewN ?_ _ | refine World.Ext.drew ?_ | refine World.Ext.alloc ?_ _ | refine World.Ext.setCell ?_ (by simp) _)) hx
      have d0 : w1.cell? ⟨w.heap.size + 1, 0, none⟩ = some (.slice a' tt.length c') := hx.cell (by simp [go_sem])
      have HIA := Lib.hid hi
      clear hx hi
      go_wp2_with fail
      refine (HI2.out _ hx1).mono ?_
      rintro e w2 ⟨b2, ab2, rfl, hx2, hi2, -, -⟩
      have HIB := Lib.hid hi2
      have HIC := Lib.hid (HIA.out.ext hx2)
      have c0 := HIC.out.c0
      have c1 := HIC.out.c1
      have c2 := HIB.out.c0
      have c3 := HIB.out.c1
      clear d0 hi2 HIA
      go_wp2_with fail
      refine wp_region_over_lit (by kernel_rfl) (by kernel_rfl) ?_; (repeat (go_big_quiet_step (fail))); refine wpQuiet_nil ?_; rintro _ ⟨x1, rfl⟩
      have HX := Lib.hid ((hx1.trans hx2).trans (show w2.Ext (w2.over x1) from ⟨x1, rfl⟩))
      have HID := Lib.hid (HIC.out.ext (show w2.Ext (w2.over x1) from ⟨x1, rfl⟩))
      have HIE := Lib.hid (HIB.out.ext (show w2.Ext (w2.over x1) from ⟨x1, rfl⟩))
      clear hx1 hx2 c0 c1 c2 c3 HIB HIC
      go_wp2
      go_ret3
      exact TwoNew.no HX.out
end Go.Proofs.Ytahhnjoeaodcjaa
