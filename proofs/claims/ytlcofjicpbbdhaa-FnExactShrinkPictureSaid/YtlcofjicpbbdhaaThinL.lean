/- ThinPicture and ShrinkPicture, both sides. -/
import Derived.Test.YtlcofjicpbbdhaaThinI
namespace Go.Proofs.Ytlcofjicpbbdhaa
open Go Go.RowKit
/-- What is left of a valid picture. -/
def ThinO (ss : List ByteArray) (eight : Bool) (least : Nat) (res : List Bool) : Prop := picOk ss = true → ThinR (picW ss) ss.length eight least (picL ss) res
theorem ThinO.ex (ss : List ByteArray) (eight : Bool) (least : Nat) : ∃ res, ThinO ss eight least res := by
  cases h : picOk ss
  · exact ⟨[], fun h2 => by rw [h] at h2; cases h2⟩
  · obtain ⟨v1, v2, v3, v4, e1, -⟩ := picOk_spec h
    obtain ⟨res, hr⟩ := ThinR.ex (picW ss) ss.length eight least (picL ss) (picL_len e1)
    exact ⟨res, fun _ => hr⟩
set_option maxRecDepth 5000 in
set_option maxHeartbeats 1600000 in
theorem specThin_any (a : Option Addr) (c : Nat) (ss : List ByteArray) (eight : Bool) (res : List Bool) (hR : ThinO ss eight 2 res) (w : World) (hb : PicBnd ss) (hm : RowS w a ss) :
    Calls Try.prog 25 #[.agg #[.slice a ss.length c], .bool eight] w (PicRet2 w (optRows (picOk ss) (picRows (picW ss) ss.length res)) (picOk ss)) := by
  obtain ⟨W0, hW0⟩ : ∃ W0, W0 = (w.alloc (.cells #[.slice a ss.length c] 26)).alloc (.cells #[.slice none 0 0] 26) := ⟨_, rfl⟩
  have hx0 : w.Ext W0 := by rw [hW0]; repeat (first | exact World.Ext.refl _ | exact ⟨_, rfl⟩ | assumption | refine World.Ext.over ?_ _ | refine World.Ext.drewN ?_ _ | refine World.Ext.drew ?_ | refine World.Ext.alloc ?_ _ | refine World.Ext.setCell ?_ (by simp) _)
  have d0 : W0.cell? ⟨w.heap.size, 0, none⟩ = some (.slice a ss.length c) := by rw [hW0]; simp [go_sem]
  have hone : One W0 (w.heap.size + 1) 26 (.slice none 0 0) := by rw [hW0]; exact One.new _ _ _ _ (by simp)
  have HI : Hid (Calls Try.prog 78 #[.pointer (some ⟨w.heap.size, 0, none⟩)] W0 fun e w' => e = .returned (.bool (picOk ss)) ∧ W0.Ext w') := l01Is_any _ a c ss W0 hb.1 hb.2 d0 (hm.ext hx0) _ rfl
  have HX0 := Lib.hid hx0
  have HO := Lib.hid hone
  cases h : picOk ss
  · rw [h] at HI
    clear hb hm hx0 d0 hone h hR
    show Calls _ _ _ _ (PicRet2 w [] false)
    go_enter Try.func25, Try.ntmps25
    go_wp2_with fail
    rw [← hW0]
    refine HI.out.mono ?_
    rintro e w1 ⟨rfl, hx1⟩
    obtain ⟨r1, r2, r3, HR⟩ := Res.store (f := Value.string) (d := ByteArray.empty) (a := none) (xs := []) (lo := w.heap.size + 2) (.slice none 0 0) (HX0.out.trans hx1) (by omega) (HO.out.ext hx1) (by omega) (OwnOf.nil _ _)
    clear hx1 hW0
    go_wp2
    exact bodyPost_ret (v := .tuple #[.agg #[.slice none 0 0], .bool false]) (by simp [results, Try.results25, go_sem, r3]) rfl ⟨none, 0, rfl, HR.out.1, OwnOf.nil _ _⟩
  · rw [h] at HI
    obtain ⟨v1, v2, v3, v4, e1, -⟩ := picOk_spec h
    have HRM := Lib.hid (fun w' (hx : W0.Ext w') => l05Remove_any w.heap.size a c ss eight 2 res w' e1 (by omega) (by omega) (by omega) (by omega) (hx.cell d0) (RowOf.ext (RowOf.ext hm hx0) hx) (hR h))
    have HRL := Lib.hid (picRows_len (picW ss) ss.length res)
    clear hb hm hx0 d0 hone h hR v1 v2 v3 v4 e1
    show Calls _ _ _ _ (PicRet2 w (picRows (picW ss) ss.length res) true)
    generalize picRows (picW ss) ss.length res = R at *
    go_enter Try.func25, Try.ntmps25
    go_wp2_with fail
    rw [← hW0]
    refine HI.out.mono ?_
    rintro e w1 ⟨rfl, hx1⟩
    have HX1 := Lib.hid hx1
    clear hx1
    go_wp2_with fail
    refine (HRM.out w1 HX1.out).mono ?_
    rintro e w2 ⟨a2, c2, rfl, hx2, ho2⟩
    obtain ⟨r1, r2, r3, HR⟩ := Res.store (.slice a2 R.length c2) (HX0.out.trans (HX1.out.trans hx2)) (by omega) (HO.out.ext (HX1.out.trans hx2)) (Nat.lt_of_lt_of_le HO.out.lt HX1.out.size) ho2
    clear hx2 ho2 hW0
    go_wp2
    exact bodyPost_ret (v := .tuple #[.agg #[.slice a2 R.length c2], .bool true]) (by simp [results, Try.results25, go_sem, r3]) rfl ⟨a2, c2, rfl, HR.out.1, HR.out.2⟩
theorem Thin1_any (p1 b ab W H : Nat) (l : List Bool) (eight : Bool) (res : List Bool) (w : World) (hW1 : 1 ≤ W) (hH1 : 1 ≤ H) (hW : W ≤ 64) (hH : H ≤ 64) (hI : Img w b ab W H l) (h1 : w.cell? ⟨p1, 0, none⟩ = some (.bool eight)) (hR : ThinR W H eight 2 l res) :
    Calls Try.prog 100 #[.pointer (some ⟨b, 0, none⟩), .pointer (some ⟨p1, 0, none⟩)] w (DoRet w true W H res) := by
  have HT := Lib.hid (thinned_any b ab W H eight 2 l res w hW1 hH1 hW hH (by omega) hI hR)
  clear hI hR
  show Calls _ _ _ _ (ImgRet w W H res)
  go_enter Try.func100, Try.ntmps100
  go_wp2_with fail
  refine HT.out.mono ?_
  rintro e w1 ⟨b1, g1, rfl, hx1, hi1, hb1, hg1⟩
  have HR : Hid (ImgRet w W H res (.returned (.pointer (some ⟨b1, 0, none⟩))) w1) := ⟨b1, g1, rfl, hx1, hi1, hb1, hg1⟩
  clear hx1 hi1 hb1 hg1
  go_wp2
  go_ret
  exact HR.out
theorem enters_Thin1 : Enters 100 := enters_of Try.func100 (by kernel_rfl) (by kernel_rfl)
set_option maxRecDepth 5000 in
set_option maxHeartbeats 1600000 in
theorem implThin_any (a : Option Addr) (c : Nat) (ss : List ByteArray) (eight : Bool) (res : List Bool) (hR : ThinO ss eight 2 res) (w : World) (hb : PicBnd ss) (hm : RowS w a ss) :
    Calls Try.prog 26 #[.agg #[.slice a ss.length c], .bool eight] w (PicRet2 w (optRows (picOk ss) (picRows (picW ss) ss.length res)) (picOk ss)) := by
  obtain ⟨W0, hW0⟩ : ∃ W0, W0 = ((w.alloc (.cells #[.slice a ss.length c] 26)).alloc (.cells #[.bool eight] 4)).alloc (.cells #[.slice none 0 0] 26) := ⟨_, rfl⟩
  have hx0 : w.Ext W0 := by rw [hW0]; repeat (first | exact World.Ext.refl _ | exact ⟨_, rfl⟩ | assumption | refine World.Ext.over ?_ _ | refine World.Ext.drewN ?_ _ | refine World.Ext.drew ?_ | refine World.Ext.alloc ?_ _ | refine World.Ext.setCell ?_ (by simp) _)
  have d0 : W0.cell? ⟨w.heap.size, 0, none⟩ = some (.slice a ss.length c) := by rw [hW0]; simp [go_sem]
  have d1 : W0.cell? ⟨w.heap.size + 1, 0, none⟩ = some (.bool eight) := by rw [hW0]; simp [go_sem]
  have hone : One W0 (w.heap.size + 1 + 1) 26 (.slice none 0 0) := by rw [hW0]; exact One.new _ _ _ _ (by simp)
  have HWI : Hid (Calls Try.prog 84 #[.agg #[.slice a ss.length c], .func (.func 100) #[] #[.pointer (some ⟨w.heap.size + 1, 0, none⟩)]] W0 (PicRet2 W0 (optRows (picOk ss && true) (picRows (picW ss) ss.length res)) (picOk ss && true))) :=
    withImage_any a c 100 #[.pointer (some ⟨w.heap.size + 1, 0, none⟩)] ss true _ _ _ W0 hb.1 hb.2 (hm.ext hx0) enters_Thin1 (fun h _ => by obtain ⟨v1, v2, v3, v4, -, -⟩ := picOk_spec h; omega)
      (fun w' b ab h hx hI => by
        obtain ⟨v1, v2, v3, v4, -, -⟩ := picOk_spec h
        exact Thin1_any _ b ab _ _ _ eight res w' (by omega) (by omega) (by omega) (by omega) hI (hx.cell d1) (hR h))
  rw [Bool.and_true] at HWI
  have HX0 := Lib.hid hx0
  have HO := Lib.hid hone
  clear hb hm hx0 hone hR d1
  generalize optRows (picOk ss) (picRows (picW ss) ss.length res) = R at *
  generalize picOk ss = ok at *
  go_enter Try.func26, Try.ntmps26
  go_wp2_with fail
  rw [← hW0]
  refine HWI.out.mono ?_
  rintro e w1 ⟨a1, c1, rfl, hx1, ho1⟩
  have hl0 : w.heap.size + 1 + 1 < W0.heap.size := HO.out.lt
  obtain ⟨r1, r2, r3, HR⟩ := Res.store (.slice a1 R.length c1) (HX0.out.trans hx1) (by omega) (HO.out.ext hx1) hl0 ho1
  clear hx1 ho1 hW0
  go_wp2
  exact bodyPost_ret (v := .tuple #[.agg #[.slice a1 R.length c1], .bool ok]) (by simp [results, Try.results26, go_sem, r3]) rfl ⟨a1, c1, rfl, HR.out.1, HR.out.2⟩
set_option maxRecDepth 5000 in
set_option maxHeartbeats 1600000 in
theorem specShrink_any (a : Option Addr) (c : Nat) (ss : List ByteArray) (eight : Bool) (res : List Bool) (hR : ThinO ss eight 0 res) (w : World) (hb : PicBnd ss) (hm : RowS w a ss) :
    Calls Try.prog 27 #[.agg #[.slice a ss.length c], .bool eight] w (PicRet2 w (optRows (picOk ss) (picRows (picW ss) ss.length res)) (picOk ss)) := by
  obtain ⟨W0, hW0⟩ : ∃ W0, W0 = (w.alloc (.cells #[.slice a ss.length c] 26)).alloc (.cells #[.slice none 0 0] 26) := ⟨_, rfl⟩
  have hx0 : w.Ext W0 := by rw [hW0]; repeat (first | exact World.Ext.refl _ | exact ⟨_, rfl⟩ | assumption | refine World.Ext.over ?_ _ | refine World.Ext.drewN ?_ _ | refine World.Ext.drew ?_ | refine World.Ext.alloc ?_ _ | refine World.Ext.setCell ?_ (by simp) _)
  have d0 : W0.cell? ⟨w.heap.size, 0, none⟩ = some (.slice a ss.length c) := by rw [hW0]; simp [go_sem]
  have hone : One W0 (w.heap.size + 1) 26 (.slice none 0 0) := by rw [hW0]; exact One.new _ _ _ _ (by simp)
  have HI : Hid (Calls Try.prog 78 #[.pointer (some ⟨w.heap.size, 0, none⟩)] W0 fun e w' => e = .returned (.bool (picOk ss)) ∧ W0.Ext w') := l01Is_any _ a c ss W0 hb.1 hb.2 d0 (hm.ext hx0) _ rfl
  have HX0 := Lib.hid hx0
  have HO := Lib.hid hone
  cases h : picOk ss
  · rw [h] at HI
    clear hb hm hx0 d0 hone h hR
    show Calls _ _ _ _ (PicRet2 w [] false)
    go_enter Try.func27, Try.ntmps27
    go_wp2_with fail
    rw [← hW0]
    refine HI.out.mono ?_
    rintro e w1 ⟨rfl, hx1⟩
    obtain ⟨r1, r2, r3, HR⟩ := Res.store (f := Value.string) (d := ByteArray.empty) (a := none) (xs := []) (lo := w.heap.size + 2) (.slice none 0 0) (HX0.out.trans hx1) (by omega) (HO.out.ext hx1) (by omega) (OwnOf.nil _ _)
    clear hx1 hW0
    go_wp2
    exact bodyPost_ret (v := .tuple #[.agg #[.slice none 0 0], .bool false]) (by simp [results, Try.results27, go_sem, r3]) rfl ⟨none, 0, rfl, HR.out.1, OwnOf.nil _ _⟩
  · rw [h] at HI
    obtain ⟨v1, v2, v3, v4, e1, -⟩ := picOk_spec h
    have HRM := Lib.hid (fun w' (hx : W0.Ext w') => l05Remove_any w.heap.size a c ss eight 0 res w' e1 (by omega) (by omega) (by omega) (by omega) (hx.cell d0) (RowOf.ext (RowOf.ext hm hx0) hx) (hR h))
    have HRL := Lib.hid (picRows_len (picW ss) ss.length res)
    clear hb hm hx0 d0 hone h hR v1 v2 v3 v4 e1
    show Calls _ _ _ _ (PicRet2 w (picRows (picW ss) ss.length res) true)
    generalize picRows (picW ss) ss.length res = R at *
    go_enter Try.func27, Try.ntmps27
    go_wp2_with fail
    rw [← hW0]
    refine HI.out.mono ?_
    rintro e w1 ⟨rfl, hx1⟩
    have HX1 := Lib.hid hx1
    clear hx1
    go_wp2_with fail
    refine (HRM.out w1 HX1.out).mono ?_
    rintro e w2 ⟨a2, c2, rfl, hx2, ho2⟩
    obtain ⟨r1, r2, r3, HR⟩ := Res.store (.slice a2 R.length c2) (HX0.out.trans (HX1.out.trans hx2)) (by omega) (HO.out.ext (HX1.out.trans hx2)) (Nat.lt_of_lt_of_le HO.out.lt HX1.out.size) ho2
    clear hx2 ho2 hW0
    go_wp2
    exact bodyPost_ret (v := .tuple #[.agg #[.slice a2 R.length c2], .bool true]) (by simp [results, Try.results27, go_sem, r3]) rfl ⟨a2, c2, rfl, HR.out.1, HR.out.2⟩
theorem Shrink1_any (p1 b ab W H : Nat) (l : List Bool) (eight : Bool) (res : List Bool) (w : World) (hW1 : 1 ≤ W) (hH1 : 1 ≤ H) (hW : W ≤ 64) (hH : H ≤ 64) (hI : Img w b ab W H l) (h1 : w.cell? ⟨p1, 0, none⟩ = some (.bool eight)) (hR : ThinR W H eight 0 l res) :
    Calls Try.prog 102 #[.pointer (some ⟨b, 0, none⟩), .pointer (some ⟨p1, 0, none⟩)] w (DoRet w true W H res) := by
  have HT := Lib.hid (thinned_any b ab W H eight 0 l res w hW1 hH1 hW hH (by omega) hI hR)
  clear hI hR
  show Calls _ _ _ _ (ImgRet w W H res)
  go_enter Try.func102, Try.ntmps102
  go_wp2_with fail
  refine HT.out.mono ?_
  rintro e w1 ⟨b1, g1, rfl, hx1, hi1, hb1, hg1⟩
  have HR : Hid (ImgRet w W H res (.returned (.pointer (some ⟨b1, 0, none⟩))) w1) := ⟨b1, g1, rfl, hx1, hi1, hb1, hg1⟩
  clear hx1 hi1 hb1 hg1
  go_wp2
  go_ret
  exact HR.out
theorem enters_Shrink1 : Enters 102 := enters_of Try.func102 (by kernel_rfl) (by kernel_rfl)
set_option maxRecDepth 5000 in
set_option maxHeartbeats 1600000 in
theorem implShrink_any (a : Option Addr) (c : Nat) (ss : List ByteArray) (eight : Bool) (res : List Bool) (hR : ThinO ss eight 0 res) (w : World) (hb : PicBnd ss) (hm : RowS w a ss) :
    Calls Try.prog 28 #[.agg #[.slice a ss.length c], .bool eight] w (PicRet2 w (optRows (picOk ss) (picRows (picW ss) ss.length res)) (picOk ss)) := by
  obtain ⟨W0, hW0⟩ : ∃ W0, W0 = ((w.alloc (.cells #[.slice a ss.length c] 26)).alloc (.cells #[.bool eight] 4)).alloc (.cells #[.slice none 0 0] 26) := ⟨_, rfl⟩
  have hx0 : w.Ext W0 := by rw [hW0]; repeat (first | exact World.Ext.refl _ | exact ⟨_, rfl⟩ | assumption | refine World.Ext.over ?_ _ | refine World.Ext.drewN ?_ _ | refine World.Ext.drew ?_ | refine World.Ext.alloc ?_ _ | refine World.Ext.setCell ?_ (by simp) _)
  have d0 : W0.cell? ⟨w.heap.size, 0, none⟩ = some (.slice a ss.length c) := by rw [hW0]; simp [go_sem]
  have d1 : W0.cell? ⟨w.heap.size + 1, 0, none⟩ = some (.bool eight) := by rw [hW0]; simp [go_sem]
  have hone : One W0 (w.heap.size + 1 + 1) 26 (.slice none 0 0) := by rw [hW0]; exact One.new _ _ _ _ (by simp)
  have HWI : Hid (Calls Try.prog 84 #[.agg #[.slice a ss.length c], .func (.func 102) #[] #[.pointer (some ⟨w.heap.size + 1, 0, none⟩)]] W0 (PicRet2 W0 (optRows (picOk ss && true) (picRows (picW ss) ss.length res)) (picOk ss && true))) :=
    withImage_any a c 102 #[.pointer (some ⟨w.heap.size + 1, 0, none⟩)] ss true _ _ _ W0 hb.1 hb.2 (hm.ext hx0) enters_Shrink1 (fun h _ => by obtain ⟨v1, v2, v3, v4, -, -⟩ := picOk_spec h; omega)
      (fun w' b ab h hx hI => by
        obtain ⟨v1, v2, v3, v4, -, -⟩ := picOk_spec h
        exact Shrink1_any _ b ab _ _ _ eight res w' (by omega) (by omega) (by omega) (by omega) hI (hx.cell d1) (hR h))
  rw [Bool.and_true] at HWI
  have HX0 := Lib.hid hx0
  have HO := Lib.hid hone
  clear hb hm hx0 hone hR d1
  generalize optRows (picOk ss) (picRows (picW ss) ss.length res) = R at *
  generalize picOk ss = ok at *
  go_enter Try.func28, Try.ntmps28
  go_wp2_with fail
  rw [← hW0]
  refine HWI.out.mono ?_
  rintro e w1 ⟨a1, c1, rfl, hx1, ho1⟩
  have hl0 : w.heap.size + 1 + 1 < W0.heap.size := HO.out.lt
  obtain ⟨r1, r2, r3, HR⟩ := Res.store (.slice a1 R.length c1) (HX0.out.trans hx1) (by omega) (HO.out.ext hx1) hl0 ho1
  clear hx1 ho1 hW0
  go_wp2
  exact bodyPost_ret (v := .tuple #[.agg #[.slice a1 R.length c1], .bool ok]) (by simp [results, Try.results28, go_sem, r3]) rfl ⟨a1, c1, rfl, HR.out.1, HR.out.2⟩
theorem thin_le (ss : List ByteArray) (l : List Bool) (hb : PicBnd ss) : (optRows (picOk ss) (picRows (picW ss) ss.length l)).length ≤ 1048576 := optRows_le _ _ _ _ hb.1
end Go.Proofs.Ytlcofjicpbbdhaa
