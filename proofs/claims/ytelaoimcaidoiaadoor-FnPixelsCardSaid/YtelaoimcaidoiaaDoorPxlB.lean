/- Pictures turned, shifted and cropped. -/
import Derived.Test.YtelaoimcaidoiaaDoorPxlA
namespace Go.Proofs.YtelaoimcaidoiaaDoor
open Go Go.RowKit
/-- The pixels of a picture that is turned by a kind. -/
def trP (k W H : Nat) (l : List Bool) (x y : Nat) : Bool :=
  if k = 0 then pxl W H l ((W : Int) - 1 - x) y else if k = 1 then pxl W H l x ((H : Int) - 1 - y) else if k = 2 then pxl W H l y x else pxl W H l y ((H : Int) - 1 - x)
def trW (k W H : Nat) : Nat := if k < 2 then W else H
/-- A picture turned. -/
def trnP (k : Nat) (R : List ByteArray) : List ByteArray := picRows (trW k (picW R) R.length) (trW k R.length (picW R)) (mkl (trW k (picW R) R.length) (trW k R.length (picW R)) (trP k (picW R) R.length (picL R)))
set_option maxHeartbeats 800000 in
theorem turnP0_any (p b ab W H : Nat) (l : List Bool) (x y : Nat) (w : World) (hW : W ≤ 64) (hH : H ≤ 64) (hp : w.cell? ⟨p, 0, none⟩ = some (.pointer (some ⟨b, 0, none⟩))) (hI : Img w b ab W H l) (hx : x < W) (hy : y < H) :
    Calls Tryd.prog 59 #[.int .i64 x, .int .i64 y, .pointer (some ⟨p, 0, none⟩)] w fun e w' => e = .returned (.bool (trP 0 W H l x y)) ∧ w.Ext w' := by
  have c0 := hI.c0
  have c1 := hI.c1
  have HG : Hid (∀ w', w.Ext w' → Calls Tryd.prog 41 #[.pointer (some ⟨b, 0, none⟩), .int .i64 ((W : Int) - 1 - x), .int .i64 (y : Int)] w' fun e w'' => e = .returned (.bool (trP 0 W H l x y)) ∧ w'.Ext w'') := fun w' hx2 => get_any b ab W H l _ _ w' hW hH (hI.ext hx2) _ rfl
  have wr1 : IntKind.i64.wrap ((W : Int) - 1) = (W : Int) - 1 := IntWalk.i64_in _ (by omega)
  have wr2 : IntKind.i64.wrap ((H : Int) - 1) = (H : Int) - 1 := IntWalk.i64_in _ (by omega)
  have wr3 : IntKind.i64.wrap ((W : Int) - 1 - x) = (W : Int) - 1 - x := IntWalk.i64_in _ (by omega)
  have wr4 : IntKind.i64.wrap ((H : Int) - 1 - y) = (H : Int) - 1 - y := IntWalk.i64_in _ (by omega)
  have wr5 : IntKind.i64.wrap ((H : Int) - 1 - x) = (H : Int) - 1 - x := IntWalk.i64_in _ (by omega)
  clear hI
  generalize trP 0 W H l x y = t at *
  go_enter Tryd.func59, Tryd.ntmps59
  go_wp2_with fail
  refine wp_region_over_lit (by kernel_rfl) (by kernel_rfl) ?_; (repeat (go_big_quiet_step ((go_at_call 41; exact Calls.over_of (HG.out _ ⟨_, rfl⟩))))); refine wpQuiet_nil ?_; rintro _ ⟨x1, rfl⟩
  go_wp2
  go_ret
  refine ⟨rfl, ?_⟩
  repeat (first | exact World.Ext.refl _ | exact ⟨_, rfl⟩ | assumption | refine World.Ext.over ?_ _ | refine World.Ext.drewN ?_ _ | refine World.Ext.drew ?_ | refine World.Ext.alloc ?_ _ | refine World.Ext.setCell ?_ (by simp) _)
theorem enters_turnP0 : Enters 59 := enters_of Tryd.func59 (by kernel_rfl) (by kernel_rfl)
set_option maxHeartbeats 800000 in
theorem turnPK0_any (b ab W H : Nat) (l : List Bool) (w : World) (hW : W ≤ 64) (hH : H ≤ 64) (hI : Img w b ab W H l) :
    Calls Tryd.prog 36 #[.pointer (some ⟨b, 0, none⟩), .int .i64 0] w (ImgRet w W H (mkl W H (trP 0 W H l))) := by
  obtain ⟨W0, hW0⟩ : ∃ W0, W0 = w.alloc (.cells #[.pointer (some ⟨b, 0, none⟩)] 53) := ⟨_, rfl⟩
  have hx0 : w.Ext W0 := by rw [hW0]; repeat (first | exact World.Ext.refl _ | exact ⟨_, rfl⟩ | assumption | refine World.Ext.over ?_ _ | refine World.Ext.drewN ?_ _ | refine World.Ext.drew ?_ | refine World.Ext.alloc ?_ _ | refine World.Ext.setCell ?_ (by simp) _)
  have cp : W0.cell? ⟨w.heap.size, 0, none⟩ = some (.pointer (some ⟨b, 0, none⟩)) := by rw [hW0]; simp [go_sem]
  have c0 := (hI.ext hx0).c0
  have c1 := (hI.ext hx0).c1
  have HMD : Hid (∀ w', W0.Ext w' → Calls Tryd.prog 39 #[.int .i64 W, .int .i64 H, .func (.func 59) #[] #[.pointer (some ⟨w.heap.size, 0, none⟩)]] w' (ImgRet w' W H (mkl W H (trP 0 W H l)))) := fun w' hx =>
    made_any W H _ _ (trP 0 W H l) w' (by omega) (by omega) enters_turnP0 fun w'' hx2 x y h1 h2 => turnP0_any w.heap.size b ab W H l x y w'' hW hH ((hx.trans hx2).cell cp) (hI.ext (hx0.trans (hx.trans hx2))) h1 h2
  have HX0 := Lib.hid hx0
  clear hI hx0
  generalize mkl W H (trP 0 W H l) = L at *
  go_enter Tryd.func36, Tryd.ntmps36
  go_wp2_with fail
  rw [← hW0]
  clear hW0
  refine wp_region_over_tail 9 (by kernel_rfl) (by kernel_rfl) ?_; simp only [List.take_succ_cons, List.take_zero, List.drop_succ_cons, List.drop_zero]; (repeat (go_big_quiet_step (fail))); refine wpQuiet_nil ?_; rintro _ ⟨x1, rfl⟩
  have HC := Lib.hid (HMD.out (W0.over x1) ⟨x1, rfl⟩)
  have HX3 : Hid (w.Ext (W0.over x1)) := HX0.out.trans ⟨x1, rfl⟩
  generalize W0.over x1 = w3 at *
  clear c0 c1 cp HMD HX0
  go_wp2_with fail
  refine HC.out.mono ?_
  rintro e w4 ⟨b4, ab4, rfl, hx4, hi4, hl4, hl5⟩
  have HR : Hid (ImgRet w W H L (.returned (.pointer (some ⟨b4, 0, none⟩))) w4) := ⟨b4, ab4, rfl, HX3.out.trans hx4, hi4, Nat.le_trans HX3.out.size hl4, Nat.le_trans HX3.out.size hl5⟩
  clear hx4 hi4 hl4 hl5
  go_wp2
  go_ret
  exact HR.out
set_option maxHeartbeats 800000 in
theorem turnP1_any (p b ab W H : Nat) (l : List Bool) (x y : Nat) (w : World) (hW : W ≤ 64) (hH : H ≤ 64) (hp : w.cell? ⟨p, 0, none⟩ = some (.pointer (some ⟨b, 0, none⟩))) (hI : Img w b ab W H l) (hx : x < W) (hy : y < H) :
    Calls Tryd.prog 60 #[.int .i64 x, .int .i64 y, .pointer (some ⟨p, 0, none⟩)] w fun e w' => e = .returned (.bool (trP 1 W H l x y)) ∧ w.Ext w' := by
  have c0 := hI.c0
  have c1 := hI.c1
  have HG : Hid (∀ w', w.Ext w' → Calls Tryd.prog 41 #[.pointer (some ⟨b, 0, none⟩), .int .i64 (x : Int), .int .i64 ((H : Int) - 1 - y)] w' fun e w'' => e = .returned (.bool (trP 1 W H l x y)) ∧ w'.Ext w'') := fun w' hx2 => get_any b ab W H l _ _ w' hW hH (hI.ext hx2) _ rfl
  have wr1 : IntKind.i64.wrap ((W : Int) - 1) = (W : Int) - 1 := IntWalk.i64_in _ (by omega)
  have wr2 : IntKind.i64.wrap ((H : Int) - 1) = (H : Int) - 1 := IntWalk.i64_in _ (by omega)
  have wr3 : IntKind.i64.wrap ((W : Int) - 1 - x) = (W : Int) - 1 - x := IntWalk.i64_in _ (by omega)
  have wr4 : IntKind.i64.wrap ((H : Int) - 1 - y) = (H : Int) - 1 - y := IntWalk.i64_in _ (by omega)
  have wr5 : IntKind.i64.wrap ((H : Int) - 1 - x) = (H : Int) - 1 - x := IntWalk.i64_in _ (by omega)
  clear hI
  generalize trP 1 W H l x y = t at *
  go_enter Tryd.func60, Tryd.ntmps60
  go_wp2_with fail
  refine wp_region_over_lit (by kernel_rfl) (by kernel_rfl) ?_; (repeat (go_big_quiet_step ((go_at_call 41; exact Calls.over_of (HG.out _ ⟨_, rfl⟩))))); refine wpQuiet_nil ?_; rintro _ ⟨x1, rfl⟩
  go_wp2
  go_ret
  refine ⟨rfl, ?_⟩
  repeat (first | exact World.Ext.refl _ | exact ⟨_, rfl⟩ | assumption | refine World.Ext.over ?_ _ | refine World.Ext.drewN ?_ _ | refine World.Ext.drew ?_ | refine World.Ext.alloc ?_ _ | refine World.Ext.setCell ?_ (by simp) _)
theorem enters_turnP1 : Enters 60 := enters_of Tryd.func60 (by kernel_rfl) (by kernel_rfl)
set_option maxHeartbeats 800000 in
theorem turnPK1_any (b ab W H : Nat) (l : List Bool) (w : World) (hW : W ≤ 64) (hH : H ≤ 64) (hI : Img w b ab W H l) :
    Calls Tryd.prog 36 #[.pointer (some ⟨b, 0, none⟩), .int .i64 1] w (ImgRet w W H (mkl W H (trP 1 W H l))) := by
  obtain ⟨W0, hW0⟩ : ∃ W0, W0 = w.alloc (.cells #[.pointer (some ⟨b, 0, none⟩)] 53) := ⟨_, rfl⟩
  have hx0 : w.Ext W0 := by rw [hW0]; repeat (first | exact World.Ext.refl _ | exact ⟨_, rfl⟩ | assumption | refine World.Ext.over ?_ _ | refine World.Ext.drewN ?_ _ | refine World.Ext.drew ?_ | refine World.Ext.alloc ?_ _ | refine World.Ext.setCell ?_ (by simp) _)
  have cp : W0.cell? ⟨w.heap.size, 0, none⟩ = some (.pointer (some ⟨b, 0, none⟩)) := by rw [hW0]; simp [go_sem]
  have c0 := (hI.ext hx0).c0
  have c1 := (hI.ext hx0).c1
  have HMD : Hid (∀ w', W0.Ext w' → Calls Tryd.prog 39 #[.int .i64 W, .int .i64 H, .func (.func 60) #[] #[.pointer (some ⟨w.heap.size, 0, none⟩)]] w' (ImgRet w' W H (mkl W H (trP 1 W H l)))) := fun w' hx =>
    made_any W H _ _ (trP 1 W H l) w' (by omega) (by omega) enters_turnP1 fun w'' hx2 x y h1 h2 => turnP1_any w.heap.size b ab W H l x y w'' hW hH ((hx.trans hx2).cell cp) (hI.ext (hx0.trans (hx.trans hx2))) h1 h2
  have HX0 := Lib.hid hx0
  clear hI hx0
  generalize mkl W H (trP 1 W H l) = L at *
  go_enter Tryd.func36, Tryd.ntmps36
  go_wp2_with fail
  rw [← hW0]
  clear hW0
  refine wp_region_over_tail 9 (by kernel_rfl) (by kernel_rfl) ?_; simp only [List.take_succ_cons, List.take_zero, List.drop_succ_cons, List.drop_zero]; (repeat (go_big_quiet_step (fail))); refine wpQuiet_nil ?_; rintro _ ⟨x1, rfl⟩
  have HC := Lib.hid (HMD.out (W0.over x1) ⟨x1, rfl⟩)
  have HX3 : Hid (w.Ext (W0.over x1)) := HX0.out.trans ⟨x1, rfl⟩
  generalize W0.over x1 = w3 at *
  clear c0 c1 cp HMD HX0
  go_wp2_with fail
  refine HC.out.mono ?_
  rintro e w4 ⟨b4, ab4, rfl, hx4, hi4, hl4, hl5⟩
  have HR : Hid (ImgRet w W H L (.returned (.pointer (some ⟨b4, 0, none⟩))) w4) := ⟨b4, ab4, rfl, HX3.out.trans hx4, hi4, Nat.le_trans HX3.out.size hl4, Nat.le_trans HX3.out.size hl5⟩
  clear hx4 hi4 hl4 hl5
  go_wp2
  go_ret
  exact HR.out
set_option maxHeartbeats 800000 in
theorem turnP2_any (p b ab W H : Nat) (l : List Bool) (x y : Nat) (w : World) (hW : W ≤ 64) (hH : H ≤ 64) (hp : w.cell? ⟨p, 0, none⟩ = some (.pointer (some ⟨b, 0, none⟩))) (hI : Img w b ab W H l) (hx : x < H) (hy : y < W) :
    Calls Tryd.prog 61 #[.int .i64 x, .int .i64 y, .pointer (some ⟨p, 0, none⟩)] w fun e w' => e = .returned (.bool (trP 2 W H l x y)) ∧ w.Ext w' := by
  have c0 := hI.c0
  have c1 := hI.c1
  have HG : Hid (∀ w', w.Ext w' → Calls Tryd.prog 41 #[.pointer (some ⟨b, 0, none⟩), .int .i64 (y : Int), .int .i64 (x : Int)] w' fun e w'' => e = .returned (.bool (trP 2 W H l x y)) ∧ w'.Ext w'') := fun w' hx2 => get_any b ab W H l _ _ w' hW hH (hI.ext hx2) _ rfl
  have wr1 : IntKind.i64.wrap ((W : Int) - 1) = (W : Int) - 1 := IntWalk.i64_in _ (by omega)
  have wr2 : IntKind.i64.wrap ((H : Int) - 1) = (H : Int) - 1 := IntWalk.i64_in _ (by omega)
  have wr3 : IntKind.i64.wrap ((W : Int) - 1 - x) = (W : Int) - 1 - x := IntWalk.i64_in _ (by omega)
  have wr4 : IntKind.i64.wrap ((H : Int) - 1 - y) = (H : Int) - 1 - y := IntWalk.i64_in _ (by omega)
  have wr5 : IntKind.i64.wrap ((H : Int) - 1 - x) = (H : Int) - 1 - x := IntWalk.i64_in _ (by omega)
  clear hI
  generalize trP 2 W H l x y = t at *
  go_enter Tryd.func61, Tryd.ntmps61
  go_wp2_with fail
  refine (HG.out _ (.refl _)).mono ?_
  rintro e w1 ⟨rfl, x1, rfl⟩
  go_wp2
  go_ret
  refine ⟨rfl, ?_⟩
  repeat (first | exact World.Ext.refl _ | exact ⟨_, rfl⟩ | assumption | refine World.Ext.over ?_ _ | refine World.Ext.drewN ?_ _ | refine World.Ext.drew ?_ | refine World.Ext.alloc ?_ _ | refine World.Ext.setCell ?_ (by simp) _)
theorem enters_turnP2 : Enters 61 := enters_of Tryd.func61 (by kernel_rfl) (by kernel_rfl)
set_option maxHeartbeats 800000 in
theorem turnPK2_any (b ab W H : Nat) (l : List Bool) (w : World) (hW : W ≤ 64) (hH : H ≤ 64) (hI : Img w b ab W H l) :
    Calls Tryd.prog 36 #[.pointer (some ⟨b, 0, none⟩), .int .i64 2] w (ImgRet w H W (mkl H W (trP 2 W H l))) := by
  obtain ⟨W0, hW0⟩ : ∃ W0, W0 = w.alloc (.cells #[.pointer (some ⟨b, 0, none⟩)] 53) := ⟨_, rfl⟩
  have hx0 : w.Ext W0 := by rw [hW0]; repeat (first | exact World.Ext.refl _ | exact ⟨_, rfl⟩ | assumption | refine World.Ext.over ?_ _ | refine World.Ext.drewN ?_ _ | refine World.Ext.drew ?_ | refine World.Ext.alloc ?_ _ | refine World.Ext.setCell ?_ (by simp) _)
  have cp : W0.cell? ⟨w.heap.size, 0, none⟩ = some (.pointer (some ⟨b, 0, none⟩)) := by rw [hW0]; simp [go_sem]
  have c0 := (hI.ext hx0).c0
  have c1 := (hI.ext hx0).c1
  have HMD : Hid (∀ w', W0.Ext w' → Calls Tryd.prog 39 #[.int .i64 H, .int .i64 W, .func (.func 61) #[] #[.pointer (some ⟨w.heap.size, 0, none⟩)]] w' (ImgRet w' H W (mkl H W (trP 2 W H l)))) := fun w' hx =>
    made_any H W _ _ (trP 2 W H l) w' (by omega) (by omega) enters_turnP2 fun w'' hx2 x y h1 h2 => turnP2_any w.heap.size b ab W H l x y w'' hW hH ((hx.trans hx2).cell cp) (hI.ext (hx0.trans (hx.trans hx2))) h1 h2
  have HX0 := Lib.hid hx0
  clear hI hx0
  generalize mkl H W (trP 2 W H l) = L at *
  go_enter Tryd.func36, Tryd.ntmps36
  go_wp2_with fail
  rw [← hW0]
  clear hW0
  refine wp_region_over_tail 9 (by kernel_rfl) (by kernel_rfl) ?_; simp only [List.take_succ_cons, List.take_zero, List.drop_succ_cons, List.drop_zero]; (repeat (go_big_quiet_step (fail))); refine wpQuiet_nil ?_; rintro _ ⟨x1, rfl⟩
  have HC := Lib.hid (HMD.out (W0.over x1) ⟨x1, rfl⟩)
  have HX3 : Hid (w.Ext (W0.over x1)) := HX0.out.trans ⟨x1, rfl⟩
  generalize W0.over x1 = w3 at *
  clear c0 c1 cp HMD HX0
  go_wp2_with fail
  refine HC.out.mono ?_
  rintro e w4 ⟨b4, ab4, rfl, hx4, hi4, hl4, hl5⟩
  have HR : Hid (ImgRet w H W L (.returned (.pointer (some ⟨b4, 0, none⟩))) w4) := ⟨b4, ab4, rfl, HX3.out.trans hx4, hi4, Nat.le_trans HX3.out.size hl4, Nat.le_trans HX3.out.size hl5⟩
  clear hx4 hi4 hl4 hl5
  go_wp2
  go_ret
  exact HR.out
set_option maxHeartbeats 800000 in
theorem turnP3_any (p b ab W H : Nat) (l : List Bool) (x y : Nat) (w : World) (hW : W ≤ 64) (hH : H ≤ 64) (hp : w.cell? ⟨p, 0, none⟩ = some (.pointer (some ⟨b, 0, none⟩))) (hI : Img w b ab W H l) (hx : x < H) (hy : y < W) :
    Calls Tryd.prog 62 #[.int .i64 x, .int .i64 y, .pointer (some ⟨p, 0, none⟩)] w fun e w' => e = .returned (.bool (trP 3 W H l x y)) ∧ w.Ext w' := by
  have c0 := hI.c0
  have c1 := hI.c1
  have HG : Hid (∀ w', w.Ext w' → Calls Tryd.prog 41 #[.pointer (some ⟨b, 0, none⟩), .int .i64 (y : Int), .int .i64 ((H : Int) - 1 - x)] w' fun e w'' => e = .returned (.bool (trP 3 W H l x y)) ∧ w'.Ext w'') := fun w' hx2 => get_any b ab W H l _ _ w' hW hH (hI.ext hx2) _ rfl
  have wr1 : IntKind.i64.wrap ((W : Int) - 1) = (W : Int) - 1 := IntWalk.i64_in _ (by omega)
  have wr2 : IntKind.i64.wrap ((H : Int) - 1) = (H : Int) - 1 := IntWalk.i64_in _ (by omega)
  have wr3 : IntKind.i64.wrap ((W : Int) - 1 - x) = (W : Int) - 1 - x := IntWalk.i64_in _ (by omega)
  have wr4 : IntKind.i64.wrap ((H : Int) - 1 - y) = (H : Int) - 1 - y := IntWalk.i64_in _ (by omega)
  have wr5 : IntKind.i64.wrap ((H : Int) - 1 - x) = (H : Int) - 1 - x := IntWalk.i64_in _ (by omega)
  clear hI
  generalize trP 3 W H l x y = t at *
  go_enter Tryd.func62, Tryd.ntmps62
  go_wp2_with fail
  refine wp_region_over_lit (by kernel_rfl) (by kernel_rfl) ?_; (repeat (go_big_quiet_step ((go_at_call 41; exact Calls.over_of (HG.out _ ⟨_, rfl⟩))))); refine wpQuiet_nil ?_; rintro _ ⟨x1, rfl⟩
  go_wp2
  go_ret
  refine ⟨rfl, ?_⟩
  repeat (first | exact World.Ext.refl _ | exact ⟨_, rfl⟩ | assumption | refine World.Ext.over ?_ _ | refine World.Ext.drewN ?_ _ | refine World.Ext.drew ?_ | refine World.Ext.alloc ?_ _ | refine World.Ext.setCell ?_ (by simp) _)
theorem enters_turnP3 : Enters 62 := enters_of Tryd.func62 (by kernel_rfl) (by kernel_rfl)
set_option maxHeartbeats 800000 in
theorem turnPK3_any (b ab W H : Nat) (l : List Bool) (w : World) (hW : W ≤ 64) (hH : H ≤ 64) (hI : Img w b ab W H l) :
    Calls Tryd.prog 36 #[.pointer (some ⟨b, 0, none⟩), .int .i64 3] w (ImgRet w H W (mkl H W (trP 3 W H l))) := by
  obtain ⟨W0, hW0⟩ : ∃ W0, W0 = w.alloc (.cells #[.pointer (some ⟨b, 0, none⟩)] 53) := ⟨_, rfl⟩
  have hx0 : w.Ext W0 := by rw [hW0]; repeat (first | exact World.Ext.refl _ | exact ⟨_, rfl⟩ | assumption | refine World.Ext.over ?_ _ | refine World.Ext.drewN ?_ _ | refine World.Ext.drew ?_ | refine World.Ext.alloc ?_ _ | refine World.Ext.setCell ?_ (by simp) _)
  have cp : W0.cell? ⟨w.heap.size, 0, none⟩ = some (.pointer (some ⟨b, 0, none⟩)) := by rw [hW0]; simp [go_sem]
  have c0 := (hI.ext hx0).c0
  have c1 := (hI.ext hx0).c1
  have HMD : Hid (∀ w', W0.Ext w' → Calls Tryd.prog 39 #[.int .i64 H, .int .i64 W, .func (.func 62) #[] #[.pointer (some ⟨w.heap.size, 0, none⟩)]] w' (ImgRet w' H W (mkl H W (trP 3 W H l)))) := fun w' hx =>
    made_any H W _ _ (trP 3 W H l) w' (by omega) (by omega) enters_turnP3 fun w'' hx2 x y h1 h2 => turnP3_any w.heap.size b ab W H l x y w'' hW hH ((hx.trans hx2).cell cp) (hI.ext (hx0.trans (hx.trans hx2))) h1 h2
  have HX0 := Lib.hid hx0
  clear hI hx0
  generalize mkl H W (trP 3 W H l) = L at *
  go_enter Tryd.func36, Tryd.ntmps36
  go_wp2_with fail
  rw [← hW0]
  clear hW0
  refine wp_region_over_tail 9 (by kernel_rfl) (by kernel_rfl) ?_; simp only [List.take_succ_cons, List.take_zero, List.drop_succ_cons, List.drop_zero]; (repeat (go_big_quiet_step (fail))); refine wpQuiet_nil ?_; rintro _ ⟨x1, rfl⟩
  have HC := Lib.hid (HMD.out (W0.over x1) ⟨x1, rfl⟩)
  have HX3 : Hid (w.Ext (W0.over x1)) := HX0.out.trans ⟨x1, rfl⟩
  generalize W0.over x1 = w3 at *
  clear c0 c1 cp HMD HX0
  go_wp2_with fail
  refine HC.out.mono ?_
  rintro e w4 ⟨b4, ab4, rfl, hx4, hi4, hl4, hl5⟩
  have HR : Hid (ImgRet w H W L (.returned (.pointer (some ⟨b4, 0, none⟩))) w4) := ⟨b4, ab4, rfl, HX3.out.trans hx4, hi4, Nat.le_trans HX3.out.size hl4, Nat.le_trans HX3.out.size hl5⟩
  clear hx4 hi4 hl4 hl5
  go_wp2
  go_ret
  exact HR.out
theorem turnedR_any (k b ab W H : Nat) (l : List Bool) (w : World) (hk : k < 4) (hW : W ≤ 64) (hH : H ≤ 64) (hI : Img w b ab W H l) :
    Calls Tryd.prog 36 #[.pointer (some ⟨b, 0, none⟩), .int .i64 k] w (ImgRet w (trW k W H) (trW k H W) (mkl (trW k W H) (trW k H W) (trP k W H l))) := by
  rcases (show k = 0 ∨ k = 1 ∨ k = 2 ∨ k = 3 by omega) with rfl | rfl | rfl | rfl
  · exact turnPK0_any b ab W H l w hW hH hI
  · exact turnPK1_any b ab W H l w hW hH hI
  · exact turnPK2_any b ab W H l w hW hH hI
  · exact turnPK3_any b ab W H l w hW hH hI
theorem turnC_any (p1 b ab W H : Nat) (l : List Bool) (k : Nat) (w : World) (hk : k < 4) (hW : W ≤ 64) (hH : H ≤ 64) (hI : Img w b ab W H l) (h1 : w.cell? ⟨p1, 0, none⟩ = some (.int .i64 k)) :
    Calls Tryd.prog 35 #[.pointer (some ⟨b, 0, none⟩), .pointer (some ⟨p1, 0, none⟩)] w (DoRet w true (trW k W H) (trW k H W) (mkl (trW k W H) (trW k H W) (trP k W H l))) := by
  have HT := Lib.hid (turnedR_any k b ab W H l w hk hW hH hI)
  have l1 := World.block_lt_of_cell? _ _ h1
  clear hI hk
  show Calls _ _ _ _ (ImgRet w (trW k W H) (trW k H W) (mkl (trW k W H) (trW k H W) (trP k W H l)))
  generalize mkl (trW k W H) (trW k H W) (trP k W H l) = M at *
  generalize trW k W H = W2 at *
  generalize trW k H W = H2 at *
  go_enter Tryd.func35, Tryd.ntmps35
  go_wp2_with fail
  refine HT.out.mono ?_
  rintro e w1 ⟨b1, g1, rfl, hx1, hi1, hb1, hg1⟩
  have HR : Hid (ImgRet w W2 H2 M (.returned (.pointer (some ⟨b1, 0, none⟩))) w1) := ⟨b1, g1, rfl, hx1, hi1, hb1, hg1⟩
  clear hx1 hi1 hb1 hg1
  go_wp2
  go_ret
  exact HR.out
theorem enters_turnC : Enters 35 := enters_of Tryd.func35 (by kernel_rfl) (by kernel_rfl)
theorem trW_le {k W H : Nat} (h1 : 1 ≤ W) (h2 : W ≤ 16) (h3 : 1 ≤ H) (h4 : H ≤ 16) : 1 ≤ trW k W H ∧ trW k W H ≤ 16 := by
  unfold trW
  split <;> omega
set_option maxRecDepth 5000 in
set_option maxHeartbeats 1600000 in
theorem turnPic_any (a : Option Addr) (c : Nat) (ss : List ByteArray) (k : Nat) (w : World) (hk : k < 4) (hok : picOk ss = true) (hm : RowS w a ss) :
    Calls Tryd.prog 15 #[.agg #[.slice a ss.length c], .int .i64 k] w (PicRet2 w (trnP k ss) true) := by
  have hb := pic_bnd hok
  obtain ⟨v1, v2, v3, v4, -⟩ := picOk_spec hok
  obtain ⟨W0, hW0⟩ : ∃ W0, W0 = ((w.alloc (.cells #[.slice a ss.length c] 26)).alloc (.cells #[.int .i64 k] 2)).alloc (.cells #[.slice none 0 0] 26) := ⟨_, rfl⟩
  have hx0 : w.Ext W0 := by rw [hW0]; repeat (first | exact World.Ext.refl _ | exact ⟨_, rfl⟩ | assumption | refine World.Ext.over ?_ _ | refine World.Ext.drewN ?_ _ | refine World.Ext.drew ?_ | refine World.Ext.alloc ?_ _ | refine World.Ext.setCell ?_ (by simp) _)
  have d1 : W0.cell? ⟨w.heap.size + 1, 0, none⟩ = some (.int .i64 k) := by rw [hW0]; simp [go_sem]
  have hone : One W0 (w.heap.size + 1 + 1) 26 (.slice none 0 0) := by rw [hW0]; exact One.new _ _ _ _ (by simp)
  have HWI : Hid (Calls Tryd.prog 34 #[.agg #[.slice a ss.length c], .func (.func 35) #[] #[.pointer (some ⟨w.heap.size + 1, 0, none⟩)]] W0 (PicRet2 W0 (trnP k ss) true)) := by
    have h := withImage_any a c 35 #[.pointer (some ⟨w.heap.size + 1, 0, none⟩)] ss true (trW k (picW ss) ss.length) (trW k ss.length (picW ss)) (mkl (trW k (picW ss) ss.length) (trW k ss.length (picW ss)) (trP k (picW ss) ss.length (picL ss))) W0 hb.1 hb.2 (hm.ext hx0) enters_turnC (fun _ _ => by
        have h1 := trW_le (k := k) v3 v4 v1 v2
        have h2 := trW_le (k := k) v1 v2 v3 v4
        omega)
      (fun w' b ab _ hx hI => turnC_any _ b ab _ _ _ k w' hk (by omega) (by omega) hI (hx.cell d1))
    rw [hok] at h
    exact h
  have HX0 := Lib.hid hx0
  have HO := Lib.hid hone
  clear hm hx0 hone d1 hok hb
  generalize trnP k ss = R at *
  go_enter Tryd.func15, Tryd.ntmps15
  go_wp2_with fail
  rw [← hW0]
  clear hW0
  refine HWI.out.mono ?_
  rintro e w2 ⟨a3, c3, rfl, hx3, ho3⟩
  obtain ⟨r1, r2, r3, HR⟩ := Res.store (.slice a3 R.length c3) (HX0.out.trans hx3) (show w.heap.size ≤ w.heap.size + 1 + 1 by omega) (HO.out.ext hx3) HO.out.lt ho3
  have l1 := (HO.out.ext hx3).lt
  clear hx3 ho3 HWI
  go_wp2
  exact bodyPost_ret (v := .tuple #[.agg #[.slice a3 R.length c3], .bool true]) (by simp [results, Tryd.results15, go_sem, r3]) rfl ⟨a3, c3, rfl, HR.out.1, HR.out.2⟩
/-- A picture shifted. -/
def shP (dx dy : Int) (R : List ByteArray) : List ByteArray := picRows (picW R) R.length (mkl (picW R) R.length fun x y => pxl (picW R) R.length (picL R) ((x : Int) - dx) ((y : Int) - dy))
set_option maxHeartbeats 800000 in
theorem shift11_any (p2 p3 p4 b ab W H : Nat) (l : List Bool) (dx dy : Int) (x y : Nat) (w : World) (hW : W ≤ 64) (hH : H ≤ 64) (h2 : w.cell? ⟨p2, 0, none⟩ = some (.pointer (some ⟨b, 0, none⟩))) (h3 : w.cell? ⟨p3, 0, none⟩ = some (.int .i64 dx)) (h4 : w.cell? ⟨p4, 0, none⟩ = some (.int .i64 dy)) (hI : Img w b ab W H l) (hd : -16 ≤ dx ∧ dx ≤ 16 ∧ -16 ≤ dy ∧ dy ≤ 16) (hx : x < W) (hy : y < H) :
    Calls Tryd.prog 40 #[.int .i64 x, .int .i64 y, .pointer (some ⟨p2, 0, none⟩), .pointer (some ⟨p3, 0, none⟩), .pointer (some ⟨p4, 0, none⟩)] w fun e w' => e = .returned (.bool (pxl W H l ((x : Int) - dx) ((y : Int) - dy))) ∧ w.Ext w' := by
  have HG := Lib.hid (get_any b ab W H l ((x : Int) - dx) ((y : Int) - dy) w hW hH hI _ rfl)
  have wr1 : IntKind.i64.wrap ((x : Int) - dx) = (x : Int) - dx := IntWalk.i64_in _ (by omega)
  have wr2 : IntKind.i64.wrap ((y : Int) - dy) = (y : Int) - dy := IntWalk.i64_in _ (by omega)
  clear hI
  generalize pxl W H l ((x : Int) - dx) ((y : Int) - dy) = t at *
  go_enter Tryd.func40, Tryd.ntmps40
  go_wp2_with fail
  refine HG.out.mono ?_
  rintro e w1 ⟨rfl, hx1⟩
  have HX1 := Lib.hid hx1
  clear hx1 h2 h3 h4
  go_wp2
  go_ret
  exact ⟨rfl, HX1.out⟩
theorem enters_shift11 : Enters 40 := enters_of Tryd.func40 (by kernel_rfl) (by kernel_rfl)
set_option maxHeartbeats 800000 in
theorem shift1_any (p1 p2 b ab W H : Nat) (l : List Bool) (dx dy : Int) (w : World) (hW : W ≤ 64) (hH : H ≤ 64) (h1 : w.cell? ⟨p1, 0, none⟩ = some (.int .i64 dx)) (h2 : w.cell? ⟨p2, 0, none⟩ = some (.int .i64 dy)) (hI : Img w b ab W H l) (hd : -16 ≤ dx ∧ dx ≤ 16 ∧ -16 ≤ dy ∧ dy ≤ 16) :
    Calls Tryd.prog 37 #[.pointer (some ⟨b, 0, none⟩), .pointer (some ⟨p1, 0, none⟩), .pointer (some ⟨p2, 0, none⟩)] w (DoRet w true W H (mkl W H fun x y => pxl W H l ((x : Int) - dx) ((y : Int) - dy))) := by
  obtain ⟨W0, hW0⟩ : ∃ W0, W0 = w.alloc (.cells #[.pointer (some ⟨b, 0, none⟩)] 53) := ⟨_, rfl⟩
  have hx0 : w.Ext W0 := by rw [hW0]; repeat (first | exact World.Ext.refl _ | exact ⟨_, rfl⟩ | assumption | refine World.Ext.over ?_ _ | refine World.Ext.drewN ?_ _ | refine World.Ext.drew ?_ | refine World.Ext.alloc ?_ _ | refine World.Ext.setCell ?_ (by simp) _)
  have cp : W0.cell? ⟨w.heap.size, 0, none⟩ = some (.pointer (some ⟨b, 0, none⟩)) := by rw [hW0]; simp [go_sem]
  have HF : Hid (∀ w', W0.Ext w' → w'.cell? ⟨w.heap.size, 0, none⟩ = some (.pointer (some ⟨b, 0, none⟩)) ∧ w'.cell? ⟨p1, 0, none⟩ = some (.int .i64 dx) ∧ w'.cell? ⟨p2, 0, none⟩ = some (.int .i64 dy) ∧ w'.cell? ⟨b, 0, none⟩ = some (.int .i64 W) ∧ w'.cell? ⟨b, 1, none⟩ = some (.int .i64 H)) := fun w' hx => ⟨hx.cell cp, (hx0.trans hx).cell h1, (hx0.trans hx).cell h2, (hI.ext (hx0.trans hx)).c0, (hI.ext (hx0.trans hx)).c1⟩
  have HMD : Hid (∀ w', W0.Ext w' → Calls Tryd.prog 39 #[.int .i64 W, .int .i64 H, .func (.func 40) #[] #[.pointer (some ⟨w.heap.size, 0, none⟩), .pointer (some ⟨p1, 0, none⟩), .pointer (some ⟨p2, 0, none⟩)]] w' (ImgRet w' W H (mkl W H fun x y => pxl W H l ((x : Int) - dx) ((y : Int) - dy)))) := fun w' hx =>
    made_any W H _ _ _ w' hW hH enters_shift11 fun w'' hx2 x y q1 q2 => shift11_any w.heap.size p1 p2 b ab W H l dx dy x y w'' hW hH ((hx.trans hx2).cell cp) ((hx0.trans (hx.trans hx2)).cell h1) ((hx0.trans (hx.trans hx2)).cell h2) (hI.ext (hx0.trans (hx.trans hx2))) hd q1 q2
  have HIN := Lib.hid (fun w' => in_any dx (-16) 16 w' true (inB_true.2 (by omega)))
  have HIN2 := Lib.hid (fun w' => in_any dy (-16) 16 w' true (inB_true.2 (by omega)))
  have HX0 := Lib.hid hx0
  clear hI hx0 h1 h2 cp
  show Calls _ _ _ _ (ImgRet w W H (mkl W H fun x y => pxl W H l ((x : Int) - dx) ((y : Int) - dy)))
  generalize (mkl W H fun x y => pxl W H l ((x : Int) - dx) ((y : Int) - dy)) = L at *
  go_enter Tryd.func37, Tryd.ntmps37
  obtain ⟨f0, f1, f2, f3, f4⟩ := HF.out W0 (.refl _)
  have q0 := World.block_lt_of_cell? _ _ f0
  have q1 := World.block_lt_of_cell? _ _ f1
  have q2 := World.block_lt_of_cell? _ _ f2
  go_upto_region 1 with fail
  rw [← hW0]
  clear hW0
  go_wp2_with fail
  refine (HIN.out W0).mono ?_
  rintro e w1 ⟨rfl, hx1⟩
  have HX1 := Lib.hid hx1
  clear f0 f1 f2 f3 f4 q0 q1 q2 hx1
  obtain ⟨f0, f1, f2, f3, f4⟩ := HF.out w1 HX1.out
  have q0 := World.block_lt_of_cell? _ _ f0
  have q1 := World.block_lt_of_cell? _ _ f1
  have q2 := World.block_lt_of_cell? _ _ f2
  go_wp2_with fail
  refine (HIN2.out w1).mono ?_
  rintro e w2 ⟨rfl, hx2⟩
  have HX2 := Lib.hid (HX1.out.trans hx2)
  clear f0 f1 f2 f3 f4 q0 q1 q2 hx2 HX1
  obtain ⟨f0, f1, f2, f3, f4⟩ := HF.out w2 HX2.out
  have q0 := World.block_lt_of_cell? _ _ f0
  have q1 := World.block_lt_of_cell? _ _ f1
  have q2 := World.block_lt_of_cell? _ _ f2
  go_wp2_with fail
  refine wp_region_over_tail 9 (by kernel_rfl) (by kernel_rfl) ?_; simp only [List.take_succ_cons, List.take_zero, List.drop_succ_cons, List.drop_zero]; (repeat (go_big_quiet_step (fail))); refine wpQuiet_nil ?_; rintro _ ⟨x1, rfl⟩
  have HC := Lib.hid (HMD.out (w2.over x1) (HX2.out.trans ⟨x1, rfl⟩))
  have HX3 : Hid (w.Ext (w2.over x1)) := HX0.out.trans (HX2.out.trans ⟨x1, rfl⟩)
  generalize w2.over x1 = w3 at *
  clear f0 f1 f2 f3 f4 q0 q1 q2 HMD HX0 HX2
  go_wp2_with fail
  refine HC.out.mono ?_
  rintro e w4 ⟨b4, ab4, rfl, hx4, hi4, hl4, hl5⟩
  have HR : Hid (ImgRet w W H L (.returned (.pointer (some ⟨b4, 0, none⟩))) w4) := ⟨b4, ab4, rfl, HX3.out.trans hx4, hi4, Nat.le_trans HX3.out.size hl4, Nat.le_trans HX3.out.size hl5⟩
  clear hx4 hi4 hl4 hl5
  go_wp2
  go_ret
  exact HR.out
theorem enters_shift1 : Enters 37 := enters_of Tryd.func37 (by kernel_rfl) (by kernel_rfl)
set_option maxRecDepth 5000 in
set_option maxHeartbeats 1600000 in
theorem shiftPic_any (a : Option Addr) (c : Nat) (ss : List ByteArray) (dx dy : Int) (w : World) (hd : -16 ≤ dx ∧ dx ≤ 16 ∧ -16 ≤ dy ∧ dy ≤ 16) (hok : picOk ss = true) (hm : RowS w a ss) :
    Calls Tryd.prog 17 #[.agg #[.slice a ss.length c], .int .i64 dx, .int .i64 dy] w (PicRet2 w (shP dx dy ss) true) := by
  have hb := pic_bnd hok
  obtain ⟨v1, v2, v3, v4, -⟩ := picOk_spec hok
  obtain ⟨W0, hW0⟩ : ∃ W0, W0 = (((w.alloc (.cells #[.slice a ss.length c] 26)).alloc (.cells #[.int .i64 dx] 2)).alloc (.cells #[.int .i64 dy] 2)).alloc (.cells #[.slice none 0 0] 26) := ⟨_, rfl⟩
  have hx0 : w.Ext W0 := by rw [hW0]; repeat (first | exact World.Ext.refl _ | exact ⟨_, rfl⟩ | assumption | refine World.Ext.over ?_ _ | refine World.Ext.drewN ?_ _ | refine World.Ext.drew ?_ | refine World.Ext.alloc ?_ _ | refine World.Ext.setCell ?_ (by simp) _)
  have d1 : W0.cell? ⟨w.heap.size + 1, 0, none⟩ = some (.int .i64 dx) := by rw [hW0]; simp [go_sem]
  have d2 : W0.cell? ⟨w.heap.size + 1 + 1, 0, none⟩ = some (.int .i64 dy) := by rw [hW0]; simp [go_sem]
  have hone : One W0 (w.heap.size + 1 + 1 + 1) 26 (.slice none 0 0) := by rw [hW0]; exact One.new _ _ _ _ (by simp)
  have HWI : Hid (Calls Tryd.prog 34 #[.agg #[.slice a ss.length c], .func (.func 37) #[] #[.pointer (some ⟨w.heap.size + 1, 0, none⟩), .pointer (some ⟨w.heap.size + 1 + 1, 0, none⟩)]] W0 (PicRet2 W0 (shP dx dy ss) true)) := by
    have h := withImage_any a c 37 #[.pointer (some ⟨w.heap.size + 1, 0, none⟩), .pointer (some ⟨w.heap.size + 1 + 1, 0, none⟩)] ss true (picW ss) ss.length (mkl (picW ss) ss.length fun x y => pxl (picW ss) ss.length (picL ss) ((x : Int) - dx) ((y : Int) - dy)) W0 hb.1 hb.2 (hm.ext hx0) enters_shift1 (fun _ _ => by omega)
      (fun w' b ab _ hx hI => shift1_any _ _ b ab _ _ _ dx dy w' (by omega) (by omega) (hx.cell d1) (hx.cell d2) hI hd)
    rw [hok] at h
    exact h
  have HX0 := Lib.hid hx0
  have HO := Lib.hid hone
  clear hm hx0 hone d1 d2 hok hb
  generalize shP dx dy ss = R at *
  go_enter Tryd.func17, Tryd.ntmps17
  go_wp2_with fail
  rw [← hW0]
  clear hW0
  refine HWI.out.mono ?_
  rintro e w2 ⟨a3, c3, rfl, hx3, ho3⟩
  obtain ⟨r1, r2, r3, HR⟩ := Res.store (.slice a3 R.length c3) (HX0.out.trans hx3) (show w.heap.size ≤ w.heap.size + 1 + 1 + 1 by omega) (HO.out.ext hx3) HO.out.lt ho3
  have l1 := (HO.out.ext hx3).lt
  clear hx3 ho3 HWI
  go_wp2
  exact bodyPost_ret (v := .tuple #[.agg #[.slice a3 R.length c3], .bool true]) (by simp [results, Tryd.results17, go_sem, r3]) rfl ⟨a3, c3, rfl, HR.out.1, HR.out.2⟩
end Go.Proofs.YtelaoimcaidoiaaDoor
