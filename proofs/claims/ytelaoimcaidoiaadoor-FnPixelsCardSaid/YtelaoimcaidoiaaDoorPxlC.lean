/- Pictures cropped; the box of a picture. -/
import Derived.Test.YtelaoimcaidoiaaDoorPxlB
namespace Go.Proofs.YtelaoimcaidoiaaDoor
open Go Go.RowKit
/-- A part of a picture. -/
def crP (fx fy V U : Nat) (R : List ByteArray) : List ByteArray := picRows V U (mkl V U fun x y => pxl (picW R) R.length (picL R) ((fx : Int) + (x : Int)) ((fy : Int) + (y : Int)))
set_option maxHeartbeats 800000 in
theorem crop11_any (p2 p3 b ab W H : Nat) (l : List Bool) (fx fy : Nat) (x y : Nat) (w : World) (hW : W ≤ 64) (hH : H ≤ 64) (h2 : w.cell? ⟨p2, 0, none⟩ = some (.pointer (some ⟨b, 0, none⟩))) (h3 : w.cell? ⟨p3, 0, none⟩ = some (.int .i64 (fx : Int))) (h4 : w.cell? ⟨p3, 1, none⟩ = some (.int .i64 (fy : Int))) (hI : Img w b ab W H l) (hd : fx ≤ 64 ∧ fy ≤ 64) (hx : x < 64) (hy : y < 64) :
    Calls Tryd.prog 43 #[.int .i64 x, .int .i64 y, .pointer (some ⟨p2, 0, none⟩), .pointer (some ⟨p3, 0, none⟩)] w fun e w' => e = .returned (.bool (pxl W H l ((fx : Int) + (x : Int)) ((fy : Int) + (y : Int)))) ∧ w.Ext w' := by
  have HG := Lib.hid (get_any b ab W H l ((fx : Int) + (x : Int)) ((fy : Int) + (y : Int)) w hW hH hI _ rfl)
  clear hI
  generalize pxl W H l ((fx : Int) + (x : Int)) ((fy : Int) + (y : Int)) = t at *
  go_enter Tryd.func43, Tryd.ntmps43
  go_wp2_with fail
  refine HG.out.mono ?_
  rintro e w1 ⟨rfl, hx1⟩
  have HX1 := Lib.hid hx1
  clear hx1 h2 h3 h4
  go_wp2
  go_ret
  exact ⟨rfl, HX1.out⟩
theorem enters_crop11 : Enters 43 := enters_of Tryd.func43 (by kernel_rfl) (by kernel_rfl)
set_option maxHeartbeats 1600000 in
theorem crop1_any (p1 p2 p3 b ab W H V U : Nat) (l : List Bool) (fx fy : Nat) (w : World) (hW : W ≤ 64) (hH : H ≤ 64) (h1 : w.cell? ⟨p1, 0, none⟩ = some (.int .i64 (V : Int))) (h2 : w.cell? ⟨p2, 0, none⟩ = some (.int .i64 (U : Int))) (h3 : w.cell? ⟨p3, 0, none⟩ = some (.int .i64 (fx : Int))) (h4 : w.cell? ⟨p3, 1, none⟩ = some (.int .i64 (fy : Int))) (hI : Img w b ab W H l)
    (hv : 1 ≤ V ∧ V ≤ 16 ∧ 1 ≤ U ∧ U ≤ 16) (hf : fx + V ≤ W ∧ fy + U ≤ H) :
    Calls Tryd.prog 42 #[.pointer (some ⟨b, 0, none⟩), .pointer (some ⟨p1, 0, none⟩), .pointer (some ⟨p2, 0, none⟩), .pointer (some ⟨p3, 0, none⟩)] w (DoRet w true V U (mkl V U fun x y => pxl W H l ((fx : Int) + (x : Int)) ((fy : Int) + (y : Int)))) := by
  obtain ⟨W0, hW0⟩ : ∃ W0, W0 = w.alloc (.cells #[.pointer (some ⟨b, 0, none⟩)] 53) := ⟨_, rfl⟩
  have hx0 : w.Ext W0 := by rw [hW0]; repeat (first | exact World.Ext.refl _ | exact ⟨_, rfl⟩ | assumption | refine World.Ext.over ?_ _ | refine World.Ext.drewN ?_ _ | refine World.Ext.drew ?_ | refine World.Ext.alloc ?_ _ | refine World.Ext.setCell ?_ (by simp) _)
  have cp : W0.cell? ⟨w.heap.size, 0, none⟩ = some (.pointer (some ⟨b, 0, none⟩)) := by rw [hW0]; simp [go_sem]
  have HF : Hid (∀ w', W0.Ext w' → w'.cell? ⟨w.heap.size, 0, none⟩ = some (.pointer (some ⟨b, 0, none⟩)) ∧ w'.cell? ⟨p1, 0, none⟩ = some (.int .i64 (V : Int)) ∧ w'.cell? ⟨p2, 0, none⟩ = some (.int .i64 (U : Int)) ∧ w'.cell? ⟨p3, 0, none⟩ = some (.int .i64 (fx : Int)) ∧ w'.cell? ⟨p3, 1, none⟩ = some (.int .i64 (fy : Int))) := fun w' hx => ⟨hx.cell cp, (hx0.trans hx).cell h1, (hx0.trans hx).cell h2, (hx0.trans hx).cell h3, (hx0.trans hx).cell h4⟩
  have HMD : Hid (∀ w', W0.Ext w' → Calls Tryd.prog 39 #[.int .i64 V, .int .i64 U, .func (.func 43) #[] #[.pointer (some ⟨w.heap.size, 0, none⟩), .pointer (some ⟨p3, 0, none⟩)]] w' (ImgRet w' V U (mkl V U fun x y => pxl W H l ((fx : Int) + (x : Int)) ((fy : Int) + (y : Int))))) := fun w' hx =>
    made_any V U _ _ _ w' (by omega) (by omega) enters_crop11 fun w'' hx2 x y q1 q2 => crop11_any w.heap.size p3 b ab W H l fx fy x y w'' hW hH ((hx.trans hx2).cell cp) ((hx0.trans (hx.trans hx2)).cell h3) ((hx0.trans (hx.trans hx2)).cell h4) (hI.ext (hx0.trans (hx.trans hx2))) (by omega) (by omega) (by omega)
  have HSZ := Lib.hid (fun w' => sizeOk_any V U w' true (by unfold sizeB; rw [inB_true.2 (by omega), inB_true.2 (by omega)]; rfl))
  have HHA := Lib.hid (fun w' (hx : W0.Ext w') => has_any b ab W H l (fx : Int) (fy : Int) w' hW hH (hI.ext (hx0.trans hx)) true (hasB_true.2 (by omega)))
  have HHB := Lib.hid (fun w' (hx : W0.Ext w') => has_any b ab W H l ((fx : Int) + (V : Int) - 1) ((fy : Int) + (U : Int) - 1) w' hW hH (hI.ext (hx0.trans hx)) true (hasB_true.2 (by omega)))
  have HX0 := Lib.hid hx0
  have hfx : fx ≤ 64 ∧ fy ≤ 64 := by omega
  have wr1 : IntKind.i64.wrap ((fx : Int) + (V : Int)) = (fx : Int) + (V : Int) := IntWalk.i64_in _ (by omega)
  have wr2 : IntKind.i64.wrap ((fy : Int) + (U : Int)) = (fy : Int) + (U : Int) := IntWalk.i64_in _ (by omega)
  have wr3 : IntKind.i64.wrap ((fx : Int) + (V : Int) - 1) = (fx : Int) + (V : Int) - 1 := IntWalk.i64_in _ (by omega)
  have wr4 : IntKind.i64.wrap ((fy : Int) + (U : Int) - 1) = (fy : Int) + (U : Int) - 1 := IntWalk.i64_in _ (by omega)
  clear hI hx0 h1 h2 h3 h4 cp
  show Calls _ _ _ _ (ImgRet w V U (mkl V U fun x y => pxl W H l ((fx : Int) + (x : Int)) ((fy : Int) + (y : Int))))
  generalize (mkl V U fun x y => pxl W H l ((fx : Int) + (x : Int)) ((fy : Int) + (y : Int))) = L at *
  go_enter Tryd.func42, Tryd.ntmps42
  obtain ⟨f0, f1, f2, f3, f4⟩ := HF.out W0 (.refl _)
  have q0 := World.block_lt_of_cell? _ _ f0
  have q1 := World.block_lt_of_cell? _ _ f1
  have q2 := World.block_lt_of_cell? _ _ f2
  have q3 := World.block_lt_of_cell? _ _ f3
  go_upto_region 1 with fail
  rw [← hW0]
  clear hW0
  go_wp2_with fail
  refine (HSZ.out W0).mono ?_
  rintro e w1 ⟨rfl, hx1⟩
  have HX1 := Lib.hid hx1
  clear f0 f1 f2 f3 f4 q0 q1 q2 q3 hx1
  obtain ⟨f0, f1, f2, f3, f4⟩ := HF.out w1 HX1.out
  have q0 := World.block_lt_of_cell? _ _ f0
  have q1 := World.block_lt_of_cell? _ _ f1
  have q2 := World.block_lt_of_cell? _ _ f2
  have q3 := World.block_lt_of_cell? _ _ f3
  go_wp2_with fail
  refine (HHA.out w1 HX1.out).mono ?_
  rintro e w2 ⟨rfl, hx2⟩
  have HX2 := Lib.hid (HX1.out.trans hx2)
  clear f0 f1 f2 f3 f4 q0 q1 q2 q3 hx2 HX1
  obtain ⟨f0, f1, f2, f3, f4⟩ := HF.out w2 HX2.out
  have q0 := World.block_lt_of_cell? _ _ f0
  have q1 := World.block_lt_of_cell? _ _ f1
  have q2 := World.block_lt_of_cell? _ _ f2
  have q3 := World.block_lt_of_cell? _ _ f3
  go_wp2_with fail
  refine (HHB.out w2 HX2.out).mono ?_
  rintro e w3 ⟨rfl, hx3⟩
  have HX3 := Lib.hid (HX2.out.trans hx3)
  clear f0 f1 f2 f3 f4 q0 q1 q2 q3 hx3 HX2
  obtain ⟨f0, f1, f2, f3, f4⟩ := HF.out w3 HX3.out
  have q0 := World.block_lt_of_cell? _ _ f0
  have q1 := World.block_lt_of_cell? _ _ f1
  have q2 := World.block_lt_of_cell? _ _ f2
  have q3 := World.block_lt_of_cell? _ _ f3
  have HC := Lib.hid (HMD.out w3 HX3.out)
  go_wp2_with fail
  refine HC.out.mono ?_
  rintro e w4 ⟨b4, ab4, rfl, hx4, hi4, hl4, hl5⟩
  have HX4 : Hid (w.Ext w3) := HX0.out.trans HX3.out
  have HR : Hid (ImgRet w V U L (.returned (.pointer (some ⟨b4, 0, none⟩))) w4) := ⟨b4, ab4, rfl, HX4.out.trans hx4, hi4, Nat.le_trans HX4.out.size hl4, Nat.le_trans HX4.out.size hl5⟩
  clear f0 f1 f2 f3 f4 q0 q1 q2 q3 hx4 hi4 hl4 hl5
  go_wp2
  go_ret
  exact HR.out
theorem enters_crop1 : Enters 42 := enters_of Tryd.func42 (by kernel_rfl) (by kernel_rfl)
set_option maxRecDepth 5000 in
set_option maxHeartbeats 1600000 in
theorem cropPic_any (a : Option Addr) (c : Nat) (ss : List ByteArray) (fx fy V U : Nat) (w : World) (hv : 1 ≤ V ∧ 1 ≤ U) (hf : fx + V ≤ picW ss ∧ fy + U ≤ ss.length) (hok : picOk ss = true) (hm : RowS w a ss) :
    Calls Tryd.prog 18 #[.agg #[.slice a ss.length c], .agg #[.int .i64 fx, .int .i64 fy], .int .i64 V, .int .i64 U] w (PicRet2 w (crP fx fy V U ss) true) := by
  have hb := pic_bnd hok
  obtain ⟨v1, v2, v3, v4, -⟩ := picOk_spec hok
  obtain ⟨W0, hW0⟩ : ∃ W0, W0 = ((((w.alloc (.cells #[.slice a ss.length c] 26)).alloc (.cells #[.int .i64 fx, .int .i64 fy] 39)).alloc (.cells #[.int .i64 V] 2)).alloc (.cells #[.int .i64 U] 2)).alloc (.cells #[.slice none 0 0] 26) := ⟨_, rfl⟩
  have hx0 : w.Ext W0 := by rw [hW0]; repeat (first | exact World.Ext.refl _ | exact ⟨_, rfl⟩ | assumption | refine World.Ext.over ?_ _ | refine World.Ext.drewN ?_ _ | refine World.Ext.drew ?_ | refine World.Ext.alloc ?_ _ | refine World.Ext.setCell ?_ (by simp) _)
  have d1 : W0.cell? ⟨w.heap.size + 1, 0, none⟩ = some (.int .i64 (fx : Int)) := by rw [hW0]; simp [go_sem]
  have d2 : W0.cell? ⟨w.heap.size + 1, 1, none⟩ = some (.int .i64 (fy : Int)) := by rw [hW0]; simp [go_sem]
  have d3 : W0.cell? ⟨w.heap.size + 1 + 1, 0, none⟩ = some (.int .i64 (V : Int)) := by rw [hW0]; simp [go_sem]
  have d4 : W0.cell? ⟨w.heap.size + 1 + 1 + 1, 0, none⟩ = some (.int .i64 (U : Int)) := by rw [hW0]; simp [go_sem]
  have hone : One W0 (w.heap.size + 1 + 1 + 1 + 1) 26 (.slice none 0 0) := by rw [hW0]; exact One.new _ _ _ _ (by simp)
  have HWI : Hid (Calls Tryd.prog 34 #[.agg #[.slice a ss.length c], .func (.func 42) #[] #[.pointer (some ⟨w.heap.size + 1 + 1, 0, none⟩), .pointer (some ⟨w.heap.size + 1 + 1 + 1, 0, none⟩), .pointer (some ⟨w.heap.size + 1, 0, none⟩)]] W0 (PicRet2 W0 (crP fx fy V U ss) true)) := by
    have h := withImage_any a c 42 #[.pointer (some ⟨w.heap.size + 1 + 1, 0, none⟩), .pointer (some ⟨w.heap.size + 1 + 1 + 1, 0, none⟩), .pointer (some ⟨w.heap.size + 1, 0, none⟩)] ss true V U (mkl V U fun x y => pxl (picW ss) ss.length (picL ss) ((fx : Int) + (x : Int)) ((fy : Int) + (y : Int))) W0 hb.1 hb.2 (hm.ext hx0) enters_crop1 (fun _ _ => by omega)
      (fun w' b ab _ hx hI => crop1_any _ _ _ b ab _ _ V U _ fx fy w' (by omega) (by omega) (hx.cell d3) (hx.cell d4) (hx.cell d1) (hx.cell d2) hI (by omega) hf)
    rw [hok] at h
    exact h
  have HX0 := Lib.hid hx0
  have HO := Lib.hid hone
  clear hm hx0 hone d1 d2 d3 d4 hok hb
  generalize crP fx fy V U ss = R at *
  go_enter Tryd.func18, Tryd.ntmps18
  go_wp2_with fail
  rw [← hW0]
  clear hW0
  refine HWI.out.mono ?_
  rintro e w2 ⟨a3, c3, rfl, hx3, ho3⟩
  obtain ⟨r1, r2, r3, HR⟩ := Res.store (.slice a3 R.length c3) (HX0.out.trans hx3) (show w.heap.size ≤ w.heap.size + 1 + 1 + 1 + 1 by omega) (HO.out.ext hx3) HO.out.lt ho3
  have l1 := (HO.out.ext hx3).lt
  clear hx3 ho3 HWI
  go_wp2
  exact bodyPost_ret (v := .tuple #[.agg #[.slice a3 R.length c3], .bool true]) (by simp [results, Tryd.results18, go_sem, r3]) rfl ⟨a3, c3, rfl, HR.out.1, HR.out.2⟩
end Go.Proofs.YtelaoimcaidoiaaDoor
