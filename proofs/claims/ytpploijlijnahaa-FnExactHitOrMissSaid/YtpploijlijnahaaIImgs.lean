/- The images that the program makes by an element. -/
import Derived.Test.YtpploijlijnahaaIClo2
import Derived.Test.YtpploijlijnahaaIPic
namespace Go.Proofs.Ytpploijlijnahaa
open Go.RowKit
theorem enters_dilated1 : Enters 154 := enters_of Try.func154 (by kernel_rfl) (by kernel_rfl)
set_option maxHeartbeats 800000 in
theorem dilated_any (b ab W H : Nat) (l : List Bool) (ae : Option Addr) (ce : Nat) (os : List (Int × Int)) (w : World) (hW : W ≤ 64) (hH : H ≤ 64) (hI : Img w b ab W H l) (hn : os.length ≤ 1048576) (hml : RowP w ae os) (hs : Small os) :
    Calls Try.prog 75 #[.pointer (some ⟨b, 0, none⟩), .slice ae os.length ce] w (ImgRet w W H (mkl W H fun x y => someB W H l os x y)) := by
  have h0 := hI.c0
  have h1 := hI.c1
  have hlt := hI.lt
  have hx0 : w.Ext ((w.alloc (.cells #[.pointer (some ⟨b, 0, none⟩)] 95)).alloc (.cells #[.slice ae os.length ce] 34)) := by repeat (first | exact World.Ext.refl _ | exact ⟨_, rfl⟩ | assumption | refine World.Ext.over ?_ _ | refine World.Ext.drewN ?_ _ | refine World.Ext.drew ?_ | refine World.Ext.alloc ?_ _ | refine World.Ext.setCell ?_ (by simp) _)
  have hc1 : ((w.alloc (.cells #[.pointer (some ⟨b, 0, none⟩)] 95)).alloc (.cells #[.slice ae os.length ce] 34)).cell? ⟨w.heap.size, 0, none⟩ = some (.pointer (some ⟨b, 0, none⟩)) := by simp [go_sem]
  have hc2 : ((w.alloc (.cells #[.pointer (some ⟨b, 0, none⟩)] 95)).alloc (.cells #[.slice ae os.length ce] 34)).cell? ⟨w.heap.size + 1, 0, none⟩ = some (.slice ae os.length ce) := by simp [go_sem]
  have HM := Lib.hid (fun w1 (hx1 : World.Ext _ w1) => made_any W H 154 #[.pointer (some ⟨w.heap.size + 1, 0, none⟩), .pointer (some ⟨w.heap.size, 0, none⟩)] (fun x y => someB W H l os x y) w1 hW hH enters_dilated1 (fun w' hx x y hxW hyH => dilated1_any _ _ b ab W H l ae ce os x y w' hW hH (hI.ext ((hx0.trans hx1).trans hx)) hn (hml.ext ((hx0.trans hx1).trans hx)) hs ((hx1.trans hx).cell hc1) ((hx1.trans hx).cell hc2) (by omega) (by omega)))
  have HX0 := Lib.hid hx0
  clear hx0 hI hn hml hs hc1 hc2
  go_enter Try.func75, Try.ntmps75
  go_wp2_with fail
  refine wp_region_over_tail 9 (by kernel_rfl) (by kernel_rfl) ?_; simp only [List.take_succ_cons, List.take_zero, List.drop_succ_cons, List.drop_zero]; (repeat (go_big_quiet_step (fail))); refine wpQuiet_nil ?_; rintro _ ⟨x1, rfl⟩
  go_wp2_with fail
  refine (HM.out _ ⟨x1, rfl⟩).mono ?_
  rintro e w2 ⟨b2, ab2, rfl, hx2, hi2, hb2, hab2⟩
  have hx3 := (HX0.out.over x1).trans hx2
  have hb3 : w.heap.size ≤ b2 := by have := HX0.out.size; simp at hb2; omega
  have hab3 : w.heap.size ≤ ab2 := by have := HX0.out.size; simp at hab2; omega
  have HR := Lib.hid (And.intro hx3 hi2)
  clear hx3 hx2 hi2
  go_wp2
  go_ret
  exact ⟨b2, ab2, rfl, HR.out.1, HR.out.2, hb3, hab3⟩
theorem enters_eroded1 : Enters 158 := enters_of Try.func158 (by kernel_rfl) (by kernel_rfl)
set_option maxHeartbeats 800000 in
theorem eroded_any (b ab W H : Nat) (l : List Bool) (ae : Option Addr) (ce : Nat) (os : List (Int × Int)) (w : World) (hW : W ≤ 64) (hH : H ≤ 64) (hI : Img w b ab W H l) (hn : os.length ≤ 1048576) (hml : RowP w ae os) (hs : Small os) :
    Calls Try.prog 81 #[.pointer (some ⟨b, 0, none⟩), .slice ae os.length ce] w (ImgRet w W H (mkl W H fun x y => fitsB W H l os x y)) := by
  have h0 := hI.c0
  have h1 := hI.c1
  have hlt := hI.lt
  have hx0 : w.Ext ((w.alloc (.cells #[.pointer (some ⟨b, 0, none⟩)] 95)).alloc (.cells #[.slice ae os.length ce] 34)) := by repeat (first | exact World.Ext.refl _ | exact ⟨_, rfl⟩ | assumption | refine World.Ext.over ?_ _ | refine World.Ext.drewN ?_ _ | refine World.Ext.drew ?_ | refine World.Ext.alloc ?_ _ | refine World.Ext.setCell ?_ (by simp) _)
  have hc1 : ((w.alloc (.cells #[.pointer (some ⟨b, 0, none⟩)] 95)).alloc (.cells #[.slice ae os.length ce] 34)).cell? ⟨w.heap.size, 0, none⟩ = some (.pointer (some ⟨b, 0, none⟩)) := by simp [go_sem]
  have hc2 : ((w.alloc (.cells #[.pointer (some ⟨b, 0, none⟩)] 95)).alloc (.cells #[.slice ae os.length ce] 34)).cell? ⟨w.heap.size + 1, 0, none⟩ = some (.slice ae os.length ce) := by simp [go_sem]
  have HM := Lib.hid (fun w1 (hx1 : World.Ext _ w1) => made_any W H 158 #[.pointer (some ⟨w.heap.size, 0, none⟩), .pointer (some ⟨w.heap.size + 1, 0, none⟩)] (fun x y => fitsB W H l os x y) w1 hW hH enters_eroded1 (fun w' hx x y hxW hyH => eroded1_any _ _ b ab W H l ae ce os x y w' hW hH (hI.ext ((hx0.trans hx1).trans hx)) hn (hml.ext ((hx0.trans hx1).trans hx)) hs ((hx1.trans hx).cell hc1) ((hx1.trans hx).cell hc2) (by omega) (by omega)))
  have HX0 := Lib.hid hx0
  clear hx0 hI hn hml hs hc1 hc2
  go_enter Try.func81, Try.ntmps81
  go_wp2_with fail
  refine wp_region_over_tail 9 (by kernel_rfl) (by kernel_rfl) ?_; simp only [List.take_succ_cons, List.take_zero, List.drop_succ_cons, List.drop_zero]; (repeat (go_big_quiet_step (fail))); refine wpQuiet_nil ?_; rintro _ ⟨x1, rfl⟩
  go_wp2_with fail
  refine (HM.out _ ⟨x1, rfl⟩).mono ?_
  rintro e w2 ⟨b2, ab2, rfl, hx2, hi2, hb2, hab2⟩
  have hx3 := (HX0.out.over x1).trans hx2
  have hb3 : w.heap.size ≤ b2 := by have := HX0.out.size; simp at hb2; omega
  have hab3 : w.heap.size ≤ ab2 := by have := HX0.out.size; simp at hab2; omega
  have HR := Lib.hid (And.intro hx3 hi2)
  clear hx3 hx2 hi2
  go_wp2
  go_ret
  exact ⟨b2, ab2, rfl, HR.out.1, HR.out.2, hb3, hab3⟩
theorem enters_opened1 : Enters 159 := enters_of Try.func159 (by kernel_rfl) (by kernel_rfl)
set_option maxHeartbeats 800000 in
theorem opened_any (b ab W H : Nat) (l : List Bool) (ae : Option Addr) (ce : Nat) (os : List (Int × Int)) (w : World) (hW : W ≤ 64) (hH : H ≤ 64) (hI : Img w b ab W H l) (hn : os.length ≤ 1048576) (hml : RowP w ae os) (hs : Small os) :
    Calls Try.prog 82 #[.pointer (some ⟨b, 0, none⟩), .slice ae os.length ce] w (ImgRet w W H (mkl W H fun x y => openB W H l os x y)) := by
  have h0 := hI.c0
  have h1 := hI.c1
  have hlt := hI.lt
  have hx0 : w.Ext ((w.alloc (.cells #[.pointer (some ⟨b, 0, none⟩)] 95)).alloc (.cells #[.slice ae os.length ce] 34)) := by repeat (first | exact World.Ext.refl _ | exact ⟨_, rfl⟩ | assumption | refine World.Ext.over ?_ _ | refine World.Ext.drewN ?_ _ | refine World.Ext.drew ?_ | refine World.Ext.alloc ?_ _ | refine World.Ext.setCell ?_ (by simp) _)
  have hc1 : ((w.alloc (.cells #[.pointer (some ⟨b, 0, none⟩)] 95)).alloc (.cells #[.slice ae os.length ce] 34)).cell? ⟨w.heap.size, 0, none⟩ = some (.pointer (some ⟨b, 0, none⟩)) := by simp [go_sem]
  have hc2 : ((w.alloc (.cells #[.pointer (some ⟨b, 0, none⟩)] 95)).alloc (.cells #[.slice ae os.length ce] 34)).cell? ⟨w.heap.size + 1, 0, none⟩ = some (.slice ae os.length ce) := by simp [go_sem]
  have HM := Lib.hid (fun w1 (hx1 : World.Ext _ w1) => made_any W H 159 #[.pointer (some ⟨w.heap.size + 1, 0, none⟩), .pointer (some ⟨w.heap.size, 0, none⟩)] (fun x y => openB W H l os x y) w1 hW hH enters_opened1 (fun w' hx x y hxW hyH => opened1_any _ _ b ab W H l ae ce os x y w' hW hH (hI.ext ((hx0.trans hx1).trans hx)) hn (hml.ext ((hx0.trans hx1).trans hx)) hs ((hx1.trans hx).cell hc1) ((hx1.trans hx).cell hc2) (by omega) (by omega)))
  have HX0 := Lib.hid hx0
  clear hx0 hI hn hml hs hc1 hc2
  go_enter Try.func82, Try.ntmps82
  go_wp2_with fail
  refine wp_region_over_tail 9 (by kernel_rfl) (by kernel_rfl) ?_; simp only [List.take_succ_cons, List.take_zero, List.drop_succ_cons, List.drop_zero]; (repeat (go_big_quiet_step (fail))); refine wpQuiet_nil ?_; rintro _ ⟨x1, rfl⟩
  go_wp2_with fail
  refine (HM.out _ ⟨x1, rfl⟩).mono ?_
  rintro e w2 ⟨b2, ab2, rfl, hx2, hi2, hb2, hab2⟩
  have hx3 := (HX0.out.over x1).trans hx2
  have hb3 : w.heap.size ≤ b2 := by have := HX0.out.size; simp at hb2; omega
  have hab3 : w.heap.size ≤ ab2 := by have := HX0.out.size; simp at hab2; omega
  have HR := Lib.hid (And.intro hx3 hi2)
  clear hx3 hx2 hi2
  go_wp2
  go_ret
  exact ⟨b2, ab2, rfl, HR.out.1, HR.out.2, hb3, hab3⟩
theorem enters_closed1 : Enters 161 := enters_of Try.func161 (by kernel_rfl) (by kernel_rfl)
set_option maxHeartbeats 800000 in
theorem closed_any (b ab W H : Nat) (l : List Bool) (ae : Option Addr) (ce : Nat) (os : List (Int × Int)) (w : World) (hW : W ≤ 64) (hH : H ≤ 64) (hI : Img w b ab W H l) (hn : os.length ≤ 1048576) (hml : RowP w ae os) (hs : Small os) :
    Calls Try.prog 83 #[.pointer (some ⟨b, 0, none⟩), .slice ae os.length ce] w (ImgRet w W H (mkl W H fun x y => closeB W H l os x y)) := by
  have h0 := hI.c0
  have h1 := hI.c1
  have hlt := hI.lt
  have hx0 : w.Ext ((w.alloc (.cells #[.pointer (some ⟨b, 0, none⟩)] 95)).alloc (.cells #[.slice ae os.length ce] 34)) := by repeat (first | exact World.Ext.refl _ | exact ⟨_, rfl⟩ | assumption | refine World.Ext.over ?_ _ | refine World.Ext.drewN ?_ _ | refine World.Ext.drew ?_ | refine World.Ext.alloc ?_ _ | refine World.Ext.setCell ?_ (by simp) _)
  have hc1 : ((w.alloc (.cells #[.pointer (some ⟨b, 0, none⟩)] 95)).alloc (.cells #[.slice ae os.length ce] 34)).cell? ⟨w.heap.size, 0, none⟩ = some (.pointer (some ⟨b, 0, none⟩)) := by simp [go_sem]
  have hc2 : ((w.alloc (.cells #[.pointer (some ⟨b, 0, none⟩)] 95)).alloc (.cells #[.slice ae os.length ce] 34)).cell? ⟨w.heap.size + 1, 0, none⟩ = some (.slice ae os.length ce) := by simp [go_sem]
  have HM := Lib.hid (fun w1 (hx1 : World.Ext _ w1) => made_any W H 161 #[.pointer (some ⟨w.heap.size + 1, 0, none⟩), .pointer (some ⟨w.heap.size, 0, none⟩)] (fun x y => closeB W H l os x y) w1 hW hH enters_closed1 (fun w' hx x y hxW hyH => closed1_any _ _ b ab W H l ae ce os x y w' hW hH (hI.ext ((hx0.trans hx1).trans hx)) hn (hml.ext ((hx0.trans hx1).trans hx)) hs ((hx1.trans hx).cell hc1) ((hx1.trans hx).cell hc2) (by omega) (by omega)))
  have HX0 := Lib.hid hx0
  clear hx0 hI hn hml hs hc1 hc2
  go_enter Try.func83, Try.ntmps83
  go_wp2_with fail
  refine wp_region_over_tail 9 (by kernel_rfl) (by kernel_rfl) ?_; simp only [List.take_succ_cons, List.take_zero, List.drop_succ_cons, List.drop_zero]; (repeat (go_big_quiet_step (fail))); refine wpQuiet_nil ?_; rintro _ ⟨x1, rfl⟩
  go_wp2_with fail
  refine (HM.out _ ⟨x1, rfl⟩).mono ?_
  rintro e w2 ⟨b2, ab2, rfl, hx2, hi2, hb2, hab2⟩
  have hx3 := (HX0.out.over x1).trans hx2
  have hb3 : w.heap.size ≤ b2 := by have := HX0.out.size; simp at hb2; omega
  have hab3 : w.heap.size ≤ ab2 := by have := HX0.out.size; simp at hab2; omega
  have HR := Lib.hid (And.intro hx3 hi2)
  clear hx3 hx2 hi2
  go_wp2
  go_ret
  exact ⟨b2, ab2, rfl, HR.out.1, HR.out.2, hb3, hab3⟩
theorem enters_hom11 : Enters 93 := enters_of Try.func93 (by kernel_rfl) (by kernel_rfl)
set_option maxHeartbeats 800000 in
theorem hom_any (pe b ab W H : Nat) (l : List Bool) (ae : Option Addr) (ce : Nat) (os : List (Int × Int)) (af : Option Addr) (cf : Nat) (ms : List (Int × Int)) (w : World) (hW : W ≤ 64) (hH : H ≤ 64) (hI : Img w b ab W H l) (hn : os.length ≤ 1048576) (hml : RowP w ae os) (hs : Small os) (hnm : ms.length ≤ 1048576) (hmm : RowP w af ms) (hsm : Small ms) (hpe : w.cell? ⟨pe, 0, none⟩ = some (.slice af ms.length cf)) :
    Calls Try.prog 91 #[.pointer (some ⟨b, 0, none⟩), .slice ae os.length ce, .pointer (some ⟨pe, 0, none⟩)] w (ImgRet w W H (mkl W H fun x y => homB W H l os ms x y)) := by
  have h0 := hI.c0
  have h1 := hI.c1
  have hlt := hI.lt
  have hlt2 := World.block_lt_of_cell? _ _ hpe
  have hx0 : w.Ext ((w.alloc (.cells #[.pointer (some ⟨b, 0, none⟩)] 95)).alloc (.cells #[.slice ae os.length ce] 34)) := by repeat (first | exact World.Ext.refl _ | exact ⟨_, rfl⟩ | assumption | refine World.Ext.over ?_ _ | refine World.Ext.drewN ?_ _ | refine World.Ext.drew ?_ | refine World.Ext.alloc ?_ _ | refine World.Ext.setCell ?_ (by simp) _)
  have hc1 : ((w.alloc (.cells #[.pointer (some ⟨b, 0, none⟩)] 95)).alloc (.cells #[.slice ae os.length ce] 34)).cell? ⟨w.heap.size, 0, none⟩ = some (.pointer (some ⟨b, 0, none⟩)) := by simp [go_sem]
  have hc2 : ((w.alloc (.cells #[.pointer (some ⟨b, 0, none⟩)] 95)).alloc (.cells #[.slice ae os.length ce] 34)).cell? ⟨w.heap.size + 1, 0, none⟩ = some (.slice ae os.length ce) := by simp [go_sem]
  have HM := Lib.hid (fun w1 (hx1 : World.Ext _ w1) => made_any W H 93 #[.pointer (some ⟨w.heap.size, 0, none⟩), .pointer (some ⟨w.heap.size + 1, 0, none⟩), .pointer (some ⟨pe, 0, none⟩)] (fun x y => homB W H l os ms x y) w1 hW hH enters_hom11 (fun w' hx x y hxW hyH => hom11_any _ _ _ b ab W H l ae ce os af cf ms x y w' hW hH (hI.ext ((hx0.trans hx1).trans hx)) hn (hml.ext ((hx0.trans hx1).trans hx)) hs hnm (hmm.ext ((hx0.trans hx1).trans hx)) hsm ((hx1.trans hx).cell hc1) ((hx1.trans hx).cell hc2) (((hx0.trans hx1).trans hx).cell hpe) (by omega) (by omega)))
  have HX0 := Lib.hid hx0
  clear hx0 hI hn hml hs hc1 hc2 hnm hmm hsm
  go_enter Try.func91, Try.ntmps91
  go_wp2_with fail
  refine wp_region_over_tail 9 (by kernel_rfl) (by kernel_rfl) ?_; simp only [List.take_succ_cons, List.take_zero, List.drop_succ_cons, List.drop_zero]; (repeat (go_big_quiet_step (fail))); refine wpQuiet_nil ?_; rintro _ ⟨x1, rfl⟩
  go_wp2_with fail
  refine (HM.out _ ⟨x1, rfl⟩).mono ?_
  rintro e w2 ⟨b2, ab2, rfl, hx2, hi2, hb2, hab2⟩
  have hx3 := (HX0.out.over x1).trans hx2
  have hb3 : w.heap.size ≤ b2 := by have := HX0.out.size; simp at hb2; omega
  have hab3 : w.heap.size ≤ ab2 := by have := HX0.out.size; simp at hab2; omega
  have HR := Lib.hid (And.intro hx3 hi2)
  clear hx3 hx2 hi2
  go_wp2
  go_ret
  exact ⟨b2, ab2, rfl, HR.out.1, HR.out.2, hb3, hab3⟩
end Go.Proofs.Ytpploijlijnahaa
