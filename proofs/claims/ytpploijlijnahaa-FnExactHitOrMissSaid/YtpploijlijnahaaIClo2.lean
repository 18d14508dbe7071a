/- What the program makes of a picture by an element: its images. -/
import Derived.Test.YtpploijlijnahaaIClo
namespace Go.Proofs.Ytpploijlijnahaa
open Go.RowKit
def homB (W H : Nat) (l : List Bool) (os ms : List (Int × Int)) (x y : Int) : Bool := fitsB W H l os x y && ms.all fun o => npxl W H l (x + o.1) (y + o.2)
set_option maxHeartbeats 400000 in
theorem dilated1_any (pl pm b ab W H : Nat) (l : List Bool) (ae : Option Addr) (ce : Nat) (os : List (Int × Int)) (x y : Int) (w : World) (hW : W ≤ 64) (hH : H ≤ 64) (hI : Img w b ab W H l) (hn : os.length ≤ 1048576) (hml : RowP w ae os) (hs : Small os)
    (hm : w.cell? ⟨pm, 0, none⟩ = some (.pointer (some ⟨b, 0, none⟩))) (hl : w.cell? ⟨pl, 0, none⟩ = some (.slice ae os.length ce)) (bx : -900 ≤ x ∧ x ≤ 900) (by' : -900 ≤ y ∧ y ≤ 900) :
    Calls Try.prog 154 #[.int .i64 x, .int .i64 y, .pointer (some ⟨pl, 0, none⟩), .pointer (some ⟨pm, 0, none⟩)] w fun e w' => e = .returned (.bool (someB W H l os x y)) ∧ w.Ext w' := by
  have h3 := World.block_lt_of_cell? _ _ hm
  have h4 := World.block_lt_of_cell? _ _ hl
  have hx0 : w.Ext ((w.alloc (.cells #[.int .i64 x] 2)).alloc (.cells #[.int .i64 y] 2)) := by repeat (first | exact World.Ext.refl _ | exact ⟨_, rfl⟩ | assumption | refine World.Ext.over ?_ _ | refine World.Ext.drewN ?_ _ | refine World.Ext.drew ?_ | refine World.Ext.alloc ?_ _ | refine World.Ext.setCell ?_ (by simp) _)
  have HA := Lib.hid (some_any ae ce 155 #[.pointer (some ⟨pm, 0, none⟩), .pointer (some ⟨w.heap.size, 0, none⟩), .pointer (some ⟨w.heap.size + 1, 0, none⟩)] os (fun o => pxl W H l (x - o.1) (y - o.2)) _ hn (hml.ext hx0) enters_dilated11 (fun w' hx i hi => dilated11_any _ _ _ b ab W H l x y _ w' hW hH (hI.ext (hx0.trans hx)) ((hx0.trans hx).cell hm) (hx.cell (by simp [go_sem])) (hx.cell (by simp [go_sem])) (by omega) (by omega) (hs i hi)))
  unfold someB
  generalize (os.any fun o => pxl W H l (x - o.1) (y - o.2)) = t at HA ⊢
  have HX0 := Lib.hid hx0
  clear hx0 hI hn hml hs bx by'
  go_enter Try.func154, Try.ntmps154
  go_wp2_with fail
  refine HA.out.mono ?_
  rintro e w2 ⟨rfl, hx⟩
  go_wp2
  go_ret
  exact ⟨rfl, HX0.out.trans hx⟩
set_option maxHeartbeats 400000 in
theorem opened1_any (pl pm b ab W H : Nat) (l : List Bool) (ae : Option Addr) (ce : Nat) (os : List (Int × Int)) (x y : Int) (w : World) (hW : W ≤ 64) (hH : H ≤ 64) (hI : Img w b ab W H l) (hn : os.length ≤ 1048576) (hml : RowP w ae os) (hs : Small os)
    (hm : w.cell? ⟨pm, 0, none⟩ = some (.pointer (some ⟨b, 0, none⟩))) (hl : w.cell? ⟨pl, 0, none⟩ = some (.slice ae os.length ce)) (bx : -900 ≤ x ∧ x ≤ 900) (by' : -900 ≤ y ∧ y ≤ 900) :
    Calls Try.prog 159 #[.int .i64 x, .int .i64 y, .pointer (some ⟨pl, 0, none⟩), .pointer (some ⟨pm, 0, none⟩)] w fun e w' => e = .returned (.bool (openB W H l os x y)) ∧ w.Ext w' := by
  have h3 := World.block_lt_of_cell? _ _ hm
  have h4 := World.block_lt_of_cell? _ _ hl
  have hx0 : w.Ext ((w.alloc (.cells #[.int .i64 x] 2)).alloc (.cells #[.int .i64 y] 2)) := by repeat (first | exact World.Ext.refl _ | exact ⟨_, rfl⟩ | assumption | refine World.Ext.over ?_ _ | refine World.Ext.drewN ?_ _ | refine World.Ext.drew ?_ | refine World.Ext.alloc ?_ _ | refine World.Ext.setCell ?_ (by simp) _)
  have HA := Lib.hid (some_any ae ce 160 #[.pointer (some ⟨pm, 0, none⟩), .pointer (some ⟨pl, 0, none⟩), .pointer (some ⟨w.heap.size, 0, none⟩), .pointer (some ⟨w.heap.size + 1, 0, none⟩)] os (fun o => fitsB W H l os (x - o.1) (y - o.2)) _ hn (hml.ext hx0) enters_opened11 (fun w' hx i hi => opened11_any _ _ _ _ b ab W H l ae ce os x y _ w' hW hH (hI.ext (hx0.trans hx)) hn (hml.ext (hx0.trans hx)) hs ((hx0.trans hx).cell hm) ((hx0.trans hx).cell hl) (hx.cell (by simp [go_sem])) (hx.cell (by simp [go_sem])) bx by' (hs i hi)))
  unfold openB
  generalize (os.any fun o => fitsB W H l os (x - o.1) (y - o.2)) = t at HA ⊢
  have HX0 := Lib.hid hx0
  clear hx0 hI hn hml hs bx by'
  go_enter Try.func159, Try.ntmps159
  go_wp2_with fail
  refine HA.out.mono ?_
  rintro e w2 ⟨rfl, hx⟩
  go_wp2
  go_ret
  exact ⟨rfl, HX0.out.trans hx⟩
set_option maxHeartbeats 400000 in
theorem closed1_any (pl pm b ab W H : Nat) (l : List Bool) (ae : Option Addr) (ce : Nat) (os : List (Int × Int)) (x y : Int) (w : World) (hW : W ≤ 64) (hH : H ≤ 64) (hI : Img w b ab W H l) (hn : os.length ≤ 1048576) (hml : RowP w ae os) (hs : Small os)
    (hm : w.cell? ⟨pm, 0, none⟩ = some (.pointer (some ⟨b, 0, none⟩))) (hl : w.cell? ⟨pl, 0, none⟩ = some (.slice ae os.length ce)) (bx : -900 ≤ x ∧ x ≤ 900) (by' : -900 ≤ y ∧ y ≤ 900) :
    Calls Try.prog 161 #[.int .i64 x, .int .i64 y, .pointer (some ⟨pl, 0, none⟩), .pointer (some ⟨pm, 0, none⟩)] w fun e w' => e = .returned (.bool (closeB W H l os x y)) ∧ w.Ext w' := by
  have h3 := World.block_lt_of_cell? _ _ hm
  have h4 := World.block_lt_of_cell? _ _ hl
  have hx0 : w.Ext ((w.alloc (.cells #[.int .i64 x] 2)).alloc (.cells #[.int .i64 y] 2)) := by repeat (first | exact World.Ext.refl _ | exact ⟨_, rfl⟩ | assumption | refine World.Ext.over ?_ _ | refine World.Ext.drewN ?_ _ | refine World.Ext.drew ?_ | refine World.Ext.alloc ?_ _ | refine World.Ext.setCell ?_ (by simp) _)
  have HA := Lib.hid (all_any ae ce 162 #[.pointer (some ⟨pl, 0, none⟩), .pointer (some ⟨pm, 0, none⟩), .pointer (some ⟨w.heap.size, 0, none⟩), .pointer (some ⟨w.heap.size + 1, 0, none⟩)] os (fun o => someB W H l os (x + o.1) (y + o.2)) _ hn (hml.ext hx0) enters_closed11 (fun w' hx i hi => closed11_any _ _ _ _ b ab W H l ae ce os x y _ w' hW hH (hI.ext (hx0.trans hx)) hn (hml.ext (hx0.trans hx)) hs ((hx0.trans hx).cell hm) ((hx0.trans hx).cell hl) (hx.cell (by simp [go_sem])) (hx.cell (by simp [go_sem])) bx by' (hs i hi)))
  unfold closeB
  generalize (os.all fun o => someB W H l os (x + o.1) (y + o.2)) = t at HA ⊢
  have HX0 := Lib.hid hx0
  clear hx0 hI hn hml hs bx by'
  go_enter Try.func161, Try.ntmps161
  go_wp2_with fail
  refine HA.out.mono ?_
  rintro e w2 ⟨rfl, hx⟩
  go_wp2
  go_ret
  exact ⟨rfl, HX0.out.trans hx⟩
set_option maxHeartbeats 400000 in
theorem eroded1_any (pl pm b ab W H : Nat) (l : List Bool) (ae : Option Addr) (ce : Nat) (os : List (Int × Int)) (x y : Int) (w : World) (hW : W ≤ 64) (hH : H ≤ 64) (hI : Img w b ab W H l) (hn : os.length ≤ 1048576) (hml : RowP w ae os) (hs : Small os)
    (hm : w.cell? ⟨pm, 0, none⟩ = some (.pointer (some ⟨b, 0, none⟩))) (hl : w.cell? ⟨pl, 0, none⟩ = some (.slice ae os.length ce)) (bx : -900 ≤ x ∧ x ≤ 900) (by' : -900 ≤ y ∧ y ≤ 900) :
    Calls Try.prog 158 #[.int .i64 x, .int .i64 y, .pointer (some ⟨pm, 0, none⟩), .pointer (some ⟨pl, 0, none⟩)] w fun e w' => e = .returned (.bool (fitsB W H l os x y)) ∧ w.Ext w' := by
  have HA := Lib.hid (fits_any b ab W H l ae ce os x y w hW hH hI hn hml hs (by omega) (by omega) _ rfl)
  generalize fitsB W H l os x y = t at HA ⊢
  clear hI hn hml hs bx by'
  go_enter Try.func158, Try.ntmps158
  go_wp2_with fail
  refine HA.out.mono ?_
  rintro e w2 ⟨rfl, hx⟩
  go_wp2
  go_ret
  exact ⟨rfl, hx⟩
theorem enters_hom111 : Enters 96 := enters_of Try.func96 (by kernel_rfl) (by kernel_rfl)
set_option maxHeartbeats 800000 in
theorem hom11_any (pm pl pe b ab W H : Nat) (l : List Bool) (ae : Option Addr) (ce : Nat) (os : List (Int × Int)) (af : Option Addr) (cf : Nat) (ms : List (Int × Int)) (x y : Int) (w : World) (hW : W ≤ 64) (hH : H ≤ 64) (hI : Img w b ab W H l)
    (hn : os.length ≤ 1048576) (hml : RowP w ae os) (hs : Small os) (hnm : ms.length ≤ 1048576) (hmm : RowP w af ms) (hsm : Small ms)
    (hm : w.cell? ⟨pm, 0, none⟩ = some (.pointer (some ⟨b, 0, none⟩))) (hl : w.cell? ⟨pl, 0, none⟩ = some (.slice ae os.length ce)) (he : w.cell? ⟨pe, 0, none⟩ = some (.slice af ms.length cf)) (bx : -900 ≤ x ∧ x ≤ 900) (by' : -900 ≤ y ∧ y ≤ 900) :
    Calls Try.prog 93 #[.int .i64 x, .int .i64 y, .pointer (some ⟨pm, 0, none⟩), .pointer (some ⟨pl, 0, none⟩), .pointer (some ⟨pe, 0, none⟩)] w fun e w' => e = .returned (.bool (homB W H l os ms x y)) ∧ w.Ext w' := by
  have h2 := World.block_lt_of_cell? _ _ he
  have h3 := World.block_lt_of_cell? _ _ hm
  have h4 := World.block_lt_of_cell? _ _ hl
  have hx0 : w.Ext ((w.alloc (.cells #[.int .i64 x] 2)).alloc (.cells #[.int .i64 y] 2)) := by repeat (first | exact World.Ext.refl _ | exact ⟨_, rfl⟩ | assumption | refine World.Ext.over ?_ _ | refine World.Ext.drewN ?_ _ | refine World.Ext.drew ?_ | refine World.Ext.alloc ?_ _ | refine World.Ext.setCell ?_ (by simp) _)
  have hc1 : ((w.alloc (.cells #[.int .i64 x] 2)).alloc (.cells #[.int .i64 y] 2)).cell? ⟨w.heap.size, 0, none⟩ = some (.int .i64 x) := by simp [go_sem]
  have hc2 : ((w.alloc (.cells #[.int .i64 x] 2)).alloc (.cells #[.int .i64 y] 2)).cell? ⟨w.heap.size + 1, 0, none⟩ = some (.int .i64 y) := by simp [go_sem]
  have HF := Lib.hid (fits_any b ab W H l ae ce os x y _ hW hH (hI.ext hx0) hn (hml.ext hx0) hs (by omega) (by omega) _ rfl)
  have HA : Hid (∀ w1, ((w.alloc (.cells #[.int .i64 x] 2)).alloc (.cells #[.int .i64 y] 2)).Ext w1 → _) := fun w1 hx1 => all_any af cf 96 #[.pointer (some ⟨pm, 0, none⟩), .pointer (some ⟨w.heap.size, 0, none⟩), .pointer (some ⟨w.heap.size + 1, 0, none⟩)] ms (fun o => npxl W H l (x + o.1) (y + o.2)) w1 hnm (hmm.ext (hx0.trans hx1)) enters_hom111 (fun w' hx i hi =>
    hom111_any _ _ _ b ab W H l x y _ w' hW hH (hI.ext ((hx0.trans hx1).trans hx)) (((hx0.trans hx1).trans hx).cell hm) ((hx1.trans hx).cell hc1) ((hx1.trans hx).cell hc2) (by omega) (by omega) (hsm i hi))
  have HE : Hid (∀ w1, ((w.alloc (.cells #[.int .i64 x] 2)).alloc (.cells #[.int .i64 y] 2)).Ext w1 → w1.cell? ⟨pe, 0, none⟩ = some (.slice af ms.length cf) ∧ w1.cell? ⟨pm, 0, none⟩ = some (.pointer (some ⟨b, 0, none⟩))) := fun w1 hx1 => ⟨(hx0.trans hx1).cell he, (hx0.trans hx1).cell hm⟩
  unfold homB
  generalize fitsB W H l os x y = t at HF ⊢
  generalize (ms.all fun o => npxl W H l (x + o.1) (y + o.2)) = u at HA ⊢
  have HX0 := Lib.hid hx0
  clear hx0 hI hn hml hs bx by' hc1 hc2 hnm hmm hsm
  go_enter Try.func93, Try.ntmps93
  go_wp2_with fail
  refine HF.out.mono ?_
  rintro e w2 ⟨rfl, hx⟩
  cases t
  · go_wp2
    go_ret
    exact ⟨rfl, HX0.out.trans hx⟩
  · obtain ⟨e1, e2⟩ := HE.out _ hx
    go_wp2_with fail
    refine (HA.out _ hx).mono ?_
    rintro e w3 ⟨rfl, hx3⟩
    go_wp2
    go_ret
    exact ⟨rfl, HX0.out.trans (hx.trans hx3)⟩
end Go.Proofs.Ytpploijlijnahaa
