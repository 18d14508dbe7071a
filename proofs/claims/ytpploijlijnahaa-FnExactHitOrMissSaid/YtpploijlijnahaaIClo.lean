/- What the program makes of a picture by an element: its closures. -/
import Derived.Test.YtpploijlijnahaaIAny
import Derived.Test.YtpploijlijnahaaSMorph
namespace Go.Proofs.Ytpploijlijnahaa
open Go.RowKit
def npxl (W H : Nat) (l : List Bool) (x y : Int) : Bool := !pxl W H l x y
set_option maxHeartbeats 400000 in
theorem dilated11_any (pm px py b ab W H : Nat) (l : List Bool) (x y : Int) (q : Int × Int) (w : World) (hW : W ≤ 64) (hH : H ≤ 64) (hI : Img w b ab W H l)
    (hm : w.cell? ⟨pm, 0, none⟩ = some (.pointer (some ⟨b, 0, none⟩))) (hpx : w.cell? ⟨px, 0, none⟩ = some (.int .i64 x)) (hpy : w.cell? ⟨py, 0, none⟩ = some (.int .i64 y))
    (bx : -1000 ≤ x ∧ x ≤ 1000) (by' : -1000 ≤ y ∧ y ≤ 1000) (bq : -4 ≤ q.1 ∧ q.1 ≤ 4 ∧ -4 ≤ q.2 ∧ q.2 ≤ 4) :
    Calls Try.prog 155 #[spotV q, .pointer (some ⟨pm, 0, none⟩), .pointer (some ⟨px, 0, none⟩), .pointer (some ⟨py, 0, none⟩)] w fun e w' => e = .returned (.bool (pxl W H l (x - q.1) (y - q.2))) ∧ w.Ext w' := by
  have h1 := World.block_lt_of_cell? _ _ hm
  have h2 := World.block_lt_of_cell? _ _ hpx
  have h3 := World.block_lt_of_cell? _ _ hpy
  have HI := Lib.hid hI
  obtain ⟨bx1, bx2⟩ := bx
  obtain ⟨by1, by2⟩ := by'
  obtain ⟨q1, q2⟩ := q
  obtain ⟨bq1, bq2, bq3, bq4⟩ := bq
  dsimp only at bq1 bq2 bq3 bq4
  unfold spotV
  clear hI
  go_enter Try.func155, Try.ntmps155
  go_wp2_with fail
  refine (get_any b ab W H l _ _ _ hW hH (HI.out.ext (by simp)) _ rfl).mono ?_
  rintro e w2 ⟨rfl, hx⟩
  go_wp2
  go_ret
  exact ⟨rfl, .trans (by simp) hx⟩
set_option maxHeartbeats 400000 in
theorem fits1_any (pm px py b ab W H : Nat) (l : List Bool) (x y : Int) (q : Int × Int) (w : World) (hW : W ≤ 64) (hH : H ≤ 64) (hI : Img w b ab W H l)
    (hm : w.cell? ⟨pm, 0, none⟩ = some (.pointer (some ⟨b, 0, none⟩))) (hpx : w.cell? ⟨px, 0, none⟩ = some (.int .i64 x)) (hpy : w.cell? ⟨py, 0, none⟩ = some (.int .i64 y))
    (bx : -1000 ≤ x ∧ x ≤ 1000) (by' : -1000 ≤ y ∧ y ≤ 1000) (bq : -4 ≤ q.1 ∧ q.1 ≤ 4 ∧ -4 ≤ q.2 ∧ q.2 ≤ 4) :
    Calls Try.prog 167 #[spotV q, .pointer (some ⟨pm, 0, none⟩), .pointer (some ⟨px, 0, none⟩), .pointer (some ⟨py, 0, none⟩)] w fun e w' => e = .returned (.bool (pxl W H l (x + q.1) (y + q.2))) ∧ w.Ext w' := by
  have h1 := World.block_lt_of_cell? _ _ hm
  have h2 := World.block_lt_of_cell? _ _ hpx
  have h3 := World.block_lt_of_cell? _ _ hpy
  have HI := Lib.hid hI
  obtain ⟨bx1, bx2⟩ := bx
  obtain ⟨by1, by2⟩ := by'
  obtain ⟨q1, q2⟩ := q
  obtain ⟨bq1, bq2, bq3, bq4⟩ := bq
  dsimp only at bq1 bq2 bq3 bq4
  unfold spotV
  clear hI
  go_enter Try.func167, Try.ntmps167
  go_wp2_with fail
  refine (get_any b ab W H l _ _ _ hW hH (HI.out.ext (by simp)) _ rfl).mono ?_
  rintro e w2 ⟨rfl, hx⟩
  go_wp2
  go_ret
  exact ⟨rfl, .trans (by simp) hx⟩
set_option maxHeartbeats 400000 in
theorem hom111_any (pm px py b ab W H : Nat) (l : List Bool) (x y : Int) (q : Int × Int) (w : World) (hW : W ≤ 64) (hH : H ≤ 64) (hI : Img w b ab W H l)
    (hm : w.cell? ⟨pm, 0, none⟩ = some (.pointer (some ⟨b, 0, none⟩))) (hpx : w.cell? ⟨px, 0, none⟩ = some (.int .i64 x)) (hpy : w.cell? ⟨py, 0, none⟩ = some (.int .i64 y))
    (bx : -1000 ≤ x ∧ x ≤ 1000) (by' : -1000 ≤ y ∧ y ≤ 1000) (bq : -4 ≤ q.1 ∧ q.1 ≤ 4 ∧ -4 ≤ q.2 ∧ q.2 ≤ 4) :
    Calls Try.prog 96 #[spotV q, .pointer (some ⟨pm, 0, none⟩), .pointer (some ⟨px, 0, none⟩), .pointer (some ⟨py, 0, none⟩)] w fun e w' => e = .returned (.bool (npxl W H l (x + q.1) (y + q.2))) ∧ w.Ext w' := by
  have h1 := World.block_lt_of_cell? _ _ hm
  have h2 := World.block_lt_of_cell? _ _ hpx
  have h3 := World.block_lt_of_cell? _ _ hpy
  have HI := Lib.hid hI
  obtain ⟨bx1, bx2⟩ := bx
  obtain ⟨by1, by2⟩ := by'
  obtain ⟨q1, q2⟩ := q
  obtain ⟨bq1, bq2, bq3, bq4⟩ := bq
  dsimp only at bq1 bq2 bq3 bq4
  unfold spotV
  clear hI
  go_enter Try.func96, Try.ntmps96
  go_wp2_with fail
  refine (get_any b ab W H l _ _ _ hW hH (HI.out.ext (by simp)) _ rfl).mono ?_
  rintro e w2 ⟨rfl, hx⟩
  go_wp2
  go_ret
  exact ⟨rfl, .trans (by simp) hx⟩
theorem enters_fits1 : Enters 167 := enters_of Try.func167 (by kernel_rfl) (by kernel_rfl)
set_option maxHeartbeats 400000 in
theorem fits_any (b ab W H : Nat) (l : List Bool) (ae : Option Addr) (ce : Nat) (os : List (Int × Int)) (x y : Int) (w : World) (hW : W ≤ 64) (hH : H ≤ 64) (hI : Img w b ab W H l) (hn : os.length ≤ 1048576) (hm : RowP w ae os) (hs : Small os)
    (bx : -1000 ≤ x ∧ x ≤ 1000) (by' : -1000 ≤ y ∧ y ≤ 1000) (t : Bool) (ht : fitsB W H l os x y = t) :
    Calls Try.prog 94 #[.pointer (some ⟨b, 0, none⟩), .slice ae os.length ce, .int .i64 x, .int .i64 y] w fun e w' => e = .returned (.bool t) ∧ w.Ext w' := by
  subst ht
  have hx0 : w.Ext (((w.alloc (.cells #[.pointer (some ⟨b, 0, none⟩)] 95)).alloc (.cells #[.int .i64 x] 2)).alloc (.cells #[.int .i64 y] 2)) := by repeat (first | exact World.Ext.refl _ | exact ⟨_, rfl⟩ | assumption | refine World.Ext.over ?_ _ | refine World.Ext.drewN ?_ _ | refine World.Ext.drew ?_ | refine World.Ext.alloc ?_ _ | refine World.Ext.setCell ?_ (by simp) _)
  have HA := Lib.hid (all_any ae ce 167 #[.pointer (some ⟨w.heap.size, 0, none⟩), .pointer (some ⟨w.heap.size + 1, 0, none⟩), .pointer (some ⟨w.heap.size + 1 + 1, 0, none⟩)] os (fun o => pxl W H l (x + o.1) (y + o.2)) _ hn (hm.ext hx0) enters_fits1 (fun w' hx i hi =>
    fits1_any _ _ _ b ab W H l x y _ w' hW hH (hI.ext (hx0.trans hx)) (hx.cell (by simp [go_sem])) (hx.cell (by simp [go_sem])) (hx.cell (by simp [go_sem])) bx by' (hs i hi)))
  unfold fitsB
  generalize (os.all fun o => pxl W H l (x + o.1) (y + o.2)) = t at HA ⊢
  have HX0 := Lib.hid hx0
  clear hx0 hI hn hm hs bx by'
  go_enter Try.func94, Try.ntmps94
  go_wp2_with fail
  refine HA.out.mono ?_
  rintro e w2 ⟨rfl, hx⟩
  go_wp2
  go_ret
  exact ⟨rfl, HX0.out.trans hx⟩
set_option maxHeartbeats 400000 in
theorem opened11_any (pm pl px py b ab W H : Nat) (l : List Bool) (ae : Option Addr) (ce : Nat) (os : List (Int × Int)) (x y : Int) (q : Int × Int) (w : World) (hW : W ≤ 64) (hH : H ≤ 64) (hI : Img w b ab W H l) (hn : os.length ≤ 1048576) (hml : RowP w ae os) (hs : Small os)
    (hm : w.cell? ⟨pm, 0, none⟩ = some (.pointer (some ⟨b, 0, none⟩))) (hl : w.cell? ⟨pl, 0, none⟩ = some (.slice ae os.length ce)) (hpx : w.cell? ⟨px, 0, none⟩ = some (.int .i64 x)) (hpy : w.cell? ⟨py, 0, none⟩ = some (.int .i64 y))
    (bx : -900 ≤ x ∧ x ≤ 900) (by' : -900 ≤ y ∧ y ≤ 900) (bq : -4 ≤ q.1 ∧ q.1 ≤ 4 ∧ -4 ≤ q.2 ∧ q.2 ≤ 4) :
    Calls Try.prog 160 #[spotV q, .pointer (some ⟨pm, 0, none⟩), .pointer (some ⟨pl, 0, none⟩), .pointer (some ⟨px, 0, none⟩), .pointer (some ⟨py, 0, none⟩)] w fun e w' => e = .returned (.bool (fitsB W H l os (x - q.1) (y - q.2))) ∧ w.Ext w' := by
  have h1 := World.block_lt_of_cell? _ _ hm
  have h2 := World.block_lt_of_cell? _ _ hpx
  have h3 := World.block_lt_of_cell? _ _ hpy
  have h4 := World.block_lt_of_cell? _ _ hl
  obtain ⟨q1, q2⟩ := q
  dsimp only at bq
  have HF := Lib.hid (fits_any b ab W H l ae ce os (x - q1) (y - q2) (w.alloc (.cells #[.int .i64 q1, .int .i64 q2] 52)) hW hH (hI.ext (by simp)) hn (hml.ext (by simp)) hs (by omega) (by omega) _ rfl)
  obtain ⟨bx1, bx2⟩ := bx
  obtain ⟨by1, by2⟩ := by'
  obtain ⟨bq1, bq2, bq3, bq4⟩ := bq
  unfold spotV
  dsimp only
  generalize fitsB W H l os (x - q1) (y - q2) = t at HF ⊢
  clear hI hn hml hs
  go_enter Try.func160, Try.ntmps160
  go_wp2_with fail
  refine HF.out.mono ?_
  rintro e w2 ⟨rfl, hx⟩
  go_wp2
  go_ret
  exact ⟨rfl, .trans (by simp) hx⟩
set_option maxHeartbeats 800000 in
theorem closed111_any (pm px po py b ab W H : Nat) (l : List Bool) (x y : Int) (o q : Int × Int) (w : World) (hW : W ≤ 64) (hH : H ≤ 64) (hI : Img w b ab W H l)
    (hm : w.cell? ⟨pm, 0, none⟩ = some (.pointer (some ⟨b, 0, none⟩))) (hpx : w.cell? ⟨px, 0, none⟩ = some (.int .i64 x)) (hpy : w.cell? ⟨py, 0, none⟩ = some (.int .i64 y))
    (ho1 : w.cell? ⟨po, 0, none⟩ = some (.int .i64 o.1)) (ho2 : w.cell? ⟨po, 1, none⟩ = some (.int .i64 o.2))
    (bx : -1000 ≤ x ∧ x ≤ 1000) (by' : -1000 ≤ y ∧ y ≤ 1000) (bo : -4 ≤ o.1 ∧ o.1 ≤ 4 ∧ -4 ≤ o.2 ∧ o.2 ≤ 4) (bq : -4 ≤ q.1 ∧ q.1 ≤ 4 ∧ -4 ≤ q.2 ∧ q.2 ≤ 4) :
    Calls Try.prog 163 #[spotV q, .pointer (some ⟨pm, 0, none⟩), .pointer (some ⟨px, 0, none⟩), .pointer (some ⟨po, 0, none⟩), .pointer (some ⟨py, 0, none⟩)] w fun e w' => e = .returned (.bool (pxl W H l (x + o.1 - q.1) (y + o.2 - q.2))) ∧ w.Ext w' := by
  have h1 := World.block_lt_of_cell? _ _ hm
  have h2 := World.block_lt_of_cell? _ _ hpx
  have h3 := World.block_lt_of_cell? _ _ hpy
  have h4 := World.block_lt_of_cell? _ _ ho1
  have HI := Lib.hid hI
  obtain ⟨bx1, bx2⟩ := bx
  obtain ⟨by1, by2⟩ := by'
  obtain ⟨q1, q2⟩ := q
  obtain ⟨o1, o2⟩ := o
  obtain ⟨bq1, bq2, bq3, bq4⟩ := bq
  obtain ⟨bo1, bo2, bo3, bo4⟩ := bo
  dsimp only at bq1 bq2 bq3 bq4 bo1 bo2 bo3 bo4 ho1 ho2
  unfold spotV
  clear hI
  go_enter Try.func163, Try.ntmps163
  go_wp2_with fail
  refine (get_any b ab W H l _ _ _ hW hH (HI.out.ext (by simp)) _ rfl).mono ?_
  rintro e w2 ⟨rfl, hx⟩
  go_wp2
  go_ret
  exact ⟨rfl, .trans (by simp) hx⟩
theorem enters_closed111 : Enters 163 := enters_of Try.func163 (by kernel_rfl) (by kernel_rfl)
theorem enters_closed11 : Enters 162 := enters_of Try.func162 (by kernel_rfl) (by kernel_rfl)
theorem enters_opened11 : Enters 160 := enters_of Try.func160 (by kernel_rfl) (by kernel_rfl)
theorem enters_dilated11 : Enters 155 := enters_of Try.func155 (by kernel_rfl) (by kernel_rfl)
set_option maxHeartbeats 400000 in
theorem closed11_any (pm pl px py b ab W H : Nat) (l : List Bool) (ae : Option Addr) (ce : Nat) (os : List (Int × Int)) (x y : Int) (q : Int × Int) (w : World) (hW : W ≤ 64) (hH : H ≤ 64) (hI : Img w b ab W H l) (hn : os.length ≤ 1048576) (hml : RowP w ae os) (hs : Small os)
    (hm : w.cell? ⟨pm, 0, none⟩ = some (.pointer (some ⟨b, 0, none⟩))) (hl : w.cell? ⟨pl, 0, none⟩ = some (.slice ae os.length ce)) (hpx : w.cell? ⟨px, 0, none⟩ = some (.int .i64 x)) (hpy : w.cell? ⟨py, 0, none⟩ = some (.int .i64 y))
    (bx : -900 ≤ x ∧ x ≤ 900) (by' : -900 ≤ y ∧ y ≤ 900) (bq : -4 ≤ q.1 ∧ q.1 ≤ 4 ∧ -4 ≤ q.2 ∧ q.2 ≤ 4) :
    Calls Try.prog 162 #[spotV q, .pointer (some ⟨pl, 0, none⟩), .pointer (some ⟨pm, 0, none⟩), .pointer (some ⟨px, 0, none⟩), .pointer (some ⟨py, 0, none⟩)] w fun e w' => e = .returned (.bool (someB W H l os (x + q.1) (y + q.2))) ∧ w.Ext w' := by
  have h1 := World.block_lt_of_cell? _ _ hm
  have h2 := World.block_lt_of_cell? _ _ hpx
  have h3 := World.block_lt_of_cell? _ _ hpy
  have h4 := World.block_lt_of_cell? _ _ hl
  have hx0 : w.Ext (w.alloc (.cells #[.int .i64 q.1, .int .i64 q.2] 52)) := by simp
  have HA := Lib.hid (some_any ae ce 163 #[.pointer (some ⟨pm, 0, none⟩), .pointer (some ⟨px, 0, none⟩), .pointer (some ⟨w.heap.size, 0, none⟩), .pointer (some ⟨py, 0, none⟩)] os (fun o => pxl W H l (x + q.1 - o.1) (y + q.2 - o.2)) _ hn (hml.ext hx0) enters_closed111 (fun w' hx i hi =>
    closed111_any _ _ _ _ b ab W H l x y q _ w' hW hH (hI.ext (hx0.trans hx)) ((hx0.trans hx).cell hm) ((hx0.trans hx).cell hpx) ((hx0.trans hx).cell hpy) (hx.cell (by simp [go_sem])) (hx.cell (by simp [go_sem])) (by omega) (by omega) bq (hs i hi)))
  unfold someB
  obtain ⟨q1, q2⟩ := q
  dsimp only at *
  generalize (os.any fun o => pxl W H l (x + q1 - o.1) (y + q2 - o.2)) = t at HA ⊢
  unfold spotV
  dsimp only
  have HX0 := Lib.hid hx0
  clear hx0 hI hn hml hs bx by' bq
  go_enter Try.func162, Try.ntmps162
  go_wp2_with fail
  refine HA.out.mono ?_
  rintro e w2 ⟨rfl, hx⟩
  go_wp2
  go_ret
  exact ⟨rfl, HX0.out.trans hx⟩
end Go.Proofs.Ytpploijlijnahaa
