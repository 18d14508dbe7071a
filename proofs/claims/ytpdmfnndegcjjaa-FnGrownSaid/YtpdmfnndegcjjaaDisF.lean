/- DistancesOf: the reference's and the program's. -/
import Derived.Test.YtpdmfnndegcjjaaCount
namespace Go.Proofs.Ytpdmfnndegcjjaa
open Go.RowKit
theorem enters_dist1 : Enters 202 := enters_of Try.func202 (by kernel_rfl) (by kernel_rfl)
set_option maxHeartbeats 800000 in
theorem dist1_any (p3 p5 : Nat) (kind x y : Int) (a : Option Addr) (c : Nat) (ps : List (Int × Int)) (w : World) (hpos : 0 < ps.length) (hn : ps.length ≤ 1048576) (hm : RowP w a ps) (hb : AllNear ps) (hx : -40 ≤ x ∧ x ≤ 40) (hy : -40 ≤ y ∧ y ≤ 40)
    (h3 : w.cell? ⟨p3, 0, none⟩ = some (.int .i64 kind)) (h5 : w.cell? ⟨p5, 0, none⟩ = some (.slice a ps.length c)) :
    Calls Try.prog 202 #[.int .i64 x, .int .i64 y, .pointer (some ⟨p3, 0, none⟩), .pointer (some ⟨p5, 0, none⟩)] w fun e w' => e = .returned (.int .i64 (leastD (ps.map (farI kind (x, y))))) ∧ w.Ext w' := by
  have HL := Lib.hid (least_any kind x y a c ps w hpos hn hm hb hx hy)
  clear hpos hn hm hb hx hy
  generalize leastD (ps.map (farI kind (x, y))) = d at *
  go_enter Try.func202, Try.ntmps202
  go_wp2_with fail
  refine HL.out.mono ?_
  rintro e w2 ⟨j, rfl, hx2⟩
  go_wp2
  go_ret
  exact ⟨rfl, hx2⟩
set_option maxRecDepth 5000 in
set_option maxHeartbeats 800000 in
theorem implDistancesOf_any (a : Option Addr) (c : Nat) (ss : List ByteArray) (kind : Int) (w : World) (hb : PicBnd ss) (hm : RowS w a ss) :
    Calls Try.prog 90 #[.agg #[.slice a ss.length c], .int .i64 kind] w (MatRet2 w (optM (someOk ss kind) (grd (picW ss) ss.length (disI kind (picW ss) ss.length (picL ss)))) (someOk ss kind)) := by
  obtain ⟨W0, hW0⟩ : ∃ W0, W0 = (w.alloc (.cells #[.slice a ss.length c] 26)).alloc (.cells #[.int .i64 kind] 2) := ⟨_, rfl⟩
  have hx0 : w.Ext W0 := by rw [hW0]; repeat (first | exact World.Ext.refl _ | exact ⟨_, rfl⟩ | assumption | refine World.Ext.over ?_ _ | refine World.Ext.drewN ?_ _ | refine World.Ext.drew ?_ | refine World.Ext.alloc ?_ _ | refine World.Ext.setCell ?_ (by simp) _)
  have hc0 : W0.cell? ⟨w.heap.size, 0, none⟩ = some (.slice a ss.length c) := by rw [hW0]; simp [go_sem]
  have hc1 : W0.cell? ⟨w.heap.size + 1, 0, none⟩ = some (.int .i64 kind) := by rw [hW0]; simp [go_sem]
  have HB := Lib.hid (withBlack_any a c ss kind W0 hb (hm.ext hx0))
  have H0 := Lib.hid (And.intro hx0 (And.intro hc0 hc1))
  clear hm hb hx0 hc0 hc1
  cases h : someOk ss kind
  · rw [h] at HB
    show Calls _ _ _ _ (MatRet2 w [] false)
    clear h
    go_enter Try.func90, Try.ntmps90
    go_wp2_with fail
    rw [← hW0]
    refine HB.out.mono ?_
    rintro e w1 ⟨rfl, hx1⟩
    have HX := Lib.hid (H0.out.1.trans hx1)
    clear hx1 hW0 H0
    go_wp2
    go_ret2
    exact MatRet2.no (HX.out.trans (by repeat (first | exact World.Ext.refl _ | exact ⟨_, rfl⟩ | assumption | refine World.Ext.over ?_ _ | refine World.Ext.drewN ?_ _ | refine World.Ext.drew ?_ | refine World.Ext.alloc ?_ _ | refine World.Ext.setCell ?_ (by simp) _)))
  · rw [h] at HB
    unfold someOk askOk at h
    rw [Bool.and_eq_true, Bool.and_eq_true, decide_eq_true_eq] at h
    obtain ⟨⟨hp, _⟩, hpos⟩ := h
    obtain ⟨q1, q2, q3, q4, _⟩ := picOk_spec hp
    have hbox := spotsTo_box (picW ss) ss.length (picL ss) (by omega) (by omega)
    have HNR : Hid (AllNear (spotsTo (picW ss) (picL ss) (ss.length * picW ss))) := fun i hi => by
      obtain ⟨b1, b2, b3, b4⟩ := hbox i hi
      omega
    have HN : Hid ((spotsTo (picW ss) (picL ss) (ss.length * picW ss)).length ≤ 1048576) := Nat.le_trans (spotsTo_len _ _ _) (Nat.le_trans (Nat.mul_le_mul (by omega : ss.length ≤ 64) (by omega : picW ss ≤ 64)) (by decide))
    have HDI : Hid (∀ x y : Nat, disI kind (picW ss) ss.length (picL ss) x y = leastD ((spotsTo (picW ss) (picL ss) (ss.length * picW ss)).map (farI kind (x, y)))) := fun x y => rfl
    show Calls _ _ _ _ (MatRet2 w (grd (picW ss) ss.length (disI kind (picW ss) ss.length (picL ss))) true)
    generalize disI kind (picW ss) ss.length (picL ss) = g at *
    generalize spotsTo (picW ss) (picL ss) (ss.length * picW ss) = ps at *
    clear hp hbox
    go_enter Try.func90, Try.ntmps90
    go_wp2_with fail
    rw [← hW0]
    refine HB.out.mono ?_
    rintro e w1 ⟨b, ab, a1, c1, rfl, hx1, hi1, hr1⟩
    have hx2 : w1.Ext (w1.alloc (.cells #[.slice a1 ps.length c1] 126)) := by repeat (first | exact World.Ext.refl _ | exact ⟨_, rfl⟩ | assumption | refine World.Ext.over ?_ _ | refine World.Ext.drewN ?_ _ | refine World.Ext.drew ?_ | refine World.Ext.alloc ?_ _ | refine World.Ext.setCell ?_ (by simp) _)
    have HG := Lib.hid (grid_any b ab 202 (picW ss) ss.length (picL ss) #[.pointer (some ⟨w.heap.size + 1, 0, none⟩), .pointer (some ⟨w1.heap.size, 0, none⟩)] g _ (by omega) (by omega) (hi1.ext hx2) enters_dist1 (fun w' hx x y h1 h2 => by
      rw [HDI.out]
      exact dist1_any _ _ kind x y a1 c1 ps w' hpos HN.out (hr1.ext (hx2.trans hx)) HNR.out (by omega) (by omega) ((hx1.trans (hx2.trans hx)).cell H0.out.2.2) (hx.cell (by simp [go_sem]))))
    have HX := Lib.hid (H0.out.1.trans (hx1.trans hx2))
    clear hx1 hi1 hr1 hx2 H0 hW0 q1 q2 q3 q4 hpos
    generalize grd (picW ss) ss.length g = m at *
    go_wp2_with fail
    refine HG.out.mono ?_
    rintro e w3 ⟨a2, c2, A2, C2, rfl, hx3, hm2⟩
    have HR : Hid (MatRet2 w m true (.returned (.tuple #[.slice a2 m.length c2, .bool true])) w3) := MatRet2.yes ⟨a2, c2, A2, C2, rfl, HX.out.trans hx3, hm2.lower HX.out.size⟩
    clear hx3 hm2
    go_wp2
    go_ret2
    exact HR.out
end Go.Proofs.Ytpdmfnndegcjjaa
