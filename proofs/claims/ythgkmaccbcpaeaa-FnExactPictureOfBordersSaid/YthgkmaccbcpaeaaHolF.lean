/- Holes and Euler numbers, both sides. -/
import Derived.Test.YthgkmaccbcpaeaaLabI
import Derived.Test.YthgkmaccbcpaeaaLabS
namespace Go.Proofs.Ythgkmaccbcpaeaa
open Go.RowKit
/-- There are n components. -/
def LabN (W H : Nat) (l : List Bool) (eight : Bool) (n : Nat) : Prop := ∃ F, LabK (pxP W H l) (nbA eight) (spotsTo W l (H * W)) (spotsTo W l (H * W)).length F n
theorem LabN.ex (W H : Nat) (l : List Bool) (eight : Bool) : ∃ n, LabN W H l eight n := let ⟨F, n, h⟩ := LabK.ex (pxP W H l) (nbA eight) (spotsTo W l (H * W)) (spotsTo W l (H * W)).length; ⟨n, F, h⟩
theorem LabN.few {W H : Nat} {l : List Bool} {eight : Bool} {n : Nat} (h : LabN W H l eight n) : n ≤ H * W := let ⟨_, h⟩ := h; Nat.le_trans h.few.1 (spotsTo_len _ _ _)
/-- .. of what is white, with a white edge around it. -/
def HolN (W H : Nat) (l : List Bool) (eight : Bool) (n : Nat) : Prop := LabN (W + 2) (H + 2) ((padL W H l).map (!·)) (!eight) n
theorem HolN.ex (W H : Nat) (l : List Bool) (eight : Bool) : ∃ n, HolN W H l eight n := LabN.ex _ _ _ _
def optI (ok : Bool) (n : Int) : Int := if ok then n else 0
set_option maxHeartbeats 800000 in
theorem framed1_any (p b ab W H : Nat) (l : List Bool) (x y : Nat) (w : World) (hW : W ≤ 64) (hH : H ≤ 64) (hx : x < 100) (hy : y < 100) (hp : w.cell? ⟨p, 0, none⟩ = some (.pointer (some ⟨b, 0, none⟩))) (hI : Img w b ab W H l) :
    Calls Try.prog 226 #[.int .i64 x, .int .i64 y, .pointer (some ⟨p, 0, none⟩)] w fun e w' => e = .returned (.bool (pxl W H l ((x : Int) - 1) ((y : Int) - 1))) ∧ w.Ext w' := by
  have HC := Lib.hid (get_any b ab W H l ((x : Int) - 1) ((y : Int) - 1) w hW hH hI _ rfl)
  generalize pxl W H l ((x : Int) - 1) ((y : Int) - 1) = t at *
  clear hI
  go_enter Try.func226, Try.ntmps226
  go_wp2_with fail
  refine HC.out.mono ?_
  rintro e w1 ⟨rfl, hx⟩
  go_wp2
  go_ret
  exact ⟨rfl, hx⟩
theorem enters_framed1 : Enters 226 := enters_of Try.func226 (by kernel_rfl) (by kernel_rfl)
set_option maxHeartbeats 800000 in
theorem inverted1_any (p b ab W H : Nat) (l : List Bool) (x y : Nat) (w : World) (hW : W ≤ 64) (hH : H ≤ 64) (hp : w.cell? ⟨p, 0, none⟩ = some (.pointer (some ⟨b, 0, none⟩))) (hI : Img w b ab W H l) :
    Calls Try.prog 227 #[.int .i64 x, .int .i64 y, .pointer (some ⟨p, 0, none⟩)] w fun e w' => e = .returned (.bool (!pxl W H l x y)) ∧ w.Ext w' := by
  have HC := Lib.hid (get_any b ab W H l x y w hW hH hI _ rfl)
  generalize pxl W H l x y = t at *
  clear hI
  go_enter Try.func227, Try.ntmps227
  go_wp2_with fail
  refine HC.out.mono ?_
  rintro e w1 ⟨rfl, hx⟩
  go_wp2
  go_ret
  exact ⟨rfl, hx⟩
theorem enters_inverted1 : Enters 227 := enters_of Try.func227 (by kernel_rfl) (by kernel_rfl)
set_option maxRecDepth 5000 in
set_option maxHeartbeats 1600000 in
theorem framed_any (b ab W H : Nat) (l : List Bool) (w : World) (hW : W ≤ 62) (hH : H ≤ 62) (hI : Img w b ab W H l) :
    Calls Try.prog 194 #[.pointer (some ⟨b, 0, none⟩)] w (ImgRet w (W + 2) (H + 2) (padL W H l)) := by
  obtain ⟨W0, hW0⟩ : ∃ W0, W0 = w.alloc (.cells #[.pointer (some ⟨b, 0, none⟩)] 100) := ⟨_, rfl⟩
  have hx0 : w.Ext W0 := by rw [hW0]; repeat (first | exact World.Ext.refl _ | exact ⟨_, rfl⟩ | assumption | refine World.Ext.over ?_ _ | refine World.Ext.drewN ?_ _ | refine World.Ext.drew ?_ | refine World.Ext.alloc ?_ _ | refine World.Ext.setCell ?_ (by simp) _)
  have cp : W0.cell? ⟨w.heap.size, 0, none⟩ = some (.pointer (some ⟨b, 0, none⟩)) := by rw [hW0]; simp [go_sem]
  have c0 := (hI.ext hx0).c0
  have c1 := (hI.ext hx0).c1
  have HMD : Hid (∀ (w' : World), W0.Ext w' → Calls Try.prog 155 #[.int .i64 ((W : Int) + 2), .int .i64 ((H : Int) + 2), .func (.func 226) #[] #[.pointer (some ⟨w.heap.size, 0, none⟩)]] w' (ImgRet w' (W + 2) (H + 2) (padL W H l))) := fun w' hx => by
    have h := made_any (W + 2) (H + 2) 226 #[.pointer (some ⟨w.heap.size, 0, none⟩)] (fun x y => pxl W H l ((x : Int) - 1) ((y : Int) - 1)) w' (by omega) (by omega) enters_framed1 (fun w'' hx2 x y h1 h2 => framed1_any _ b ab W H l x y w'' (by omega) (by omega) (by omega) (by omega) ((hx.trans hx2).cell cp) (((hI.ext hx0).ext hx).ext hx2))
    exact h
  have HX0 := Lib.hid hx0
  clear hI hx0
  go_enter Try.func194, Try.ntmps194
  go_wp2_with fail
  rw [← hW0]
  clear hW0
  refine wp_region_over_tail 11 (by kernel_rfl) (by kernel_rfl) ?_; simp only [List.take_succ_cons, List.take_zero, List.drop_succ_cons, List.drop_zero]; (repeat (go_big_quiet_step (fail))); refine wpQuiet_nil ?_; rintro _ ⟨x1, rfl⟩
  have HC := Lib.hid (HMD.out (W0.over x1) ⟨x1, rfl⟩)
  have HX3 : Hid (w.Ext (W0.over x1)) := HX0.out.trans ⟨x1, rfl⟩
  generalize W0.over x1 = w3 at *
  clear c0 c1 cp HMD HX0
  go_wp2_with fail
  refine HC.out.mono ?_
  rintro e w4 ⟨b4, ab4, rfl, hx4, hi4, hl4, hl5⟩
  have HR : Hid (ImgRet w (W + 2) (H + 2) (padL W H l) (.returned (.pointer (some ⟨b4, 0, none⟩))) w4) := ⟨b4, ab4, rfl, HX3.out.trans hx4, hi4, Nat.le_trans HX3.out.size hl4, Nat.le_trans HX3.out.size hl5⟩
  clear hx4 hi4 hl4 hl5
  go_wp2
  go_ret
  exact HR.out
set_option maxRecDepth 5000 in
set_option maxHeartbeats 1600000 in
theorem inverted_any (b ab W H : Nat) (l : List Bool) (w : World) (hW : W ≤ 62) (hH : H ≤ 62) (hI : Img w b ab W H l) :
    Calls Try.prog 195 #[.pointer (some ⟨b, 0, none⟩)] w (ImgRet w W H (l.map (!·))) := by
  obtain ⟨W0, hW0⟩ : ∃ W0, W0 = w.alloc (.cells #[.pointer (some ⟨b, 0, none⟩)] 100) := ⟨_, rfl⟩
  have hx0 : w.Ext W0 := by rw [hW0]; repeat (first | exact World.Ext.refl _ | exact ⟨_, rfl⟩ | assumption | refine World.Ext.over ?_ _ | refine World.Ext.drewN ?_ _ | refine World.Ext.drew ?_ | refine World.Ext.alloc ?_ _ | refine World.Ext.setCell ?_ (by simp) _)
  have cp : W0.cell? ⟨w.heap.size, 0, none⟩ = some (.pointer (some ⟨b, 0, none⟩)) := by rw [hW0]; simp [go_sem]
  have c0 := (hI.ext hx0).c0
  have c1 := (hI.ext hx0).c1
  have HMD : Hid (∀ (w' : World), W0.Ext w' → Calls Try.prog 155 #[.int .i64 (W), .int .i64 (H), .func (.func 227) #[] #[.pointer (some ⟨w.heap.size, 0, none⟩)]] w' (ImgRet w' W H (l.map (!·)))) := fun w' hx => by
    have h := made_any W H 227 #[.pointer (some ⟨w.heap.size, 0, none⟩)] (fun x y => !pxl W H l x y) w' (by omega) (by omega) enters_inverted1 (fun w'' hx2 x y h1 h2 => inverted1_any _ b ab W H l x y w'' (by omega) (by omega) ((hx.trans hx2).cell cp) (((hI.ext hx0).ext hx).ext hx2))
    rw [mkl_not hI.len] at h
    exact h
  have HX0 := Lib.hid hx0
  clear hI hx0
  go_enter Try.func195, Try.ntmps195
  go_wp2_with fail
  rw [← hW0]
  clear hW0
  refine wp_region_over_tail 9 (by kernel_rfl) (by kernel_rfl) ?_; simp only [List.take_succ_cons, List.take_zero, List.drop_succ_cons, List.drop_zero]; (repeat (go_big_quiet_step (fail))); refine wpQuiet_nil ?_; rintro _ ⟨x1, rfl⟩
  have HC := Lib.hid (HMD.out (W0.over x1) ⟨x1, rfl⟩)
  have HX3 : Hid (w.Ext (W0.over x1)) := HX0.out.trans ⟨x1, rfl⟩
  generalize W0.over x1 = w3 at *
  clear c0 c1 cp HMD HX0
  go_wp2_with fail
  refine HC.out.mono ?_
  rintro e w4 ⟨b4, ab4, rfl, hx4, hi4, hl4, hl5⟩
  have HR : Hid (ImgRet w W H (l.map (!·)) (.returned (.pointer (some ⟨b4, 0, none⟩))) w4) := ⟨b4, ab4, rfl, HX3.out.trans hx4, hi4, Nat.le_trans HX3.out.size hl4, Nat.le_trans HX3.out.size hl5⟩
  clear hx4 hi4 hl4 hl5
  go_wp2
  go_ret
  exact HR.out
set_option maxRecDepth 5000 in
set_option maxHeartbeats 1600000 in
theorem holes_any (b ab W H : Nat) (l : List Bool) (eight : Bool) (n : Nat) (hn : HolN W H l eight n) (w : World) (hW : W ≤ 60) (hH : H ≤ 60) (hI : Img w b ab W H l) :
    Calls Try.prog 117 #[.pointer (some ⟨b, 0, none⟩), .bool eight] w fun e w' => e = .returned (.int .i64 ((n : Int) - 1)) ∧ w.Ext w' := by
  obtain ⟨F, hF⟩ := hn
  have hn4 : n ≤ 4096 := Nat.le_trans (Nat.le_trans hF.few.1 (spotsTo_len _ _ _)) (Nat.mul_le_mul (show H + 2 ≤ 64 by omega) (show W + 2 ≤ 64 by omega))
  have HFR := Lib.hid (framed_any b ab W H l w (by omega) (by omega) hI)
  have HIV : Hid (∀ w' b ab, Img w' b ab (W + 2) (H + 2) (padL W H l) → Calls Try.prog 195 #[.pointer (some ⟨b, 0, none⟩)] w' (ImgRet w' (W + 2) (H + 2) ((padL W H l).map (!·)))) := fun w' b ab h => inverted_any b ab _ _ _ w' (by omega) (by omega) h
  have HLB : Hid (∀ w' b ab, Img w' b ab (W + 2) (H + 2) ((padL W H l).map (!·)) → Calls Try.prog 114 #[.pointer (some ⟨b, 0, none⟩), .bool (!eight)] w' (LabRet w' F n)) := fun w' b ab h => labels_any b ab _ _ _ (!eight) F n w' (by omega) (by omega) h hF
  clear hI hF
  go_enter Try.func117, Try.ntmps117
  go_wp2_with fail
  refine HFR.out.mono ?_
  rintro e w1 ⟨b1, ab1, rfl, hx1, hi1, -, -⟩
  have HC1 := Lib.hid (HIV.out w1 b1 ab1 hi1)
  have HX1 := Lib.hid hx1
  clear hx1 hi1
  go_wp2_with fail
  refine HC1.out.mono ?_
  rintro e w2 ⟨b2, ab2, rfl, hx2, hi2, -, -⟩
  have HC2 := Lib.hid (HLB.out w2 b2 ab2 hi2)
  have HX2 := Lib.hid (HX1.out.trans hx2)
  clear hx2 hi2
  go_wp2_with fail
  refine HC2.out.mono ?_
  rintro e w3 ⟨bm, rfl, hx3, -, -⟩
  have HX3 := Lib.hid (HX2.out.trans hx3)
  clear hx3
  go_wp2
  go_ret
  exact ⟨rfl, HX3.out⟩

end Go.Proofs.Ythgkmaccbcpaeaa
