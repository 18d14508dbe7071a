/- Holes and Euler numbers, both sides. -/
import Derived.Test.YtlnklcjnjfmknaaLabI
import Derived.Test.YtlnklcjnjfmknaaLabS
namespace Go.Proofs.Ytlnklcjnjfmknaa
open Go.RowKit
/-- There are n components. -/
def LabN (W H : Nat) (l : List Bool) (eight : Bool) (n : Nat) : Prop := ∃ F, LabK (pxP W H l) (nbA eight) (spotsTo W l (H * W)) (spotsTo W l (H * W)).length F n
theorem LabN.ex (W H : Nat) (l : List Bool) (eight : Bool) : ∃ n, LabN W H l eight n := let ⟨F, n, h⟩ := LabK.ex (pxP W H l) (nbA eight) (spotsTo W l (H * W)) (spotsTo W l (H * W)).length; ⟨n, F, h⟩
theorem LabN.few {W H : Nat} {l : List Bool} {eight : Bool} {n : Nat} (h : LabN W H l eight n) : n ≤ H * W := let ⟨_, h⟩ := h; Nat.le_trans h.few.1 (spotsTo_len _ _ _)
/-- .. of what is white, with a white edge around it. -/
def HolN (W H : Nat) (l : List Bool) (eight : Bool) (n : Nat) : Prop := LabN (W + 2) (H + 2) ((padL W H l).map (!·)) (!eight) n
theorem HolN.ex (W H : Nat) (l : List Bool) (eight : Bool) : ∃ n, HolN W H l eight n := LabN.ex _ _ _ _
def optI (ok : Bool) (n : Int) : Int := if ok then n else 0
set_option maxHeartbeats 800000 in
theorem framed1_any (p b ab W H : Nat) (l : List Bool) (x y : Nat) (w : World) (hW : W ≤ 64) (hH : H ≤ 64) (hx : x < 100) (hy : y < 100) (hp : w.cell? ⟨p, 0, none⟩ = some (.pointer (some ⟨b, 0, none⟩))) (hI : Img w b ab W H l) :
    Calls Try.prog 156 #[.int .i64 x, .int .i64 y, .pointer (some ⟨p, 0, none⟩)] w fun e w' => e = .returned (.bool (pxl W H l ((x : Int) - 1) ((y : Int) - 1))) ∧ w.Ext w' := by
  have HC := Lib.hid (get_any b ab W H l ((x : Int) - 1) ((y : Int) - 1) w hW hH hI _ rfl)
  generalize pxl W H l ((x : Int) - 1) ((y : Int) - 1) = t at *
  clear hI
  go_enter Try.func156, Try.ntmps156
  go_wp2_with fail
  refine HC.out.mono ?_
  rintro e w1 ⟨rfl, hx⟩
  go_wp2
  go_ret
  exact ⟨rfl, hx⟩
theorem enters_framed1 : Enters 156 := enters_of Try.func156 (by kernel_rfl) (by kernel_rfl)
set_option maxHeartbeats 800000 in
theorem inverted1_any (p b ab W H : Nat) (l : List Bool) (x y : Nat) (w : World) (hW : W ≤ 64) (hH : H ≤ 64) (hp : w.cell? ⟨p, 0, none⟩ = some (.pointer (some ⟨b, 0, none⟩))) (hI : Img w b ab W H l) :
    Calls Try.prog 157 #[.int .i64 x, .int .i64 y, .pointer (some ⟨p, 0, none⟩)] w fun e w' => e = .returned (.bool (!pxl W H l x y)) ∧ w.Ext w' := by
  have HC := Lib.hid (get_any b ab W H l x y w hW hH hI _ rfl)
  generalize pxl W H l x y = t at *
  clear hI
  go_enter Try.func157, Try.ntmps157
  go_wp2_with fail
  refine HC.out.mono ?_
  rintro e w1 ⟨rfl, hx⟩
  go_wp2
  go_ret
  exact ⟨rfl, hx⟩
theorem enters_inverted1 : Enters 157 := enters_of Try.func157 (by kernel_rfl) (by kernel_rfl)
set_option maxRecDepth 5000 in
set_option maxHeartbeats 1600000 in
theorem framed_any (b ab W H : Nat) (l : List Bool) (w : World) (hW : W ≤ 62) (hH : H ≤ 62) (hI : Img w b ab W H l) :
    Calls Try.prog 144 #[.pointer (some ⟨b, 0, none⟩)] w (ImgRet w (W + 2) (H + 2) (padL W H l)) := by
  obtain ⟨W0, hW0⟩ : ∃ W0, W0 = w.alloc (.cells #[.pointer (some ⟨b, 0, none⟩)] 68) := ⟨_, rfl⟩
  have hx0 : w.Ext W0 := by rw [hW0]; repeat (first | exact World.Ext.refl _ | exact ⟨_, rfl⟩ | assumption | refine World.Ext.over ?_ _ | refine World.Ext.drewN ?_ _ | refine World.Ext.drew ?_ | refine World.Ext.alloc ?_ _ | refine World.Ext.setCell ?_ (by simp) _)
  have cp : W0.cell? ⟨w.heap.size, 0, none⟩ = some (.pointer (some ⟨b, 0, none⟩)) := by rw [hW0]; simp [go_sem]
  have c0 := (hI.ext hx0).c0
  have c1 := (hI.ext hx0).c1
  have HMD : Hid (∀ (w' : World), W0.Ext w' → Calls Try.prog 92 #[.int .i64 ((W : Int) + 2), .int .i64 ((H : Int) + 2), .func (.func 156) #[] #[.pointer (some ⟨w.heap.size, 0, none⟩)]] w' (ImgRet w' (W + 2) (H + 2) (padL W H l))) := fun w' hx => by
    have h := made_any (W + 2) (H + 2) 156 #[.pointer (some ⟨w.heap.size, 0, none⟩)] (fun x y => pxl W H l ((x : Int) - 1) ((y : Int) - 1)) w' (by omega) (by omega) enters_framed1 (fun w'' hx2 x y h1 h2 => framed1_any _ b ab W H l x y w'' (by omega) (by omega) (by omega) (by omega) ((hx.trans hx2).cell cp) (((hI.ext hx0).ext hx).ext hx2))
    exact h
  have HX0 := Lib.hid hx0
  clear hI hx0
  go_enter Try.func144, Try.ntmps144
  go_wp2_with fail
  rw [← hW0]
  clear hW0
  refine wp_region_over_tail 11 (by kernel_rfl) (by kernel_rfl) ?_; simp only [List.take_succ_cons, List.take_zero, List.drop_succ_cons, List.drop_zero]; (repeat (go_big_quiet_step (fail))); refine wpQuiet_nil ?_; rintro _ ⟨x1, rfl⟩
  have HC := Lib.hid (HMD.out (W0.over x1) ⟨x1, rfl⟩)
  have HX3 : Hid (w.Ext (W0.over x1)) := HX0.out.trans ⟨x1, rfl⟩
  generalize W0.over x1 = w3 at *
  clear c0 c1 cp HMD HX0
  go_wp2_with fail
  refine HC.out.mono ?_
  rintro e w4 ⟨b4, ab4, rfl, hx4, hi4, hl4, hl5⟩
  have HR : Hid (ImgRet w (W + 2) (H + 2) (padL W H l) (.returned (.pointer (some ⟨b4, 0, none⟩))) w4) := ⟨b4, ab4, rfl, HX3.out.trans hx4, hi4, Nat.le_trans HX3.out.size hl4, Nat.le_trans HX3.out.size hl5⟩
  clear hx4 hi4 hl4 hl5
  go_wp2
  go_ret
  exact HR.out
set_option maxRecDepth 5000 in
set_option maxHeartbeats 1600000 in
theorem inverted_any (b ab W H : Nat) (l : List Bool) (w : World) (hW : W ≤ 62) (hH : H ≤ 62) (hI : Img w b ab W H l) :
    Calls Try.prog 145 #[.pointer (some ⟨b, 0, none⟩)] w (ImgRet w W H (l.map (!·))) := by
  obtain ⟨W0, hW0⟩ : ∃ W0, W0 = w.alloc (.cells #[.pointer (some ⟨b, 0, none⟩)] 68) := ⟨_, rfl⟩
  have hx0 : w.Ext W0 := by rw [hW0]; repeat (first | exact World.Ext.refl _ | exact ⟨_, rfl⟩ | assumption | refine World.Ext.over ?_ _ | refine World.Ext.drewN ?_ _ | refine World.Ext.drew ?_ | refine World.Ext.alloc ?_ _ | refine World.Ext.setCell ?_ (by simp) _)
  have cp : W0.cell? ⟨w.heap.size, 0, none⟩ = some (.pointer (some ⟨b, 0, none⟩)) := by rw [hW0]; simp [go_sem]
  have c0 := (hI.ext hx0).c0
  have c1 := (hI.ext hx0).c1
  have HMD : Hid (∀ (w' : World), W0.Ext w' → Calls Try.prog 92 #[.int .i64 (W), .int .i64 (H), .func (.func 157) #[] #[.pointer (some ⟨w.heap.size, 0, none⟩)]] w' (ImgRet w' W H (l.map (!·)))) := fun w' hx => by
    have h := made_any W H 157 #[.pointer (some ⟨w.heap.size, 0, none⟩)] (fun x y => !pxl W H l x y) w' (by omega) (by omega) enters_inverted1 (fun w'' hx2 x y h1 h2 => inverted1_any _ b ab W H l x y w'' (by omega) (by omega) ((hx.trans hx2).cell cp) (((hI.ext hx0).ext hx).ext hx2))
    rw [mkl_not hI.len] at h
    exact h
  have HX0 := Lib.hid hx0
  clear hI hx0
  go_enter Try.func145, Try.ntmps145
  go_wp2_with fail
  rw [← hW0]
  clear hW0
  refine wp_region_over_tail 9 (by kernel_rfl) (by kernel_rfl) ?_; simp only [List.take_succ_cons, List.take_zero, List.drop_succ_cons, List.drop_zero]; (repeat (go_big_quiet_step (fail))); refine wpQuiet_nil ?_; rintro _ ⟨x1, rfl⟩
  have HC := Lib.hid (HMD.out (W0.over x1) ⟨x1, rfl⟩)
  have HX3 : Hid (w.Ext (W0.over x1)) := HX0.out.trans ⟨x1, rfl⟩
  generalize W0.over x1 = w3 at *
  clear c0 c1 cp HMD HX0
  go_wp2_with fail
  refine HC.out.mono ?_
  rintro e w4 ⟨b4, ab4, rfl, hx4, hi4, hl4, hl5⟩
  have HR : Hid (ImgRet w W H (l.map (!·)) (.returned (.pointer (some ⟨b4, 0, none⟩))) w4) := ⟨b4, ab4, rfl, HX3.out.trans hx4, hi4, Nat.le_trans HX3.out.size hl4, Nat.le_trans HX3.out.size hl5⟩
  clear hx4 hi4 hl4 hl5
  go_wp2
  go_ret
  exact HR.out
set_option maxRecDepth 5000 in
set_option maxHeartbeats 1600000 in
theorem holes_any (b ab W H : Nat) (l : List Bool) (eight : Bool) (n : Nat) (hn : HolN W H l eight n) (w : World) (hW : W ≤ 60) (hH : H ≤ 60) (hI : Img w b ab W H l) :
    Calls Try.prog 101 #[.pointer (some ⟨b, 0, none⟩), .bool eight] w fun e w' => e = .returned (.int .i64 ((n : Int) - 1)) ∧ w.Ext w' := by
  obtain ⟨F, hF⟩ := hn
  have hn4 : n ≤ 4096 := Nat.le_trans (Nat.le_trans hF.few.1 (spotsTo_len _ _ _)) (Nat.mul_le_mul (show H + 2 ≤ 64 by omega) (show W + 2 ≤ 64 by omega))
  have HFR := Lib.hid (framed_any b ab W H l w (by omega) (by omega) hI)
  have HIV : Hid (∀ w' b ab, Img w' b ab (W + 2) (H + 2) (padL W H l) → Calls Try.prog 145 #[.pointer (some ⟨b, 0, none⟩)] w' (ImgRet w' (W + 2) (H + 2) ((padL W H l).map (!·)))) := fun w' b ab h => inverted_any b ab _ _ _ w' (by omega) (by omega) h
  have HLB : Hid (∀ w' b ab, Img w' b ab (W + 2) (H + 2) ((padL W H l).map (!·)) → Calls Try.prog 103 #[.pointer (some ⟨b, 0, none⟩), .bool (!eight)] w' (LabRet w' F n)) := fun w' b ab h => labels_any b ab _ _ _ (!eight) F n w' (by omega) (by omega) h hF
  clear hI hF
  go_enter Try.func101, Try.ntmps101
  go_wp2_with fail
  refine HFR.out.mono ?_
  rintro e w1 ⟨b1, ab1, rfl, hx1, hi1, -, -⟩
  have HC1 := Lib.hid (HIV.out w1 b1 ab1 hi1)
  have HX1 := Lib.hid hx1
  clear hx1 hi1
  go_wp2_with fail
  refine HC1.out.mono ?_
  rintro e w2 ⟨b2, ab2, rfl, hx2, hi2, -, -⟩
  have HC2 := Lib.hid (HLB.out w2 b2 ab2 hi2)
  have HX2 := Lib.hid (HX1.out.trans hx2)
  clear hx2 hi2
  go_wp2_with fail
  refine HC2.out.mono ?_
  rintro e w3 ⟨bm, rfl, hx3, -, -⟩
  have HX3 := Lib.hid (HX2.out.trans hx3)
  clear hx3
  go_wp2
  go_ret
  exact ⟨rfl, HX3.out⟩
set_option maxRecDepth 5000 in
set_option maxHeartbeats 1600000 in
theorem l05Holes_any (p : Nat) (a : Option Addr) (c : Nat) (ss : List ByteArray) (eight : Bool) (n : Nat) (hn : HolN (picW ss) ss.length (picL ss) eight n) (w : World) (he : Even ss) (hH : ss.length ≤ 38) (hW : picW ss ≤ 38) (hp : w.cell? ⟨p, 0, none⟩ = some (.slice a ss.length c)) (hm : RowS w a ss) :
    Calls Try.prog 100 #[.pointer (some ⟨p, 0, none⟩), .bool eight] w fun e w' => e = .returned (.int .i64 ((n : Int) - 1)) ∧ w.Ext w' := by
  obtain ⟨F, hF⟩ := hn
  have hn4 : n ≤ 4096 := Nat.le_trans (Nat.le_trans hF.few.1 (spotsTo_len _ _ _)) (Nat.mul_le_mul (show ss.length + 2 ≤ 64 by omega) (show picW ss + 2 ≤ 64 by omega))
  have HPD := Lib.hid (l05Pad_any p a c ss w he hH hW hp hm)
  have hpl := padL_len (picW ss) ss.length (picL ss)
  have hnl : ((padL (picW ss) ss.length (picL ss)).map (!·)).length = (picW ss + 2) * (ss.length + 2) := by rw [List.length_map, hpl]
  have hR1 := picRows_len (picW ss + 2) (ss.length + 2) (padL (picW ss) ss.length (picL ss))
  have hR2 := picRows_len (picW ss + 2) (ss.length + 2) ((padL (picW ss) ss.length (picL ss)).map (!·))
  have HIV : Hid (∀ (w' : World) (p5 : Nat) (a5 : Option Addr) (c5 : Nat), w'.cell? ⟨p5, 0, none⟩ = some (.slice a5 (picRows (picW ss + 2) (ss.length + 2) (padL (picW ss) ss.length (picL ss))).length c5) → RowS w' a5 (picRows (picW ss + 2) (ss.length + 2) (padL (picW ss) ss.length (picL ss))) →
      Calls Try.prog 139 #[.pointer (some ⟨p5, 0, none⟩)] w' (PicVal w' (picRows (picW ss + 2) (ss.length + 2) ((padL (picW ss) ss.length (picL ss)).map (!·))))) := fun w' p5 a5 c5 hc hr => by
    have e1 := picW_rows (Nat.succ_pos (ss.length + 1)) hpl
    have e3 := picL_rows hpl
    have h := l01Invert_any p5 a5 c5 _ w' (even_rows (Nat.succ_pos (ss.length + 1)) hpl) (by rw [hR1]; omega) (by rw [e1]; omega) (by rw [e1]; omega) hc hr
    rw [e1, hR1, e3] at h
    exact h
  have HLB : Hid (∀ (w' : World) (p6 : Nat) (a6 : Option Addr) (c6 : Nat), w'.cell? ⟨p6, 0, none⟩ = some (.slice a6 (picRows (picW ss + 2) (ss.length + 2) ((padL (picW ss) ss.length (picL ss)).map (!·))).length c6) → RowS w' a6 (picRows (picW ss + 2) (ss.length + 2) ((padL (picW ss) ss.length (picL ss)).map (!·))) →
      Calls Try.prog 104 #[.pointer (some ⟨p6, 0, none⟩), .bool (!eight)] w' (LabSRet w' (picW ss + 2) (ss.length + 2) F n)) := fun w' p6 a6 c6 hc hr => by
    have e1 := picW_rows (Nat.succ_pos (ss.length + 1)) hnl
    have e3 := picL_rows hnl
    have h := l05Labels_any p6 a6 c6 _ (!eight) F n w' (even_rows (Nat.succ_pos (ss.length + 1)) hnl) (by rw [e1]; omega) (by rw [e1]; omega) (by rw [hR2]; omega) hc hr (by
      rw [e1, hR2, e3]
      exact hF.congr1 fun p q => (nb_same (!eight) p q).symm)
    rw [e1, hR2] at h
    exact h
  clear hm he hp hF hR1 hR2 hpl hnl
  generalize picRows (picW ss + 2) (ss.length + 2) (padL (picW ss) ss.length (picL ss)) = R1 at *
  generalize picRows (picW ss + 2) (ss.length + 2) ((padL (picW ss) ss.length (picL ss)).map (!·)) = R2 at *
  generalize picW ss = W at *
  generalize ss.length = H at *
  go_enter Try.func100, Try.ntmps100
  go_wp2_with fail
  refine HPD.out.mono ?_
  rintro e w1 ⟨a1, c1, rfl, hx1, ho1⟩
  obtain ⟨w2, hw2⟩ : ∃ w2, w2 = w1.alloc (.cells #[.slice a1 R1.length c1] 29) := ⟨_, rfl⟩
  have hx2 : w1.Ext w2 := by rw [hw2]; repeat (first | exact World.Ext.refl _ | exact ⟨_, rfl⟩ | assumption | refine World.Ext.over ?_ _ | refine World.Ext.drewN ?_ _ | refine World.Ext.drew ?_ | refine World.Ext.alloc ?_ _ | refine World.Ext.setCell ?_ (by simp) _)
  have HC := Lib.hid (HIV.out w2 w1.heap.size a1 c1 (by rw [hw2]; simp [go_sem]) (RowOf.ext ho1.row hx2))
  have HX2 := Lib.hid (hx1.trans hx2)
  clear hx1 ho1 hx2
  go_wp2_with fail
  rw [← hw2]
  clear hw2
  refine HC.out.mono ?_
  rintro e w3 ⟨a3, c3, rfl, hx3, ho3⟩
  obtain ⟨w4, hw4⟩ : ∃ w4, w4 = w3.alloc (.cells #[.slice a3 R2.length c3] 29) := ⟨_, rfl⟩
  have hx4 : w3.Ext w4 := by rw [hw4]; repeat (first | exact World.Ext.refl _ | exact ⟨_, rfl⟩ | assumption | refine World.Ext.over ?_ _ | refine World.Ext.drewN ?_ _ | refine World.Ext.drew ?_ | refine World.Ext.alloc ?_ _ | refine World.Ext.setCell ?_ (by simp) _)
  have HC2 := Lib.hid (HLB.out w4 w3.heap.size a3 c3 (by rw [hw4]; simp [go_sem]) (RowOf.ext ho3.row hx4))
  have HX4 := Lib.hid (HX2.out.trans (hx3.trans hx4))
  clear hx3 ho3 hx4 HC
  go_wp2_with fail
  rw [← hw4]
  clear hw4
  refine HC2.out.mono ?_
  rintro e w5 ⟨a5, c5, rfl, hx5, ho5⟩
  have HX5 := Lib.hid (HX4.out.trans hx5)
  clear hx5 ho5
  go_wp2
  go_ret
  exact ⟨rfl, HX5.out⟩
set_option maxRecDepth 5000 in
set_option maxHeartbeats 1600000 in
theorem l05Euler_any (p : Nat) (a : Option Addr) (c : Nat) (ss : List ByteArray) (eight : Bool) (m n : Nat) (hk : LabN (picW ss) ss.length (picL ss) eight m) (hn : HolN (picW ss) ss.length (picL ss) eight n) (w : World) (he : Even ss) (hH : ss.length ≤ 38) (hW1 : 1 ≤ picW ss) (hW : picW ss ≤ 38) (hp : w.cell? ⟨p, 0, none⟩ = some (.slice a ss.length c)) (hm : RowS w a ss) :
    Calls Try.prog 102 #[.pointer (some ⟨p, 0, none⟩), .bool eight] w fun e w' => e = .returned (.int .i64 ((m : Int) - ((n : Int) - 1))) ∧ w.Ext w' := by
  have hm4 : m ≤ 4096 := Nat.le_trans hk.few (Nat.mul_le_mul (show ss.length ≤ 64 by omega) (show picW ss ≤ 64 by omega))
  have hn4 : n ≤ 4096 := Nat.le_trans (LabN.few hn) (Nat.mul_le_mul (show ss.length + 2 ≤ 64 by omega) (show picW ss + 2 ≤ 64 by omega))
  obtain ⟨F, hF⟩ := hk
  have HLB := Lib.hid (l05Labels_any p a c ss eight F m w he hW1 (by omega) (by omega) hp hm (hF.congr1 fun p q => (nb_same eight p q).symm))
  have HHO := Lib.hid (fun w' (hx : w.Ext w') => l05Holes_any p a c ss eight n hn w' he hH hW (hx.cell hp) (RowOf.ext hm hx))
  clear hm he hp hF hn
  go_enter Try.func102, Try.ntmps102
  go_wp2_with fail
  refine HLB.out.mono ?_
  rintro e w1 ⟨a1, c1, rfl, hx1, ho1⟩
  clear ho1
  go_wp2_with fail
  refine (HHO.out _ hx1).mono ?_
  rintro e w2 ⟨rfl, hx2⟩
  have HX := Lib.hid (hx1.trans hx2)
  clear hx1 hx2
  go_wp2
  go_ret
  exact ⟨rfl, HX.out⟩
set_option maxRecDepth 5000 in
set_option maxHeartbeats 1600000 in
theorem specCountHoles_any (a : Option Addr) (c : Nat) (ss : List ByteArray) (eight : Bool) (n : Nat) (hn : HolN (picW ss) ss.length (picL ss) eight n) (w : World) (hb : PicBnd ss) (hm : RowS w a ss) :
    Calls Try.prog 43 #[.agg #[.slice a ss.length c], .bool eight] w fun e w' => e = .returned (.tuple #[.int .i64 (optI (picOk ss) ((n : Int) - 1)), .bool (picOk ss)]) ∧ w.Ext w' := by
  obtain ⟨W0, hW0⟩ : ∃ W0, W0 = w.alloc (.cells #[.slice a ss.length c] 29) := ⟨_, rfl⟩
  have hx0 : w.Ext W0 := by rw [hW0]; repeat (first | exact World.Ext.refl _ | exact ⟨_, rfl⟩ | assumption | refine World.Ext.over ?_ _ | refine World.Ext.drewN ?_ _ | refine World.Ext.drew ?_ | refine World.Ext.alloc ?_ _ | refine World.Ext.setCell ?_ (by simp) _)
  have d0 : W0.cell? ⟨w.heap.size, 0, none⟩ = some (.slice a ss.length c) := by rw [hW0]; simp [go_sem]
  have HI : Hid (Calls Try.prog 78 #[.pointer (some ⟨w.heap.size, 0, none⟩)] W0 fun e w' => e = .returned (.bool (picOk ss)) ∧ W0.Ext w') := l01Is_any _ a c ss W0 hb.1 hb.2 d0 (hm.ext hx0) _ rfl
  have HX0 := Lib.hid hx0
  cases h : picOk ss
  · rw [h] at HI
    clear hb hm hx0 d0 h hn
    show Calls _ _ _ _ (fun e w' => e = .returned (.tuple #[.int .i64 0, .bool false]) ∧ w.Ext w')
    go_enter Try.func43, Try.ntmps43
    go_wp2_with fail
    rw [← hW0]
    refine HI.out.mono ?_
    rintro e w1 ⟨rfl, hx1⟩
    have HX := Lib.hid (HX0.out.trans hx1)
    clear hx1 hW0
    go_wp2
    go_ret2
    exact ⟨rfl, HX.out⟩
  · rw [h] at HI
    obtain ⟨v1, v2, v3, v4, e1, -⟩ := picOk_spec h
    have HF := Lib.hid (fun w' (hx : W0.Ext w') => l05Holes_any _ a c ss eight n hn w' e1 (by omega) (by omega) (hx.cell d0) ((hm.ext hx0).ext hx))
    clear hb hm hx0 d0 h hn v1 v2 v3 v4 e1
    show Calls _ _ _ _ (fun e w' => e = .returned (.tuple #[.int .i64 ((n : Int) - 1), .bool true]) ∧ w.Ext w')
    generalize (n : Int) - 1 = V at *
    go_enter Try.func43, Try.ntmps43
    go_wp2_with fail
    rw [← hW0]
    refine HI.out.mono ?_
    rintro e w1 ⟨rfl, hx1⟩
    go_wp2_with fail
    refine (HF.out _ hx1).mono ?_
    rintro e w2 ⟨rfl, hx2⟩
    have HX := Lib.hid (HX0.out.trans (hx1.trans hx2))
    clear hx1 hx2 hW0
    go_wp2
    go_ret2
    exact ⟨rfl, HX.out⟩
set_option maxRecDepth 5000 in
set_option maxHeartbeats 1600000 in
theorem implCountHoles_any (a : Option Addr) (c : Nat) (ss : List ByteArray) (eight : Bool) (n : Nat) (hn : HolN (picW ss) ss.length (picL ss) eight n) (w : World) (hb : PicBnd ss) (hm : RowS w a ss) :
    Calls Try.prog 44 #[.agg #[.slice a ss.length c], .bool eight] w fun e w' => e = .returned (.tuple #[.int .i64 (optI (picOk ss) ((n : Int) - 1)), .bool (picOk ss)]) ∧ w.Ext w' := by
  obtain ⟨W0, hW0⟩ : ∃ W0, W0 = w.alloc (.cells #[.slice a ss.length c] 29) := ⟨_, rfl⟩
  have hx0 : w.Ext W0 := by rw [hW0]; repeat (first | exact World.Ext.refl _ | exact ⟨_, rfl⟩ | assumption | refine World.Ext.over ?_ _ | refine World.Ext.drewN ?_ _ | refine World.Ext.drew ?_ | refine World.Ext.alloc ?_ _ | refine World.Ext.setCell ?_ (by simp) _)
  have HIO : Hid (Calls Try.prog 60 #[.agg #[.slice a ss.length c]] W0 (ImgOf W0 ss (picOk ss))) := imageOf_any a c ss W0 hb.1 hb.2 (hm.ext hx0) _ rfl
  have HX0 := Lib.hid hx0
  cases h : picOk ss
  · rw [h] at HIO
    clear hb hm hx0 h hn
    show Calls _ _ _ _ (fun e w' => e = .returned (.tuple #[.int .i64 0, .bool false]) ∧ w.Ext w')
    go_enter Try.func44, Try.ntmps44
    go_wp2_with fail
    rw [← hW0]
    refine HIO.out.mono ?_
    rintro e w1 ⟨rfl, hx1⟩
    have HX := Lib.hid (HX0.out.trans hx1)
    clear hx1 hW0
    go_wp2
    go_ret2
    exact ⟨rfl, HX.out⟩
  · rw [h] at HIO
    obtain ⟨v1, v2, v3, v4, e1, -⟩ := picOk_spec h
    have HHO : Hid (∀ w' b ab, Img w' b ab (picW ss) ss.length (picL ss) → Calls Try.prog 101 #[.pointer (some ⟨b, 0, none⟩), .bool eight] w' fun e w'' => e = .returned (.int .i64 ((n : Int) - 1)) ∧ w'.Ext w'') := fun w' b ab hI => holes_any b ab _ _ _ eight n hn w' (by omega) (by omega) hI
    clear hb hm hx0 h hn v1 v2 v3 v4 e1
    show Calls _ _ _ _ (fun e w' => e = .returned (.tuple #[.int .i64 ((n : Int) - 1), .bool true]) ∧ w.Ext w')
    go_enter Try.func44, Try.ntmps44
    go_wp2_with fail
    rw [← hW0]
    refine HIO.out.mono ?_
    rintro e w1 ⟨b1, ab1, rfl, hx1, hi1, -, -⟩
    have HIM := Lib.hid hi1
    have HX1 := Lib.hid (HX0.out.trans hx1)
    clear hi1 hx1 hW0
    go_wp2_with fail
    refine (HHO.out w1 b1 ab1 HIM.out).mono ?_
    rintro e w3 ⟨rfl, hx3⟩
    have HX := Lib.hid (HX1.out.trans hx3)
    clear hx3
    go_wp2
    go_ret2
    exact ⟨rfl, HX.out⟩
set_option maxRecDepth 5000 in
set_option maxHeartbeats 1600000 in
theorem specEulerNumber_any (a : Option Addr) (c : Nat) (ss : List ByteArray) (eight : Bool) (m n : Nat) (hk : LabN (picW ss) ss.length (picL ss) eight m) (hn : HolN (picW ss) ss.length (picL ss) eight n) (w : World) (hb : PicBnd ss) (hm : RowS w a ss) :
    Calls Try.prog 45 #[.agg #[.slice a ss.length c], .bool eight] w fun e w' => e = .returned (.tuple #[.int .i64 (optI (picOk ss) ((m : Int) - ((n : Int) - 1))), .bool (picOk ss)]) ∧ w.Ext w' := by
  obtain ⟨W0, hW0⟩ : ∃ W0, W0 = w.alloc (.cells #[.slice a ss.length c] 29) := ⟨_, rfl⟩
  have hx0 : w.Ext W0 := by rw [hW0]; repeat (first | exact World.Ext.refl _ | exact ⟨_, rfl⟩ | assumption | refine World.Ext.over ?_ _ | refine World.Ext.drewN ?_ _ | refine World.Ext.drew ?_ | refine World.Ext.alloc ?_ _ | refine World.Ext.setCell ?_ (by simp) _)
  have d0 : W0.cell? ⟨w.heap.size, 0, none⟩ = some (.slice a ss.length c) := by rw [hW0]; simp [go_sem]
  have HI : Hid (Calls Try.prog 78 #[.pointer (some ⟨w.heap.size, 0, none⟩)] W0 fun e w' => e = .returned (.bool (picOk ss)) ∧ W0.Ext w') := l01Is_any _ a c ss W0 hb.1 hb.2 d0 (hm.ext hx0) _ rfl
  have HX0 := Lib.hid hx0
  cases h : picOk ss
  · rw [h] at HI
    clear hb hm hx0 d0 h hn hk
    show Calls _ _ _ _ (fun e w' => e = .returned (.tuple #[.int .i64 0, .bool false]) ∧ w.Ext w')
    go_enter Try.func45, Try.ntmps45
    go_wp2_with fail
    rw [← hW0]
    refine HI.out.mono ?_
    rintro e w1 ⟨rfl, hx1⟩
    have HX := Lib.hid (HX0.out.trans hx1)
    clear hx1 hW0
    go_wp2
    go_ret2
    exact ⟨rfl, HX.out⟩
  · rw [h] at HI
    obtain ⟨v1, v2, v3, v4, e1, -⟩ := picOk_spec h
    have HF := Lib.hid (fun w' (hx : W0.Ext w') => l05Euler_any _ a c ss eight m n hk hn w' e1 (by omega) v3 (by omega) (hx.cell d0) ((hm.ext hx0).ext hx))
    clear hb hm hx0 d0 h hn hk v1 v2 v3 v4 e1
    show Calls _ _ _ _ (fun e w' => e = .returned (.tuple #[.int .i64 ((m : Int) - ((n : Int) - 1)), .bool true]) ∧ w.Ext w')
    generalize (m : Int) - ((n : Int) - 1) = V at *
    go_enter Try.func45, Try.ntmps45
    go_wp2_with fail
    rw [← hW0]
    refine HI.out.mono ?_
    rintro e w1 ⟨rfl, hx1⟩
    go_wp2_with fail
    refine (HF.out _ hx1).mono ?_
    rintro e w2 ⟨rfl, hx2⟩
    have HX := Lib.hid (HX0.out.trans (hx1.trans hx2))
    clear hx1 hx2 hW0
    go_wp2
    go_ret2
    exact ⟨rfl, HX.out⟩
set_option maxRecDepth 5000 in
set_option maxHeartbeats 1600000 in
theorem implEulerNumber_any (a : Option Addr) (c : Nat) (ss : List ByteArray) (eight : Bool) (m n : Nat) (hk : LabN (picW ss) ss.length (picL ss) eight m) (hn : HolN (picW ss) ss.length (picL ss) eight n) (w : World) (hb : PicBnd ss) (hm : RowS w a ss) :
    Calls Try.prog 46 #[.agg #[.slice a ss.length c], .bool eight] w fun e w' => e = .returned (.tuple #[.int .i64 (optI (picOk ss) ((m : Int) - ((n : Int) - 1))), .bool (picOk ss)]) ∧ w.Ext w' := by
  obtain ⟨W0, hW0⟩ : ∃ W0, W0 = w.alloc (.cells #[.slice a ss.length c] 29) := ⟨_, rfl⟩
  have hx0 : w.Ext W0 := by rw [hW0]; repeat (first | exact World.Ext.refl _ | exact ⟨_, rfl⟩ | assumption | refine World.Ext.over ?_ _ | refine World.Ext.drewN ?_ _ | refine World.Ext.drew ?_ | refine World.Ext.alloc ?_ _ | refine World.Ext.setCell ?_ (by simp) _)
  have HIO : Hid (Calls Try.prog 60 #[.agg #[.slice a ss.length c]] W0 (ImgOf W0 ss (picOk ss))) := imageOf_any a c ss W0 hb.1 hb.2 (hm.ext hx0) _ rfl
  have HX0 := Lib.hid hx0
  cases h : picOk ss
  · rw [h] at HIO
    clear hb hm hx0 h hn hk
    show Calls _ _ _ _ (fun e w' => e = .returned (.tuple #[.int .i64 0, .bool false]) ∧ w.Ext w')
    go_enter Try.func46, Try.ntmps46
    go_wp2_with fail
    rw [← hW0]
    refine HIO.out.mono ?_
    rintro e w1 ⟨rfl, hx1⟩
    have HX := Lib.hid (HX0.out.trans hx1)
    clear hx1 hW0
    go_wp2
    go_ret2
    exact ⟨rfl, HX.out⟩
  · rw [h] at HIO
    obtain ⟨v1, v2, v3, v4, e1, -⟩ := picOk_spec h
    have hm4 : m ≤ 4096 := Nat.le_trans hk.few (Nat.mul_le_mul (show ss.length ≤ 64 by omega) (show picW ss ≤ 64 by omega))
    have hn4 : n ≤ 4096 := Nat.le_trans (LabN.few hn) (Nat.mul_le_mul (show ss.length + 2 ≤ 64 by omega) (show picW ss + 2 ≤ 64 by omega))
    obtain ⟨F, hF⟩ := hk
    have HLB : Hid (∀ w' b ab, Img w' b ab (picW ss) ss.length (picL ss) → Calls Try.prog 103 #[.pointer (some ⟨b, 0, none⟩), .bool eight] w' (LabRet w' F m)) := fun w' b ab hI => labels_any b ab _ _ _ eight F m w' (by omega) (by omega) hI hF
    have HHO : Hid (∀ w' b ab, Img w' b ab (picW ss) ss.length (picL ss) → Calls Try.prog 101 #[.pointer (some ⟨b, 0, none⟩), .bool eight] w' fun e w'' => e = .returned (.int .i64 ((n : Int) - 1)) ∧ w'.Ext w'') := fun w' b ab hI => holes_any b ab _ _ _ eight n hn w' (by omega) (by omega) hI
    clear hb hm hx0 h hn v1 v2 v3 v4 e1 hF
    show Calls _ _ _ _ (fun e w' => e = .returned (.tuple #[.int .i64 ((m : Int) - ((n : Int) - 1)), .bool true]) ∧ w.Ext w')
    go_enter Try.func46, Try.ntmps46
    go_wp2_with fail
    rw [← hW0]
    refine HIO.out.mono ?_
    rintro e w1 ⟨b1, ab1, rfl, hx1, hi1, -, -⟩
    have HIM := Lib.hid hi1
    have HX1 := Lib.hid (HX0.out.trans hx1)
    clear hi1 hx1 hW0
    go_wp2_with fail
    refine (HLB.out w1 b1 ab1 HIM.out).mono ?_
    rintro e w2 ⟨bm, rfl, hx2, -, -⟩
    go_wp2_with fail
    refine (HHO.out w2 b1 ab1 (HIM.out.ext hx2)).mono ?_
    rintro e w3 ⟨rfl, hx3⟩
    have HX := Lib.hid (HX1.out.trans (hx2.trans hx3))
    clear hx2 hx3
    go_wp2
    go_ret2
    exact ⟨rfl, HX.out⟩
end Go.Proofs.Ytlnklcjnjfmknaa
