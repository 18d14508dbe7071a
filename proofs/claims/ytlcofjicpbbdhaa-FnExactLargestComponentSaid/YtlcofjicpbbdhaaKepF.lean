/- KeepComponents, both sides. -/
import Derived.Test.YtlcofjicpbbdhaaAreF
namespace Go.Proofs.Ytlcofjicpbbdhaa
open Go Go.RowKit
/-- Components that meet a condition on their numbers. -/
def keptG (F : Int × Int → Nat) (K : Nat → Bool) (x y : Nat) : Bool := decide (0 < F ((x : Int), (y : Int))) && K (F ((x : Int), (y : Int)))
set_option maxRecDepth 5000 in
set_option maxHeartbeats 800000 in
theorem kept1_any (p7 p5 bm fk n : Nat) (caps : Array Value) (F : Int × Int → Nat) (K : Nat → Bool) (x y : Nat) (w : World) (hx : x < 1000) (hy : y < 1000) (he : Enters fk) (hF : ∀ q, F q ≤ n)
    (h7 : w.cell? ⟨p7, 0, none⟩ = some (.map (some bm))) (hM : MapS w Try.prog 36 bm (labM F)) (h5 : w.cell? ⟨p5, 0, none⟩ = some (.func (.func fk) #[] caps))
    (hk : ∀ k : Nat, 1 ≤ k → k ≤ n → Calls Try.prog fk (#[.int .i64 k] ++ caps) w fun e w' => e = .returned (.bool (K k)) ∧ w.Ext w') :
    Calls Try.prog 179 #[.int .i64 x, .int .i64 y, .pointer (some ⟨p7, 0, none⟩), .pointer (some ⟨p5, 0, none⟩)] w fun e w' => e = .returned (.bool (keptG F K x y)) ∧ w.Ext w' := by
  have hl := hM.lookI (x := (x : Int)) (y := (y : Int)) (by omega) (by omega)
  have hfn := hF ((x : Int), (y : Int))
  unfold keptG
  clear hM hF
  unfold Enters at he
  generalize F ((x : Int), (y : Int)) = v at *
  by_cases h0 : 0 < v
  · have HC := Lib.hid (hk v h0 hfn)
    have h0' : (0 : Int) < (v : Int) := by omega
    rw [decide_eq_true h0]
    simp only [Bool.true_and]
    generalize K v = t at *
    clear hk hfn
    go_enter Try.func179, Try.ntmps179
    go_wp2_with fail
    refine HC.out.mono ?_
    rintro e w1 ⟨rfl, hx1⟩
    go_wp2
    go_ret
    exact ⟨rfl, hx1⟩
  · have h0' : ¬ (0 : Int) < (v : Int) := by omega
    rw [decide_eq_false h0]
    simp only [Bool.false_and]
    clear hk hfn
    go_enter Try.func179, Try.ntmps179
    go_wp2
    go_ret
    exact ⟨rfl, .refl _⟩
theorem enters_kept1 : Enters 179 := enters_of Try.func179 (by kernel_rfl) (by kernel_rfl)
set_option maxRecDepth 5000 in
set_option maxHeartbeats 1600000 in
theorem kept_any (b ab W H : Nat) (l : List Bool) (eight : Bool) (F : Int × Int → Nat) (n fk : Nat) (caps : Array Value) (K : Nat → Bool) (w : World) (hW : W ≤ 64) (hH : H ≤ 64) (hI : Img w b ab W H l) (he : Enters fk)
    (hF : LabK (pxP W H l) (nbA eight) (spotsTo W l (H * W)) (spotsTo W l (H * W)).length F n)
    (hk : ∀ w', w.Ext w' → ∀ k : Nat, 1 ≤ k → k ≤ n → Calls Try.prog fk (#[.int .i64 k] ++ caps) w' fun e w'' => e = .returned (.bool (K k)) ∧ w'.Ext w'') :
    Calls Try.prog 89 #[.pointer (some ⟨b, 0, none⟩), .bool eight, .func (.func fk) #[] caps] w (ImgRet w W H (mkl W H (keptG F K))) := by
  obtain ⟨W0, hW0⟩ : ∃ W0, W0 = w.alloc (.cells #[.func (.func fk) #[] caps] 114) := ⟨_, rfl⟩
  have hx0 : w.Ext W0 := by rw [hW0]; repeat (first | exact World.Ext.refl _ | exact ⟨_, rfl⟩ | assumption | refine World.Ext.over ?_ _ | refine World.Ext.drewN ?_ _ | refine World.Ext.drew ?_ | refine World.Ext.alloc ?_ _ | refine World.Ext.setCell ?_ (by simp) _)
  have c5 : W0.cell? ⟨w.heap.size, 0, none⟩ = some (.func (.func fk) #[] caps) := by rw [hW0]; simp [go_sem]
  have HLB := Lib.hid (labels_any b ab W H l eight F n W0 hW hH (hI.ext hx0) hF)
  have HMD : Hid (∀ (w' : World) (p7 bm : Nat), W0.Ext w' → w'.cell? ⟨p7, 0, none⟩ = some (.map (some bm)) → MapS w' Try.prog 36 bm (labM F) →
      Calls Try.prog 111 #[.int .i64 W, .int .i64 H, .func (.func 179) #[] #[.pointer (some ⟨p7, 0, none⟩), .pointer (some ⟨w.heap.size, 0, none⟩)]] w' (ImgRet w' W H (mkl W H (keptG F K)))) := fun w' p7 bm hx hc hM =>
    made_any W H 179 #[.pointer (some ⟨p7, 0, none⟩), .pointer (some ⟨w.heap.size, 0, none⟩)] (keptG F K) w' hW hH enters_kept1 (fun w'' hx2 x y h1 h2 =>
      kept1_any p7 w.heap.size bm fk n caps F K x y w'' (by omega) (by omega) he hF.few.2 (hx2.cell hc) (hM.ext hx2) ((hx.trans hx2).cell c5) (hk w'' ((hx0.trans hx).trans hx2)))
  have c0 := (hI.ext hx0).c0
  have c1 := (hI.ext hx0).c1
  have HX0 := Lib.hid hx0
  clear hI hF hk he hx0 c5
  generalize mkl W H (keptG F K) = M at *
  go_enter Try.func89, Try.ntmps89
  go_wp2_with fail
  rw [← hW0]
  clear hW0
  refine HLB.out.mono ?_
  rintro e w1 ⟨bm, rfl, hx1, -, hM⟩
  obtain ⟨w2, hw2⟩ : ∃ w2, w2 = w1.alloc (.cells #[.map (some bm)] 151) := ⟨_, rfl⟩
  have hx2 : w1.Ext w2 := by rw [hw2]; repeat (first | exact World.Ext.refl _ | exact ⟨_, rfl⟩ | assumption | refine World.Ext.over ?_ _ | refine World.Ext.drewN ?_ _ | refine World.Ext.drew ?_ | refine World.Ext.alloc ?_ _ | refine World.Ext.setCell ?_ (by simp) _)
  have c7 : w2.cell? ⟨w1.heap.size, 0, none⟩ = some (.map (some bm)) := by rw [hw2]; simp [go_sem]
  have e0 := (hx1.trans hx2).cell c0
  have e1 := (hx1.trans hx2).cell c1
  have HX2 := Lib.hid (hx1.trans hx2)
  have HM2 := Lib.hid (hM.ext hx2)
  clear c0 c1 hx1 hx2 hM HLB
  go_wp2_with fail
  rw [← hw2]
  clear hw2
  refine wp_region_over_tail 9 (by kernel_rfl) (by kernel_rfl) ?_; simp only [List.take_succ_cons, List.take_zero, List.drop_succ_cons, List.drop_zero]; (repeat (go_big_quiet_step (fail))); refine wpQuiet_nil ?_; rintro _ ⟨x1, rfl⟩
  have HC := Lib.hid (HMD.out (w2.over x1) w1.heap.size bm (HX2.out.trans ⟨x1, rfl⟩) ((show w2.Ext (w2.over x1) from ⟨x1, rfl⟩).cell c7) (HM2.out.ext ⟨x1, rfl⟩))
  have HX3 : Hid (w.Ext (w2.over x1)) := HX0.out.trans (HX2.out.trans ⟨x1, rfl⟩)
  generalize w2.over x1 = w3 at *
  clear e0 e1 c7 HM2 HX2 HX0
  go_wp2_with fail
  refine HC.out.mono ?_
  rintro e w4 ⟨b4, ab4, rfl, hx4, hi4, hl4, hl5⟩
  have HR : Hid (ImgRet w W H M (.returned (.pointer (some ⟨b4, 0, none⟩))) w4) := ⟨b4, ab4, rfl, HX3.out.trans hx4, hi4, Nat.le_trans HX3.out.size hl4, Nat.le_trans HX3.out.size hl5⟩
  clear hx4 hi4 hl4 hl5
  go_wp2
  go_ret
  exact HR.out
/-- Components whose area is at least so much. -/
def areK (W H : Nat) (F : Int × Int → Nat) (n : Nat) (least : Int) (k : Nat) : Bool := decide (least ≤ (areL W H F n).getD (k - 1) 0)
def keepOk (ss : List ByteArray) (least : Int) : Bool := picOk ss && inB least 0 256
theorem mkl_take {W H : Nat} (g : Nat → Nat → Bool) {k : Nat} (hk : k < H * W) : (mkl W H g).take (k + 1) = (mkl W H g).take k ++ [g (k % W) (k / W)] := by
  have h1 : k < (mkl W H g).length := by rw [mkl_len]; exact hk
  rw [take_next h1]
  congr 2
  unfold mkl
  rw [List.getD_eq_getElem?_getD, List.getElem?_map, List.getElem?_range hk]
  rfl
end Go.Proofs.Ytlcofjicpbbdhaa
