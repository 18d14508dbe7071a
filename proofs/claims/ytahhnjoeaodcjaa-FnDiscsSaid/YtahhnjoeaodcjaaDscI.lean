/- Discs: the program's. -/
import Derived.Test.YtahhnjoeaodcjaaDscQ
import Derived.Test.YtahhnjoeaodcjaaJoinF
import Derived.Test.YtahhnjoeaodcjaaRowK
namespace Go.Proofs.Ytahhnjoeaodcjaa
open Go Go.RowKit
/-- The pixels of a disc. -/
def pixD (kind : Int) (W H : Nat) (d : Int × Int × Int) : List Bool := mkl W H fun x y => hasT kind d x y
set_option maxRecDepth 5000 in
set_option maxHeartbeats 800000 in
theorem discHas_any (kind d1 d2 d3 x y : Int) (w : World) (h1 : -50 ≤ d1 ∧ d1 ≤ 50) (h2 : -50 ≤ d2 ∧ d2 ≤ 50) (h3 : -50 ≤ x ∧ x ≤ 50) (h4 : -50 ≤ y ∧ y ≤ 50) (t : Bool) (ht : hasT kind (d1, d2, d3) x y = t) :
    Calls Try.prog 169 #[.agg #[.int .i64 d1, .int .i64 d2, .int .i64 d3], .int .i64 kind, .agg #[.int .i64 x, .int .i64 y]] w fun e w' => e = .returned (.bool t) ∧ w.Ext w' := by
  obtain ⟨W0, hW0⟩ : ∃ W0, W0 = (w.alloc (.cells #[.int .i64 d1, .int .i64 d2, .int .i64 d3] 98)).alloc (.cells #[.int .i64 x, .int .i64 y] 67) := ⟨_, rfl⟩
  have hx0 : w.Ext W0 := by rw [hW0]; repeat (first | exact World.Ext.refl _ | exact ⟨_, rfl⟩ | assumption | refine World.Ext.over ?_ _ | refine World.Ext.drewN ?_ _ | refine World.Ext.drew ?_ | refine World.Ext.alloc ?_ _ | refine World.Ext.setCell ?_ (by simp) _)
  have c0 : W0.cell? ⟨w.heap.size, 0, none⟩ = some (.int .i64 d1) := by rw [hW0]; simp [go_sem]
  have c1 : W0.cell? ⟨w.heap.size, 1, none⟩ = some (.int .i64 d2) := by rw [hW0]; simp [go_sem]
  have c2 : W0.cell? ⟨w.heap.size, 2, none⟩ = some (.int .i64 d3) := by rw [hW0]; simp [go_sem]
  have b0 : W0.cell? ⟨w.heap.size + 1, 0, none⟩ = some (.int .i64 x) := by rw [hW0]; simp [go_sem]
  have b1 : W0.cell? ⟨w.heap.size + 1, 1, none⟩ = some (.int .i64 y) := by rw [hW0]; simp [go_sem]
  have l0 := World.block_lt_of_cell? _ _ b0
  have HF := Lib.hid (fun w' => far_any kind (d1, d2) (x, y) w' h1 h2 h3 h4 _ rfl)
  have HT : Hid (t = decide (farI kind (d1, d2) (x, y) < d3)) := ht.symm
  have HX0 := Lib.hid hx0
  clear ht h1 h2 h3 h4 hx0
  generalize farI kind (d1, d2) (x, y) = F at *
  go_enter Try.func169, Try.ntmps169
  go_wp2_with fail
  rw [← hW0]
  clear hW0
  refine wp_region_over_lit (by kernel_rfl) (by kernel_rfl) ?_; (repeat (go_big_quiet_step ((go_at_call 171; exact Calls.over_of (HF.out _))))); refine wpQuiet_nil ?_; rintro _ ⟨x1, rfl⟩
  have HX := Lib.hid (HX0.out.over x1)
  clear c0 c1 c2 b0 b1 l0
  go_wp2
  go_ret
  exact ⟨ret_bool HT.out.symm, HX.out⟩
theorem enters_painted1 : Enters 235 := enters_of Try.func235 (by kernel_rfl) (by kernel_rfl)
set_option maxRecDepth 5000 in
set_option maxHeartbeats 800000 in
theorem painted1_any (pd pk : Nat) (kind d1 d2 d3 x y : Int) (w : World) (h1 : -50 ≤ d1 ∧ d1 ≤ 50) (h2 : -50 ≤ d2 ∧ d2 ≤ 50) (h3 : -50 ≤ x ∧ x ≤ 50) (h4 : -50 ≤ y ∧ y ≤ 50) (t : Bool) (ht : hasT kind (d1, d2, d3) x y = t)
    (c0 : w.cell? ⟨pd, 0, none⟩ = some (.int .i64 d1)) (c1 : w.cell? ⟨pd, 1, none⟩ = some (.int .i64 d2)) (c2 : w.cell? ⟨pd, 2, none⟩ = some (.int .i64 d3)) (ck : w.cell? ⟨pk, 0, none⟩ = some (.int .i64 kind)) :
    Calls Try.prog 235 #[.int .i64 x, .int .i64 y, .pointer (some ⟨pd, 0, none⟩), .pointer (some ⟨pk, 0, none⟩)] w fun e w' => e = .returned (.bool t) ∧ w.Ext w' := by
  have HC := Lib.hid (fun w' => discHas_any kind d1 d2 d3 x y w' h1 h2 h3 h4 t ht)
  clear h1 h2 h3 h4 ht
  go_enter Try.func235, Try.ntmps235
  go_wp2_with fail
  refine (HC.out _).mono ?_
  rintro e w2 ⟨rfl, hx2⟩
  go_wp2
  go_ret
  exact ⟨rfl, hx2⟩
set_option maxRecDepth 5000 in
set_option maxHeartbeats 800000 in
theorem painted_any (b ab W H : Nat) (l : List Bool) (kind d1 d2 d3 : Int) (w : World) (hW : W ≤ 40) (hH : H ≤ 40) (hI : Img w b ab W H l) (h1 : -50 ≤ d1 ∧ d1 ≤ 50) (h2 : -50 ≤ d2 ∧ d2 ≤ 50) :
    Calls Try.prog 216 #[.pointer (some ⟨b, 0, none⟩), .int .i64 kind, .agg #[.int .i64 d1, .int .i64 d2, .int .i64 d3]] w (ImgRet w W H (pixD kind W H (d1, d2, d3))) := by
  obtain ⟨W0, hW0⟩ : ∃ W0, W0 = (w.alloc (.cells #[.int .i64 kind] 2)).alloc (.cells #[.int .i64 d1, .int .i64 d2, .int .i64 d3] 98) := ⟨_, rfl⟩
  have hx0 : w.Ext W0 := by rw [hW0]; repeat (first | exact World.Ext.refl _ | exact ⟨_, rfl⟩ | assumption | refine World.Ext.over ?_ _ | refine World.Ext.drewN ?_ _ | refine World.Ext.drew ?_ | refine World.Ext.alloc ?_ _ | refine World.Ext.setCell ?_ (by simp) _)
  have q0 : W0.cell? ⟨w.heap.size, 0, none⟩ = some (.int .i64 kind) := by rw [hW0]; simp [go_sem]
  have q1 : W0.cell? ⟨w.heap.size + 1, 0, none⟩ = some (.int .i64 d1) := by rw [hW0]; simp [go_sem]
  have q2 : W0.cell? ⟨w.heap.size + 1, 1, none⟩ = some (.int .i64 d2) := by rw [hW0]; simp [go_sem]
  have q3 : W0.cell? ⟨w.heap.size + 1, 2, none⟩ = some (.int .i64 d3) := by rw [hW0]; simp [go_sem]
  have HM : Hid (∀ w', W0.Ext w' → Calls Try.prog 165 #[.int .i64 W, .int .i64 H, .func (.func 235) #[] #[.pointer (some ⟨w.heap.size + 1, 0, none⟩), .pointer (some ⟨w.heap.size, 0, none⟩)]] w' (ImgRet w' W H (pixD kind W H (d1, d2, d3)))) := fun w' hx =>
    made_any W H 235 _ _ w' (by omega) (by omega) enters_painted1 fun w2 hx2 x y h3 h4 =>
      painted1_any _ _ kind d1 d2 d3 x y w2 h1 h2 (by omega) (by omega) _ rfl ((hx.trans hx2).cell q1) ((hx.trans hx2).cell q2) ((hx.trans hx2).cell q3) ((hx.trans hx2).cell q0)
  have hI0 := hI.ext hx0
  have c0 := hI0.c0
  have c1 := hI0.c1
  have lb := hI0.lt
  have HX0 := Lib.hid hx0
  clear hI hI0 h1 h2 hx0 q0 q1 q2 q3
  generalize pixD kind W H (d1, d2, d3) = R at *
  go_enter Try.func216, Try.ntmps216
  go_wp2_with fail
  rw [← hW0]
  clear hW0
  refine wp_region_over_tail 9 (by kernel_rfl) (by kernel_rfl) ?_; simp only [List.take_succ_cons, List.take_zero, List.drop_succ_cons, List.drop_zero]; (repeat (go_big_quiet_step (fail))); refine wpQuiet_nil ?_; rintro _ ⟨x1, rfl⟩
  go_wp2_with fail
  refine (HM.out _ ⟨x1, rfl⟩).mono ?_
  rintro e w3 ⟨b2, ab2, rfl, hx3, hi3, hb3, hab3⟩
  have hz := HX0.out.size
  have HR := Lib.hid (And.intro ((HX0.out.over x1).trans hx3) hi3)
  have hb4 : w.heap.size ≤ b2 := by simp at hz hb3; omega
  have hab4 : w.heap.size ≤ ab2 := by simp at hz hab3; omega
  clear hx3 hi3 hb3 hab3 hz c0 c1 lb
  go_wp2
  go_ret
  exact ⟨b2, ab2, rfl, HR.out.1, HR.out.2, hb4, hab4⟩
end Go.Proofs.Ytahhnjoeaodcjaa
