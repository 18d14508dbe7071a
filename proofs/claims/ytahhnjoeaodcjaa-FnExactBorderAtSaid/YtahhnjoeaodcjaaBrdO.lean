/- Borders: the program follows one. -/
import Derived.Test.YtahhnjoeaodcjaaBrdN
import Derived.Test.YtahhnjoeaodcjaaBrdF
namespace Go.Proofs.Ytahhnjoeaodcjaa
open Go Go.RowKit Go.MapKept Go.ChangeMaps
theorem Res.set2 {w W1 : World} {p : Nat} {T : TypeId} {u v : Value} (a b : Value) (hX : w.Ext W1) (hp : w.heap.size ≤ p) (h : Two W1 p T u v) :
    W1.cell? ⟨p, 0, none⟩ = some u ∧ W1.frozen? ⟨p, 0, none⟩ = false ∧ W1.cell? ⟨p, 1, none⟩ = some v ∧ W1.frozen? ⟨p, 1, none⟩ = false ∧
    ((W1.setCell ⟨p, 0, none⟩ a).setCell ⟨p, 1, none⟩ b).cell? ⟨p, 0, none⟩ = some a ∧ ((W1.setCell ⟨p, 0, none⟩ a).setCell ⟨p, 1, none⟩ b).cell? ⟨p, 1, none⟩ = some b ∧
    Hid (w.Ext ((W1.setCell ⟨p, 0, none⟩ a).setCell ⟨p, 1, none⟩ b)) :=
  ⟨h.cell0, h.free 0, h.cell1, h.free 1, (two_put1 (two_put0 h a) b).cell0, (two_put1 (two_put0 h a) b).cell1, (hX.setCell (p := ⟨p, 0, none⟩) hp a).setCell (p := ⟨p, 1, none⟩) hp b⟩
set_option maxRecDepth 5000 in
set_option maxHeartbeats 3200000 in
theorem moved_any (x y : Int) (k : Nat) (w : World) (hk : k < 4) (hx : -1000 ≤ x ∧ x ≤ 1000) (hy : -1000 ≤ y ∧ y ≤ 1000) :
    Calls Try.prog 150 #[.agg #[.int .i64 x, .int .i64 y], .int .i64 (k : Int)] w fun e w' => e = .returned (.agg #[.int .i64 (x + dX k), .int .i64 (y + dY k)]) ∧ w.Ext w' := by
  obtain ⟨W0, hW0⟩ : ∃ W0, W0 = (w.alloc (.cells #[.int .i64 x, .int .i64 y] 67)).alloc (.cells #[.int .i64 0, .int .i64 0] 67) := ⟨_, rfl⟩
  have hx0 : w.Ext W0 := by rw [hW0]; repeat (first | exact World.Ext.refl _ | exact ⟨_, rfl⟩ | assumption | refine World.Ext.over ?_ _ | refine World.Ext.drewN ?_ _ | refine World.Ext.drew ?_ | refine World.Ext.alloc ?_ _ | refine World.Ext.setCell ?_ (by simp) _)
  have HA : Hid (Two W0 w.heap.size 67 (.int .i64 x) (.int .i64 y)) := by rw [hW0]; exact (Two.new w _ _ _ _ rfl).ext (by repeat (first | exact World.Ext.refl _ | exact ⟨_, rfl⟩ | assumption | refine World.Ext.over ?_ _ | refine World.Ext.drewN ?_ _ | refine World.Ext.drew ?_ | refine World.Ext.alloc ?_ _ | refine World.Ext.setCell ?_ (by simp) _))
  have HB : Hid (Two W0 (w.heap.size + 1) 67 (.int .i64 0) (.int .i64 0)) := by rw [hW0]; exact Two.new _ _ _ _ _ (by simp)
  have c0 := HA.out.cell0
  have c1 := HA.out.cell1
  have l0 := HA.out.lt
  have l1 := HB.out.lt
  obtain ⟨X, hX⟩ : ∃ X, x + dX k = X := ⟨_, rfl⟩
  obtain ⟨Y, hY⟩ : ∃ Y, y + dY k = Y := ⟨_, rfl⟩
  rw [hX, hY]
  obtain ⟨s0, s1, s2, s3, s4, s5, HR⟩ := Res.set2 (.int .i64 X) (.int .i64 Y) hx0 (by omega) HB.out
  clear hx0 HA HB
  have h4 : k = 0 ∨ k = 1 ∨ k = 2 ∨ k = 3 := by omega
  rcases h4 with rfl | rfl | rfl | rfl
  · rw [show x + dX 0 = x + 1 from rfl] at hX
    rw [show y + dY 0 = y from by simp [dY]] at hY
    subst hX hY
    go_enter Try.func150, Try.ntmps150
    go_upto_region 1 with fail
    rw [← hW0]
    clear hW0
    go_wp2
    exact bodyPost_ret (v := .agg #[.int .i64 (x + 1), .int .i64 y]) (by simp [results, Try.results150, go_sem, s4, s5]) rfl ⟨rfl, HR.out⟩
  · rw [show x + dX 1 = x from by simp [dX]] at hX
    rw [show y + dY 1 = y + 1 from rfl] at hY
    subst hX hY
    go_enter Try.func150, Try.ntmps150
    go_upto_region 1 with fail
    rw [← hW0]
    clear hW0
    go_wp2
    exact bodyPost_ret (v := .agg #[.int .i64 x, .int .i64 (y + 1)]) (by simp [results, Try.results150, go_sem, s4, s5]) rfl ⟨rfl, HR.out⟩
  · rw [show x + dX 2 = x - 1 from rfl] at hX
    rw [show y + dY 2 = y from by simp [dY]] at hY
    subst hX hY
    go_enter Try.func150, Try.ntmps150
    go_upto_region 1 with fail
    rw [← hW0]
    clear hW0
    go_wp2
    exact bodyPost_ret (v := .agg #[.int .i64 (x - 1), .int .i64 y]) (by simp [results, Try.results150, go_sem, s4, s5]) rfl ⟨rfl, HR.out⟩
  · rw [show x + dX 3 = x from by simp [dX]] at hX
    rw [show y + dY 3 = y - 1 from rfl] at hY
    subst hX hY
    go_enter Try.func150, Try.ntmps150
    go_upto_region 1 with fail
    rw [← hW0]
    clear hW0
    go_wp2
    exact bodyPost_ret (v := .agg #[.int .i64 x, .int .i64 (y - 1)]) (by simp [results, Try.results150, go_sem, s4, s5]) rfl ⟨rfl, HR.out⟩
end Go.Proofs.Ytahhnjoeaodcjaa
