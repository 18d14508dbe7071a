/- A result of three cells (a border) in a law. -/
import Derived.Test.YtahhnjoeaodcjaaLBd
import Derived.Test.YtahhnjoeaodcjaaGenS
import Derived.Test.YtahhnjoeaodcjaaBrdF
namespace Go.Proofs.Ytahhnjoeaodcjaa
open Go.RowKit
theorem newTri1 {w w' : World} {u v x : Value} {T : TypeId} (h : (w.alloc (.cells #[u, v, x] T)).Ext w') : w'.cell? ⟨w.heap.size, 0, none⟩ = some u ∧ w'.cell? ⟨w.heap.size, 1, none⟩ = some v ∧ w'.cell? ⟨w.heap.size, 2, none⟩ = some x ∧ w'.frozen? ⟨w.heap.size, 0, none⟩ = false ∧ w'.frozen? ⟨w.heap.size, 1, none⟩ = false ∧ w'.frozen? ⟨w.heap.size, 2, none⟩ = false ∧ Hid (∃ T, Tri w' w.heap.size T u v x) :=
  have t := (Tri.new w u v x T w.heap.size rfl).ext h
  ⟨t.cell0, t.cell1, t.cell2, t.free 0, t.free 1, t.free 2, Lib.hid ⟨T, t⟩⟩
theorem newTriD {w w' : World} {u v x : Value} {T : TypeId} (h : (w.alloc (.cells #[u, v, x] T)).drew.Ext w') : w'.cell? ⟨w.heap.size, 0, none⟩ = some u ∧ w'.cell? ⟨w.heap.size, 1, none⟩ = some v ∧ w'.cell? ⟨w.heap.size, 2, none⟩ = some x ∧ w'.frozen? ⟨w.heap.size, 0, none⟩ = false ∧ w'.frozen? ⟨w.heap.size, 1, none⟩ = false ∧ w'.frozen? ⟨w.heap.size, 2, none⟩ = false ∧ Hid (∃ T, Tri w' w.heap.size T u v x) :=
  newTri1 ((World.Ext.refl _).drew.trans h)
theorem oldTri1 {w w' : World} {p : Nat} {u v x : Value} (h : w.cell? ⟨p, 0, none⟩ = some u ∧ w.cell? ⟨p, 1, none⟩ = some v ∧ w.cell? ⟨p, 2, none⟩ = some x ∧ w.frozen? ⟨p, 0, none⟩ = false ∧ w.frozen? ⟨p, 1, none⟩ = false ∧ w.frozen? ⟨p, 2, none⟩ = false ∧ Hid (∃ T, Tri w p T u v x)) (hx : w.Ext w') :
    w'.cell? ⟨p, 0, none⟩ = some u ∧ w'.cell? ⟨p, 1, none⟩ = some v ∧ w'.cell? ⟨p, 2, none⟩ = some x ∧ w'.frozen? ⟨p, 0, none⟩ = false ∧ w'.frozen? ⟨p, 1, none⟩ = false ∧ w'.frozen? ⟨p, 2, none⟩ = false ∧ Hid (∃ T, Tri w' p T u v x) := by
  obtain ⟨T, h⟩ := h.2.2.2.2.2.2
  have t := h.ext hx
  exact ⟨t.cell0, t.cell1, t.cell2, t.free 0, t.free 1, t.free 2, Lib.hid ⟨T, t⟩⟩
theorem tri_set0 {w : World} {p : Nat} {u v x : Value} (h : Hid (∃ T, Tri w p T u v x)) (a b c : Value) : (((w.setCell ⟨p, 0, none⟩ a).setCell ⟨p, 1, none⟩ b).setCell ⟨p, 2, none⟩ c).cell? ⟨p, 0, none⟩ = some a := by
  obtain ⟨T, h⟩ := h
  exact (tri_put h a b c).cell0
theorem tri_set1 {w : World} {p : Nat} {u v x : Value} (h : Hid (∃ T, Tri w p T u v x)) (a b c : Value) : (((w.setCell ⟨p, 0, none⟩ a).setCell ⟨p, 1, none⟩ b).setCell ⟨p, 2, none⟩ c).cell? ⟨p, 1, none⟩ = some b := by
  obtain ⟨T, h⟩ := h
  exact (tri_put h a b c).cell1
theorem tri_set2 {w : World} {p : Nat} {u v x : Value} (h : Hid (∃ T, Tri w p T u v x)) (a b c : Value) : (((w.setCell ⟨p, 0, none⟩ a).setCell ⟨p, 1, none⟩ b).setCell ⟨p, 2, none⟩ c).cell? ⟨p, 2, none⟩ = some c := by
  obtain ⟨T, h⟩ := h
  exact (tri_put h a b c).cell2
end Go.Proofs.Ytahhnjoeaodcjaa
