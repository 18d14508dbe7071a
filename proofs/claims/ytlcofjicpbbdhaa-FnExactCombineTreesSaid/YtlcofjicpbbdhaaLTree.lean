/- The law kit for trees as arguments. -/
import Derived.Test.YtlcofjicpbbdhaaLaws
import Derived.Test.YtlcofjicpbbdhaaKit
namespace Go.Proofs.Ytlcofjicpbbdhaa
open Go.RowKit
/-- A block of two cells that may be written. -/
def TwoAt (w : World) (p : Nat) (u v : Value) : Prop := w.cell? ⟨p, 0, none⟩ = some u ∧ w.cell? ⟨p, 1, none⟩ = some v ∧ w.frozen? ⟨p, 0, none⟩ = false ∧ w.frozen? ⟨p, 1, none⟩ = false ∧ Hid (∃ T, Two w p T u v)
theorem TwoAt.of {w : World} {p : Nat} {T : TypeId} {u v : Value} (h : Two w p T u v) : w.cell? ⟨p, 0, none⟩ = some u ∧ w.cell? ⟨p, 1, none⟩ = some v ∧ w.frozen? ⟨p, 0, none⟩ = false ∧ w.frozen? ⟨p, 1, none⟩ = false ∧ Hid (∃ T, Two w p T u v) := ⟨h.cell0, h.cell1, h.free 0, h.free 1, Lib.hid ⟨T, h⟩⟩
theorem newTwo1 {w w' : World} {u v : Value} {T : TypeId} (h : (w.alloc (.cells #[u, v] T)).Ext w') : w'.cell? ⟨w.heap.size, 0, none⟩ = some u ∧ w'.cell? ⟨w.heap.size, 1, none⟩ = some v ∧ w'.frozen? ⟨w.heap.size, 0, none⟩ = false ∧ w'.frozen? ⟨w.heap.size, 1, none⟩ = false ∧ Hid (∃ T, Two w' w.heap.size T u v) := TwoAt.of ((Two.new w u v T _ rfl).ext h)
theorem newTwoD {w w' : World} {u v : Value} {T : TypeId} (h : (w.alloc (.cells #[u, v] T)).drew.Ext w') : w'.cell? ⟨w.heap.size, 0, none⟩ = some u ∧ w'.cell? ⟨w.heap.size, 1, none⟩ = some v ∧ w'.frozen? ⟨w.heap.size, 0, none⟩ = false ∧ w'.frozen? ⟨w.heap.size, 1, none⟩ = false ∧ Hid (∃ T, Two w' w.heap.size T u v) := newTwo1 (((World.Ext.refl _).drew).trans h)
theorem oldTwo1 {w w' : World} {p : Nat} {u v : Value} (h : w.cell? ⟨p, 0, none⟩ = some u ∧ w.cell? ⟨p, 1, none⟩ = some v ∧ w.frozen? ⟨p, 0, none⟩ = false ∧ w.frozen? ⟨p, 1, none⟩ = false ∧ Hid (∃ T, Two w p T u v)) (hx : w.Ext w') :
    w'.cell? ⟨p, 0, none⟩ = some u ∧ w'.cell? ⟨p, 1, none⟩ = some v ∧ w'.frozen? ⟨p, 0, none⟩ = false ∧ w'.frozen? ⟨p, 1, none⟩ = false ∧ Hid (∃ T, Two w' p T u v) := by
  obtain ⟨T, ht⟩ := h.2.2.2.2.out
  exact TwoAt.of (ht.ext hx)
theorem two_set0 {w : World} {p : Nat} {u v : Value} (h : Hid (∃ T, Two w p T u v)) (a b : Value) : ((w.setCell ⟨p, 0, none⟩ a).setCell ⟨p, 1, none⟩ b).cell? ⟨p, 0, none⟩ = some a := by
  obtain ⟨T, ht⟩ := h.out
  exact (ht.set a b).cell0
theorem two_set1 {w : World} {p : Nat} {u v : Value} (h : Hid (∃ T, Two w p T u v)) (a b : Value) : ((w.setCell ⟨p, 0, none⟩ a).setCell ⟨p, 1, none⟩ b).cell? ⟨p, 1, none⟩ = some b := by
  obtain ⟨T, ht⟩ := h.out
  exact (ht.set a b).cell1
theorem szTree_ok (k : Int) (s : ByteArray) (left : Int) (w : World) (hl : 0 ≤ left) (hl2 : left ≤ 1048576) (hs : s.size ≤ maxLen) :
    Calls Try.prog 70 #[.agg #[.int .i64 k, .string s], .int .i64 left] w fun e w' => ∃ z : Int, e = .returned (.int .i64 z) ∧ w.Ext w' ∧ z ≤ left ∧ (0 ≤ z → s.size ≤ 1048576 ∧ z + s.size ≤ left) :=
  (szTree_any k s left w hl hl2 hs).mono fun e w' h => by
    obtain ⟨rfl, hx⟩ := h
    refine ⟨_, rfl, hx, ?_, fun h0 => ?_⟩
    · unfold szS; split <;> omega
    · unfold szS at h0 ⊢
      split at h0
      · omega
      · rename_i h1
        rw [if_neg h1]
        omega
end Go.Proofs.Ytlcofjicpbbdhaa
