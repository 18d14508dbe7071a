/- What the laws do with trees of grey pictures. -/
import Derived.Test.YthgkmaccbcpaeaaLGr
import Derived.Test.YthgkmaccbcpaeaaKit
namespace Go.Proofs.Ythgkmaccbcpaeaa
open Go Go.RowKit
/-- A block of four cells. -/
def Qua (w : World) (p : Nat) (e : TypeId) (u v x y : Value) : Prop := w.heap[p]? = some (.cells #[u, v, x, y] e (0, 0))
section
variable {w w' : World} {p : Nat} {e : TypeId} {u v x y : Value}
theorem Qua.cell0 (h : Qua w p e u v x y) : w.cell? ⟨p, 0, none⟩ = some u := by unfold Qua at h; simp [World.cell?, h]
theorem Qua.cell1 (h : Qua w p e u v x y) : w.cell? ⟨p, 1, none⟩ = some v := by unfold Qua at h; simp [World.cell?, h]
theorem Qua.cell2 (h : Qua w p e u v x y) : w.cell? ⟨p, 2, none⟩ = some x := by unfold Qua at h; simp [World.cell?, h]
theorem Qua.cell3 (h : Qua w p e u v x y) : w.cell? ⟨p, 3, none⟩ = some y := by unfold Qua at h; simp [World.cell?, h]
theorem Qua.free (h : Qua w p e u v x y) (i : Nat) : w.frozen? ⟨p, i, none⟩ = false := by unfold Qua at h; simp [World.frozen?, h]
theorem Qua.lt (h : Qua w p e u v x y) : p < w.heap.size := (Array.getElem?_eq_some_iff.1 h).1
theorem Qua.keep (h : Qua w p e u v x y) (hk : w'.heap[p]? = w.heap[p]?) : Qua w' p e u v x y := by unfold Qua at *; rw [hk, h]
theorem Qua.ext (h : Qua w p e u v x y) (hx : w.Ext w') : Qua w' p e u v x y := h.keep (hx.block h.lt)
theorem Qua.other (h : Qua w p e u v x y) {a : Addr} (ha : a.block ≠ p) (z : Value) : Qua (w.setCell a z) p e u v x y := h.keep (Below.heap_setCell _ _ _ _ (Ne.symm ha))
theorem Qua.new (w : World) (u v x y : Value) (e : TypeId) (p : Nat) (hp : p = w.heap.size) : Qua (w.alloc (.cells #[u, v, x, y] e)) p e u v x y := by
  subst hp
  unfold Qua
  show (w.heap.push _)[w.heap.size]? = _
  simp
theorem Qua.set0 (h : Qua w p e u v x y) (a : Value) : Qua (w.setCell ⟨p, 0, none⟩ a) p e a v x y := by unfold Qua at *; simp [World.setCell, Array.getElem?_modify, h]
theorem Qua.set1 (h : Qua w p e u v x y) (a : Value) : Qua (w.setCell ⟨p, 1, none⟩ a) p e u a x y := by unfold Qua at *; simp [World.setCell, Array.getElem?_modify, h]
theorem Qua.set2 (h : Qua w p e u v x y) (a : Value) : Qua (w.setCell ⟨p, 2, none⟩ a) p e u v a y := by unfold Qua at *; simp [World.setCell, Array.getElem?_modify, h]
theorem Qua.set3 (h : Qua w p e u v x y) (a : Value) : Qua (w.setCell ⟨p, 3, none⟩ a) p e u v x a := by unfold Qua at *; simp [World.setCell, Array.getElem?_modify, h]
theorem Qua.put (h : Qua w p e u v x y) (a b c d : Value) : Qua ((((w.setCell ⟨p, 0, none⟩ a).setCell ⟨p, 1, none⟩ b).setCell ⟨p, 2, none⟩ c).setCell ⟨p, 3, none⟩ d) p e a b c d := (((h.set0 a).set1 b).set2 c).set3 d
end
/-- Levels, parents, areas and nodes of a tree. -/
abbrev GT := List Int × List Int × List Int × List (List Int)
def apO (a b : Option Addr) : Prop := ∀ k o, a = some ⟨k, o, none⟩ → ∀ o', b ≠ some ⟨k, o', none⟩
theorem apO.symm {a b : Option Addr} (h : apO a b) : apO b a := fun k o e o' e' => h k o' e' o e
def gtV (a1 a2 a3 a4 : Option Addr) (c1 c2 c3 c4 : Nat) (R : GT) : Value := .agg #[.slice a1 R.1.length c1, .slice a2 R.2.1.length c2, .slice a3 R.2.2.1.length c3, .slice a4 R.2.2.2.length c4]
def RowG (w : World) (a1 a2 a3 a4 : Option Addr) (A : Nat → Option Addr) (C : Nat → Nat) (R : GT) : Prop := RowI w a1 R.1 ∧ RowI w a2 R.2.1 ∧ RowI w a3 R.2.2.1 ∧ MatAt w a4 A C R.2.2.2
def OwnG (lo hi : Nat) (w : World) (a1 a2 a3 a4 : Option Addr) (A : Nat → Option Addr) (C : Nat → Nat) (R : GT) : Prop :=
  apO a1 a2 ∧ apO a1 a3 ∧ apO a2 a3 ∧ ∃ mid, lo ≤ mid ∧ mid ≤ hi ∧ OwnOf (Value.int .i64) 0 lo mid w a1 R.1 ∧ OwnOf (Value.int .i64) 0 lo mid w a2 R.2.1 ∧ OwnOf (Value.int .i64) 0 lo mid w a3 R.2.2.1 ∧ OwnMat mid hi w a4 A C R.2.2.2
def GtLen (R : GT) : Prop := R.1.length ≤ maxLen ∧ R.2.1.length ≤ maxLen ∧ R.2.2.1.length ≤ maxLen ∧ MatLen R.2.2.2
def GtBnd (R : GT) : Prop := R.1.length ≤ 1048576 ∧ R.2.1.length ≤ 1048576 ∧ R.2.2.1.length ≤ 1048576 ∧ MatBnd R.2.2.2
def cntG (R : GT) : Nat := R.1.length + R.2.1.length + R.2.2.1.length + offM R.2.2.2 R.2.2.2.length
def marksG (k0 : Nat) (R : GT) : GT := (marksI k0 R.1.length, marksI (k0 + R.1.length : Nat) R.2.1.length, marksI (k0 + R.1.length + R.2.1.length : Nat) R.2.2.1.length, marksM (k0 + R.1.length + R.2.1.length + R.2.2.1.length : Nat) R.2.2.2)
section
variable {lo hi lo' hi' : Nat} {w w' : World} {a1 a2 a3 a4 : Option Addr} {A : Nat → Option Addr} {C : Nat → Nat} {R : GT}
theorem RowG.ext (h : RowG w a1 a2 a3 a4 A C R) (hx : w.Ext w') : RowG w' a1 a2 a3 a4 A C R := ⟨RowI.ext h.1 hx, RowI.ext h.2.1 hx, RowI.ext h.2.2.1 hx, h.2.2.2.ext hx⟩
theorem OwnG.row (h : OwnG lo hi w a1 a2 a3 a4 A C R) : RowG w a1 a2 a3 a4 A C R := let ⟨_, _, _, _, _, _, h1, h2, h3, h4⟩ := h; ⟨h1.row, h2.row, h3.row, h4.mat⟩
theorem OwnG.mono (h : OwnG lo hi w a1 a2 a3 a4 A C R) (hl : lo' ≤ lo) (hh : hi ≤ hi') : OwnG lo' hi' w a1 a2 a3 a4 A C R :=
  let ⟨d1, d2, d3, m, l1, l2, h1, h2, h3, h4⟩ := h
  ⟨d1, d2, d3, m, Nat.le_trans hl l1, Nat.le_trans l2 hh, h1.mono hl (Nat.le_refl _), h2.mono hl (Nat.le_refl _), h3.mono hl (Nat.le_refl _), h4.mono (Nat.le_refl _) hh⟩
theorem OwnG.wrote {S : Nat → Prop} (h : OwnG lo hi w a1 a2 a3 a4 A C R) (hx : Wrote S w w') (hs : ∀ k, lo ≤ k → k < hi → ¬ S k) : OwnG lo hi w' a1 a2 a3 a4 A C R :=
  let ⟨d1, d2, d3, m, l1, l2, h1, h2, h3, h4⟩ := h
  ⟨d1, d2, d3, m, l1, l2, h1.wrote hx fun k q1 q2 => hs k q1 (by omega), h2.wrote hx fun k q1 q2 => hs k q1 (by omega), h3.wrote hx fun k q1 q2 => hs k q1 (by omega), h4.wrote hx fun k q1 q2 => hs k (by omega) q2⟩
theorem OwnG.ext (h : OwnG lo hi w a1 a2 a3 a4 A C R) (hx : w.Ext w') : OwnG lo hi w' a1 a2 a3 a4 A C R := h.wrote (hx.wrote fun _ => False) fun _ _ _ => id
theorem OwnG.none (lo : Nat) (w : World) : OwnG lo lo w .none .none .none .none (fun _ => .none) (fun _ => 0) ([], [], [], []) :=
  ⟨(fun _ _ e => by cases e), (fun _ _ e => by cases e), (fun _ _ e => by cases e), lo, Nat.le_refl _, Nat.le_refl _, .nil _ _, .nil _ _, .nil _ _, ⟨(fun r hr => by cases hr), (fun r hr => by cases hr), (fun r s b o b' o' hr => by cases hr)⟩⟩
end
theorem newQua1 {w w' : World} {u v x y : Value} {T : TypeId} (h : (w.alloc (.cells #[u, v, x, y] T)).Ext w') : w'.cell? ⟨w.heap.size, 0, none⟩ = some u ∧ w'.cell? ⟨w.heap.size, 1, none⟩ = some v ∧ w'.cell? ⟨w.heap.size, 2, none⟩ = some x ∧ w'.cell? ⟨w.heap.size, 3, none⟩ = some y ∧ w'.frozen? ⟨w.heap.size, 0, none⟩ = false ∧ w'.frozen? ⟨w.heap.size, 1, none⟩ = false ∧ w'.frozen? ⟨w.heap.size, 2, none⟩ = false ∧ w'.frozen? ⟨w.heap.size, 3, none⟩ = false ∧ Hid (∃ T, Qua w' w.heap.size T u v x y) :=
  have t := (Qua.new w u v x y T w.heap.size rfl).ext h
  ⟨t.cell0, t.cell1, t.cell2, t.cell3, t.free 0, t.free 1, t.free 2, t.free 3, Lib.hid ⟨T, t⟩⟩
theorem newQuaD {w w' : World} {u v x y : Value} {T : TypeId} (h : (w.alloc (.cells #[u, v, x, y] T)).drew.Ext w') : w'.cell? ⟨w.heap.size, 0, none⟩ = some u ∧ w'.cell? ⟨w.heap.size, 1, none⟩ = some v ∧ w'.cell? ⟨w.heap.size, 2, none⟩ = some x ∧ w'.cell? ⟨w.heap.size, 3, none⟩ = some y ∧ w'.frozen? ⟨w.heap.size, 0, none⟩ = false ∧ w'.frozen? ⟨w.heap.size, 1, none⟩ = false ∧ w'.frozen? ⟨w.heap.size, 2, none⟩ = false ∧ w'.frozen? ⟨w.heap.size, 3, none⟩ = false ∧ Hid (∃ T, Qua w' w.heap.size T u v x y) :=
  newQua1 ((World.Ext.refl _).drew.trans h)
theorem oldQua1 {w w' : World} {p : Nat} {u v x y : Value} (h : w.cell? ⟨p, 0, none⟩ = some u ∧ w.cell? ⟨p, 1, none⟩ = some v ∧ w.cell? ⟨p, 2, none⟩ = some x ∧ w.cell? ⟨p, 3, none⟩ = some y ∧ w.frozen? ⟨p, 0, none⟩ = false ∧ w.frozen? ⟨p, 1, none⟩ = false ∧ w.frozen? ⟨p, 2, none⟩ = false ∧ w.frozen? ⟨p, 3, none⟩ = false ∧ Hid (∃ T, Qua w p T u v x y)) (hx : w.Ext w') :
    w'.cell? ⟨p, 0, none⟩ = some u ∧ w'.cell? ⟨p, 1, none⟩ = some v ∧ w'.cell? ⟨p, 2, none⟩ = some x ∧ w'.cell? ⟨p, 3, none⟩ = some y ∧ w'.frozen? ⟨p, 0, none⟩ = false ∧ w'.frozen? ⟨p, 1, none⟩ = false ∧ w'.frozen? ⟨p, 2, none⟩ = false ∧ w'.frozen? ⟨p, 3, none⟩ = false ∧ Hid (∃ T, Qua w' p T u v x y) := by
  obtain ⟨T, h⟩ := h.2.2.2.2.2.2.2.2
  have t := h.ext hx
  exact ⟨t.cell0, t.cell1, t.cell2, t.cell3, t.free 0, t.free 1, t.free 2, t.free 3, Lib.hid ⟨T, t⟩⟩
theorem qua_set0 {w : World} {p : Nat} {u v x y : Value} (h : Hid (∃ T, Qua w p T u v x y)) (a b c d : Value) : ((((w.setCell ⟨p, 0, none⟩ a).setCell ⟨p, 1, none⟩ b).setCell ⟨p, 2, none⟩ c).setCell ⟨p, 3, none⟩ d).cell? ⟨p, 0, none⟩ = some a := by
  obtain ⟨T, h⟩ := h
  exact (h.put a b c d).cell0
theorem qua_set1 {w : World} {p : Nat} {u v x y : Value} (h : Hid (∃ T, Qua w p T u v x y)) (a b c d : Value) : ((((w.setCell ⟨p, 0, none⟩ a).setCell ⟨p, 1, none⟩ b).setCell ⟨p, 2, none⟩ c).setCell ⟨p, 3, none⟩ d).cell? ⟨p, 1, none⟩ = some b := by
  obtain ⟨T, h⟩ := h
  exact (h.put a b c d).cell1
theorem qua_set2 {w : World} {p : Nat} {u v x y : Value} (h : Hid (∃ T, Qua w p T u v x y)) (a b c d : Value) : ((((w.setCell ⟨p, 0, none⟩ a).setCell ⟨p, 1, none⟩ b).setCell ⟨p, 2, none⟩ c).setCell ⟨p, 3, none⟩ d).cell? ⟨p, 2, none⟩ = some c := by
  obtain ⟨T, h⟩ := h
  exact (h.put a b c d).cell2
theorem qua_set3 {w : World} {p : Nat} {u v x y : Value} (h : Hid (∃ T, Qua w p T u v x y)) (a b c d : Value) : ((((w.setCell ⟨p, 0, none⟩ a).setCell ⟨p, 1, none⟩ b).setCell ⟨p, 2, none⟩ c).setCell ⟨p, 3, none⟩ d).cell? ⟨p, 3, none⟩ = some d := by
  obtain ⟨T, h⟩ := h
  exact (h.put a b c d).cell3
end Go.Proofs.Ythgkmaccbcpaeaa
