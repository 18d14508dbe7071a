/- What the laws do with trees of grey pictures. -/
import Derived.Test.YtmmanehdmnkekaaLGr
import Derived.Test.YtmmanehdmnkekaaKit
namespace Go.Proofs.Ytmmanehdmnkekaa
open Go Go.RowKit
/-- A block of four cells. -/
def Qua (w : World) (p : Nat) (e : TypeId) (u v x y : Value) : Prop := w.heap[p]? = some (.cells #[u, v, x, y] e (0, 0))
section
variable {w w' : World} {p : Nat} {e : TypeId} {u v x y : Value}
theorem Qua.cell0 (h : Qua w p e u v x y) : w.cell? ⟨p, 0, none⟩ = some u := by unfold Qua at h; simp [World.cell?, h]
theorem Qua.cell1 (h : Qua w p e u v x y) : w.cell? ⟨p, 1, none⟩ = some v := by unfold Qua at h; simp [World.cell?, h]
theorem Qua.cell2 (h : Qua w p e u v x y) : w.cell? ⟨p, 2, none⟩ = some x := by unfold Qua at h; simp [World.cell?, h]
theorem Qua.cell3 (h : Qua w p e u v x y) : w.cell? ⟨p, 3, none⟩ = some y := by unfold Qua at h; simp [World.cell?, h]
theorem Qua.free (h : Qua w p e u v x y) (i : Nat) : w.frozen? ⟨p, i, none⟩ = false := by unfold Qua at h; simp [World.frozen?, h]
theorem Qua.lt (h : Qua w p e u v x y) : p < w.heap.size := (Array.getElem?_eq_some_iff.1 h).1
theorem Qua.keep (h : Qua w p e u v x y) (hk : w'.heap[p]? = w.heap[p]?) : Qua w' p e u v x y := by unfold Qua at *; rw [hk, h]
theorem Qua.ext (h : Qua w p e u v x y) (hx : w.Ext w') : Qua w' p e u v x y := h.keep (hx.block h.lt)
theorem Qua.other (h : Qua w p e u v x y) {a : Addr} (ha : a.block ≠ p) (z : Value) : Qua (w.setCell a z) p e u v x y := h.keep (Below.heap_setCell _ _ _ _ (Ne.symm ha))
theorem Qua.new (w : World) (u v x y : Value) (e : TypeId) (p : Nat) (hp : p = w.heap.size) : Qua (w.alloc (.cells #[u, v, x, y] e)) p e u v x y := by
  subst hp
  unfold Qua
  show (w.heap.push _)[w.heap.size]? = _
  simp
theorem Qua.set0 (h : Qua w p e u v x y) (a : Value) : Qua (w.setCell ⟨p, 0, none⟩ a) p e a v x y := by unfold Qua at *; simp [World.setCell, Array.getElem?_modify, h]
theorem Qua.set1 (h : Qua w p e u v x y) (a : Value) : Qua (w.setCell ⟨p, 1, none⟩ a) p e u a x y := by unfold Qua at *; simp [World.setCell, Array.getElem?_modify, h]
theorem Qua.set2 (h : Qua w p e u v x y) (a : Value) : Qua (w.setCell ⟨p, 2, none⟩ a) p e u v a y := by unfold Qua at *; simp [World.setCell, Array.getElem?_modify, h]
theorem Qua.set3 (h : Qua w p e u v x y) (a : Value) : Qua (w.setCell ⟨p, 3, none⟩ a) p e u v x a := by unfold Qua at *; simp [World.setCell, Array.getElem?_modify, h]
theorem Qua.put (h : Qua w p e u v x y) (a b c d : Value) : Qua ((((w.setCell ⟨p, 0, none⟩ a).setCell ⟨p, 1, none⟩ b).setCell ⟨p, 2, none⟩ c).setCell ⟨p, 3, none⟩ d) p e a b c d := (((h.set0 a).set1 b).set2 c).set3 d
end
/-- Levels, parents, areas and nodes of a tree. -/
abbrev GT := List Int × List Int × List Int × List (List Int)
def apO (a b : Option Addr) : Prop := ∀ k o, a = some ⟨k, o, none⟩ → ∀ o', b ≠ some ⟨k, o', none⟩
theorem apO.symm {a b : Option Addr} (h : apO a b) : apO b a := fun k o e o' e' => h k o' e' o e
def gtV (a1 a2 a3 a4 : Option Addr) (c1 c2 c3 c4 : Nat) (R : GT) : Value := .agg #[.slice a1 R.1.length c1, .slice a2 R.2.1.length c2, .slice a3 R.2.2.1.length c3, .slice a4 R.2.2.2.length c4]
def RowG (w : World) (a1 a2 a3 a4 : Option Addr) (A : Nat → Option Addr) (C : Nat → Nat) (R : GT) : Prop := RowI w a1 R.1 ∧ RowI w a2 R.2.1 ∧ RowI w a3 R.2.2.1 ∧ MatAt w a4 A C R.2.2.2
def OwnG (lo hi : Nat) (w : World) (a1 a2 a3 a4 : Option Addr) (A : Nat → Option Addr) (C : Nat → Nat) (R : GT) : Prop :=
  apO a1 a2 ∧ apO a1 a3 ∧ apO a2 a3 ∧ ∃ mid, lo ≤ mid ∧ mid ≤ hi ∧ OwnOf (Value.int .i64) 0 lo mid w a1 R.1 ∧ OwnOf (Value.int .i64) 0 lo mid w a2 R.2.1 ∧ OwnOf (Value.int .i64) 0 lo mid w a3 R.2.2.1 ∧ OwnMat mid hi w a4 A C R.2.2.2
def GtLen (R : GT) : Prop := R.1.length ≤ maxLen ∧ R.2.1.length ≤ maxLen ∧ R.2.2.1.length ≤ maxLen ∧ MatLen R.2.2.2
def GtBnd (R : GT) : Prop := R.1.length ≤ 1048576 ∧ R.2.1.length ≤ 1048576 ∧ R.2.2.1.length ≤ 1048576 ∧ MatBnd R.2.2.2
def cntG (R : GT) : Nat := R.1.length + R.2.1.length + R.2.2.1.length + offM R.2.2.2 R.2.2.2.length
def marksG (k0 : Nat) (R : GT) : GT := (marksI k0 R.1.length, marksI (k0 + R.1.length : Nat) R.2.1.length, marksI (k0 + R.1.length + R.2.1.length : Nat) R.2.2.1.length, marksM (k0 + R.1.length + R.2.1.length + R.2.2.1.length : Nat) R.2.2.2)
section
variable {lo hi lo' hi' : Nat} {w w' : World} {a1 a2 a3 a4 : Option Addr} {A : Nat → Option Addr} {C : Nat → Nat} {R : GT}
theorem RowG.ext (h : RowG w a1 a2 a3 a4 A C R) (hx : w.Ext w') : RowG w' a1 a2 a3 a4 A C R := ⟨RowI.ext h.1 hx, RowI.ext h.2.1 hx, RowI.ext h.2.2.1 hx, h.2.2.2.ext hx⟩
theorem OwnG.row (h : OwnG lo hi w a1 a2 a3 a4 A C R) : RowG w a1 a2 a3 a4 A C R := let ⟨_, _, _, _, _, _, h1, h2, h3, h4⟩ := h; ⟨h1.row, h2.row, h3.row, h4.mat⟩
theorem OwnG.mono (h : OwnG lo hi w a1 a2 a3 a4 A C R) (hl : lo' ≤ lo) (hh : hi ≤ hi') : OwnG lo' hi' w a1 a2 a3 a4 A C R :=
  let ⟨d1, d2, d3, m, l1, l2, h1, h2, h3, h4⟩ := h
  ⟨d1, d2, d3, m, Nat.le_trans hl l1, Nat.le_trans l2 hh, h1.mono hl (Nat.le_refl _), h2.mono hl (Nat.le_refl _), h3.mono hl (Nat.le_refl _), h4.mono (Nat.le_refl _) hh⟩
theorem OwnG.wrote {S : Nat → Prop} (h : OwnG lo hi w a1 a2 a3 a4 A C R) (hx : Wrote S w w') (hs : ∀ k, lo ≤ k → k < hi → ¬ S k) : OwnG lo hi w' a1 a2 a3 a4 A C R :=
  let ⟨d1, d2, d3, m, l1, l2, h1, h2, h3, h4⟩ := h
  ⟨d1, d2, d3, m, l1, l2, h1.wrote hx fun k q1 q2 => hs k q1 (by omega), h2.wrote hx fun k q1 q2 => hs k q1 (by omega), h3.wrote hx fun k q1 q2 => hs k q1 (by omega), h4.wrote hx fun k q1 q2 => hs k (by omega) q2⟩
theorem OwnG.ext (h : OwnG lo hi w a1 a2 a3 a4 A C R) (hx : w.Ext w') : OwnG lo hi w' a1 a2 a3 a4 A C R := h.wrote (hx.wrote fun _ => False) fun _ _ _ => id
theorem OwnG.none (lo : Nat) (w : World) : OwnG lo lo w .none .none .none .none (fun _ => .none) (fun _ => 0) ([], [], [], []) :=
  ⟨(fun _ _ e => by cases e), (fun _ _ e => by cases e), (fun _ _ e => by cases e), lo, Nat.le_refl _, Nat.le_refl _, .nil _ _, .nil _ _, .nil _ _, ⟨(fun r hr => by cases hr), (fun r hr => by cases hr), (fun r s b o b' o' hr => by cases hr)⟩⟩
end
theorem newQua1 {w w' : World} {u v x y : Value} {T : TypeId} (h : (w.alloc (.cells #[u, v, x, y] T)).Ext w') : w'.cell? ⟨w.heap.size, 0, none⟩ = some u ∧ w'.cell? ⟨w.heap.size, 1, none⟩ = some v ∧ w'.cell? ⟨w.heap.size, 2, none⟩ = some x ∧ w'.cell? ⟨w.heap.size, 3, none⟩ = some y ∧ w'.frozen? ⟨w.heap.size, 0, none⟩ = false ∧ w'.frozen? ⟨w.heap.size, 1, none⟩ = false ∧ w'.frozen? ⟨w.heap.size, 2, none⟩ = false ∧ w'.frozen? ⟨w.heap.size, 3, none⟩ = false ∧ Hid (∃ T, Qua w' w.heap.size T u v x y) :=
  have t := (Qua.new w u v x y T w.heap.size rfl).ext h
  ⟨t.cell0, t.cell1, t.cell2, t.cell3, t.free 0, t.free 1, t.free 2, t.free 3, Lib.hid ⟨T, t⟩⟩
theorem newQuaD {w w' : World} {u v x y : Value} {T : TypeId} (h : (w.alloc (.cells #[u, v, x, y] T)).drew.Ext w') : w'.cell? ⟨w.heap.size, 0, none⟩ = some u ∧ w'.cell? ⟨w.heap.size, 1, none⟩ = some v ∧ w'.cell? ⟨w.heap.size, 2, none⟩ = some x ∧ w'.cell? ⟨w.heap.size, 3, none⟩ = some y ∧ w'.frozen? ⟨w.heap.size, 0, none⟩ = false ∧ w'.frozen? ⟨w.heap.size, 1, none⟩ = false ∧ w'.frozen? ⟨w.heap.size, 2, none⟩ = false ∧ w'.frozen? ⟨w.heap.size, 3, none⟩ = false ∧ Hid (∃ T, Qua w' w.heap.size T u v x y) :=
  newQua1 ((World.Ext.refl _).drew.trans h)
theorem oldQua1 {w w' : World} {p : Nat} {u v x y : Value} (h : w.cell? ⟨p, 0, none⟩ = some u ∧ w.cell? ⟨p, 1, none⟩ = some v ∧ w.cell? ⟨p, 2, none⟩ = some x ∧ w.cell? ⟨p, 3, none⟩ = some y ∧ w.frozen? ⟨p, 0, none⟩ = false ∧ w.frozen? ⟨p, 1, none⟩ = false ∧ w.frozen? ⟨p, 2, none⟩ = false ∧ w.frozen? ⟨p, 3, none⟩ = false ∧ Hid (∃ T, Qua w p T u v x y)) (hx : w.Ext w') :
    w'.cell? ⟨p, 0, none⟩ = some u ∧ w'.cell? ⟨p, 1, none⟩ = some v ∧ w'.cell? ⟨p, 2, none⟩ = some x ∧ w'.cell? ⟨p, 3, none⟩ = some y ∧ w'.frozen? ⟨p, 0, none⟩ = false ∧ w'.frozen? ⟨p, 1, none⟩ = false ∧ w'.frozen? ⟨p, 2, none⟩ = false ∧ w'.frozen? ⟨p, 3, none⟩ = false ∧ Hid (∃ T, Qua w' p T u v x y) := by
  obtain ⟨T, h⟩ := h.2.2.2.2.2.2.2.2
  have t := h.ext hx
  exact ⟨t.cell0, t.cell1, t.cell2, t.cell3, t.free 0, t.free 1, t.free 2, t.free 3, Lib.hid ⟨T, t⟩⟩
theorem qua_set0 {w : World} {p : Nat} {u v x y : Value} (h : Hid (∃ T, Qua w p T u v x y)) (a b c d : Value) : ((((w.setCell ⟨p, 0, none⟩ a).setCell ⟨p, 1, none⟩ b).setCell ⟨p, 2, none⟩ c).setCell ⟨p, 3, none⟩ d).cell? ⟨p, 0, none⟩ = some a := by
  obtain ⟨T, h⟩ := h
  exact (h.put a b c d).cell0
theorem qua_set1 {w : World} {p : Nat} {u v x y : Value} (h : Hid (∃ T, Qua w p T u v x y)) (a b c d : Value) : ((((w.setCell ⟨p, 0, none⟩ a).setCell ⟨p, 1, none⟩ b).setCell ⟨p, 2, none⟩ c).setCell ⟨p, 3, none⟩ d).cell? ⟨p, 1, none⟩ = some b := by
  obtain ⟨T, h⟩ := h
  exact (h.put a b c d).cell1
theorem qua_set2 {w : World} {p : Nat} {u v x y : Value} (h : Hid (∃ T, Qua w p T u v x y)) (a b c d : Value) : ((((w.setCell ⟨p, 0, none⟩ a).setCell ⟨p, 1, none⟩ b).setCell ⟨p, 2, none⟩ c).setCell ⟨p, 3, none⟩ d).cell? ⟨p, 2, none⟩ = some c := by
  obtain ⟨T, h⟩ := h
  exact (h.put a b c d).cell2
theorem qua_set3 {w : World} {p : Nat} {u v x y : Value} (h : Hid (∃ T, Qua w p T u v x y)) (a b c d : Value) : ((((w.setCell ⟨p, 0, none⟩ a).setCell ⟨p, 1, none⟩ b).setCell ⟨p, 2, none⟩ c).setCell ⟨p, 3, none⟩ d).cell? ⟨p, 3, none⟩ = some d := by
  obtain ⟨T, h⟩ := h
  exact (h.put a b c d).cell3
set_option maxHeartbeats 800000 in
theorem eqGreyTree_any (a1 a2 a3 a4 b1 b2 b3 b4 : Option Addr) (c1 c2 c3 c4 d1 d2 d3 d4 : Nat) (A B : Nat → Option Addr) (C D : Nat → Nat) (R : GT) (w : World) (hn : GtLen R) (ha : RowG w a1 a2 a3 a4 A C R) (hb : RowG w b1 b2 b3 b4 B D R) :
    Calls Try.prog 69 #[gtV a1 a2 a3 a4 c1 c2 c3 c4 R, gtV b1 b2 b3 b4 d1 d2 d3 d4 R] w fun e w' => e = .returned (.bool true) ∧ w.Ext w' := by
  obtain ⟨L, P, Q, N⟩ := R
  obtain ⟨n1, n2, n3, n4, n5⟩ := hn
  obtain ⟨x1, x2, x3, x4⟩ := ha
  obtain ⟨y1, y2, y3, y4⟩ := hb
  unfold gtV
  dsimp only at *
  have H1 := Lib.hid (fun w' (hx : w.Ext w') => eqInt64S_any a1 b1 c1 d1 L w' n1 (RowI.ext x1 hx) (RowI.ext y1 hx))
  have H2 := Lib.hid (fun w' (hx : w.Ext w') => eqInt64S_any a2 b2 c2 d2 P w' n2 (RowI.ext x2 hx) (RowI.ext y2 hx))
  have H3 := Lib.hid (fun w' (hx : w.Ext w') => eqInt64S_any a3 b3 c3 d3 Q w' n3 (RowI.ext x3 hx) (RowI.ext y3 hx))
  have H4 := Lib.hid (fun w' (hx : w.Ext w') => eqInt64SS_any a4 b4 c4 d4 A B C D N w' n4 n5 (x4.ext hx) (y4.ext hx))
  clear n1 n2 n3 n4 n5 x1 x2 x3 x4 y1 y2 y3 y4
  generalize L.length = l1 at *
  generalize P.length = l2 at *
  generalize Q.length = l3 at *
  generalize N.length = l4 at *
  go_enter Try.func69, Try.ntmps69
  go_wp2_with fail
  refine (H1.out _ (by repeat (first | exact World.Ext.refl _ | exact ⟨_, rfl⟩ | assumption | refine World.Ext.over ?_ _ | refine World.Ext.drewN ?_ _ | refine World.Ext.drew ?_ | refine World.Ext.alloc ?_ _ | refine World.Ext.setCell ?_ (by simp) _))).mono ?_
  rintro e w' ⟨rfl, x1, rfl⟩
  go_wp2_with fail
  refine (H2.out _ (by repeat (first | exact World.Ext.refl _ | exact ⟨_, rfl⟩ | assumption | refine World.Ext.over ?_ _ | refine World.Ext.drewN ?_ _ | refine World.Ext.drew ?_ | refine World.Ext.alloc ?_ _ | refine World.Ext.setCell ?_ (by simp) _))).mono ?_
  rintro e w' ⟨rfl, x2, rfl⟩
  go_wp2_with fail
  refine (H3.out _ (by repeat (first | exact World.Ext.refl _ | exact ⟨_, rfl⟩ | assumption | refine World.Ext.over ?_ _ | refine World.Ext.drewN ?_ _ | refine World.Ext.drew ?_ | refine World.Ext.alloc ?_ _ | refine World.Ext.setCell ?_ (by simp) _))).mono ?_
  rintro e w' ⟨rfl, x3, rfl⟩
  go_wp2_with fail
  refine (H4.out _ (by repeat (first | exact World.Ext.refl _ | exact ⟨_, rfl⟩ | assumption | refine World.Ext.over ?_ _ | refine World.Ext.drewN ?_ _ | refine World.Ext.drew ?_ | refine World.Ext.alloc ?_ _ | refine World.Ext.setCell ?_ (by simp) _))).mono ?_
  rintro e w' ⟨rfl, x4, rfl⟩
  go_wp2
  go_ret
  refine ⟨rfl, ?_⟩
  repeat (first | exact World.Ext.refl _ | exact ⟨_, rfl⟩ | assumption | refine World.Ext.over ?_ _ | refine World.Ext.drewN ?_ _ | refine World.Ext.drew ?_ | refine World.Ext.alloc ?_ _ | refine World.Ext.setCell ?_ (by simp) _)
theorem eqGreyTree_ok (a1 a2 a3 a4 b1 b2 b3 b4 : Option Addr) (c1 c2 c3 c4 d1 d2 d3 d4 : Nat) (A B : Nat → Option Addr) (C D : Nat → Nat) (R : GT) (w : World) (hn : GtBnd R) (ha : RowG w a1 a2 a3 a4 A C R) (hb : RowG w b1 b2 b3 b4 B D R) :
    Calls Try.prog 69 #[gtV a1 a2 a3 a4 c1 c2 c3 c4 R, gtV b1 b2 b3 b4 d1 d2 d3 d4 R] w fun e w' => e = .returned (.bool true) ∧ w.Ext w' :=
  eqGreyTree_any a1 a2 a3 a4 b1 b2 b3 b4 c1 c2 c3 c4 d1 d2 d3 d4 A B C D R w ⟨Nat.le_trans hn.1 (by unfold maxLen; omega), Nat.le_trans hn.2.1 (by unfold maxLen; omega), Nat.le_trans hn.2.2.1 (by unfold maxLen; omega), Nat.le_trans hn.2.2.2.1 (by unfold maxLen; omega), fun r => Nat.le_trans (hn.2.2.2.2 r) (by unfold maxLen; omega)⟩ ha hb
theorem eqGreyTree_res (a1 a2 a3 a4 b1 b2 b3 b4 : Option Addr) (c1 c2 c3 c4 d1 d2 d3 d4 : Nat) (A B : Nat → Option Addr) (C D : Nat → Nat) (R : GT) (w : World) (hn : GtBnd R ∧ cntG R ≤ 1048576) (ha : RowG w a1 a2 a3 a4 A C R) (hb : RowG w b1 b2 b3 b4 B D R) :
    Calls Try.prog 69 #[gtV a1 a2 a3 a4 c1 c2 c3 c4 R, gtV b1 b2 b3 b4 d1 d2 d3 d4 R] w fun e w' => e = .returned (.bool true) ∧ w.Ext w' := eqGreyTree_ok a1 a2 a3 a4 b1 b2 b3 b4 c1 c2 c3 c4 d1 d2 d3 d4 A B C D R w hn.1 ha hb
set_option maxHeartbeats 800000 in
theorem heldGreyTree_res (a1 a2 a3 a4 : Option Addr) (c1 c2 c3 c4 : Nat) (A : Nat → Option Addr) (C : Nat → Nat) (R : GT) (k0 : Nat) (w : World) (hn : GtBnd R ∧ cntG R ≤ 1048576) (h1 : k0 ≤ 2097152) (ha : RowG w a1 a2 a3 a4 A C (marksG k0 R)) :
    Calls Try.prog 71 #[gtV a1 a2 a3 a4 c1 c2 c3 c4 R, .int .i64 k0] w fun e w' => e = .returned (.int .i64 (k0 + cntG R : Nat)) ∧ w.Ext w' := by
  obtain ⟨L, P, Q, N⟩ := R
  obtain ⟨⟨n1, n2, n3, n4, n5⟩, n6⟩ := hn
  obtain ⟨x1, x2, x3, x4⟩ := ha
  unfold gtV
  unfold cntG at n6 ⊢
  unfold marksG at x1 x2 x3 x4
  dsimp only at *
  have H1 := Lib.hid (fun w' (hx : w.Ext w') => heldInt64S_any a1 L.length c1 (k0 : Nat) w' n1 (by omega) (by omega) (RowI.ext x1 hx))
  have H2 := Lib.hid (fun w' (hx : w.Ext w') => heldInt64S_any a2 P.length c2 (k0 + L.length : Nat) w' n2 (by omega) (by omega) (RowI.ext x2 hx))
  have H3 := Lib.hid (fun w' (hx : w.Ext w') => heldInt64S_any a3 Q.length c3 (k0 + L.length + P.length : Nat) w' n3 (by omega) (by omega) (RowI.ext x3 hx))
  have H4 := Lib.hid (fun w' (hx : w.Ext w') => heldInt64SS_any a4 c4 A C N (k0 + L.length + P.length + Q.length : Nat) w' n4 n5 (by omega) (by omega) (x4.ext hx))
  clear n1 n2 n3 n4 n5 x1 x2 x3 x4
  generalize offM N N.length = l5 at *
  generalize L.length = l1 at *
  generalize P.length = l2 at *
  generalize Q.length = l3 at *
  generalize N.length = l4 at *
  simp only [← Int.natCast_add] at H1 H2 H3 H4
  have e5 : k0 + (l1 + l2 + l3 + l5) = k0 + l1 + l2 + l3 + l5 := by omega
  rw [e5]
  clear e5
  generalize k0 + l1 = q1 at *
  generalize q1 + l2 = q2 at *
  generalize q2 + l3 = q3 at *
  generalize q3 + l5 = q4 at *
  have g1 : decide ((q1 : Int) < 0) = false := by simp
  have g2 : decide ((q2 : Int) < 0) = false := by simp
  have g3 : decide ((q3 : Int) < 0) = false := by simp
  have g4 : decide ((q4 : Int) < 0) = false := by simp
  go_enter Try.func71, Try.ntmps71
  go_wp2_with fail
  refine (H1.out _ (by repeat (first | exact World.Ext.refl _ | exact ⟨_, rfl⟩ | assumption | refine World.Ext.over ?_ _ | refine World.Ext.drewN ?_ _ | refine World.Ext.drew ?_ | refine World.Ext.alloc ?_ _ | refine World.Ext.setCell ?_ (by simp) _))).mono ?_
  rintro e w' ⟨rfl, x1, rfl⟩
  go_wp2_with fail
  refine (H2.out _ (by repeat (first | exact World.Ext.refl _ | exact ⟨_, rfl⟩ | assumption | refine World.Ext.over ?_ _ | refine World.Ext.drewN ?_ _ | refine World.Ext.drew ?_ | refine World.Ext.alloc ?_ _ | refine World.Ext.setCell ?_ (by simp) _))).mono ?_
  rintro e w' ⟨rfl, x2, rfl⟩
  go_wp2_with fail
  refine (H3.out _ (by repeat (first | exact World.Ext.refl _ | exact ⟨_, rfl⟩ | assumption | refine World.Ext.over ?_ _ | refine World.Ext.drewN ?_ _ | refine World.Ext.drew ?_ | refine World.Ext.alloc ?_ _ | refine World.Ext.setCell ?_ (by simp) _))).mono ?_
  rintro e w' ⟨rfl, x3, rfl⟩
  go_wp2_with fail
  refine (H4.out _ (by repeat (first | exact World.Ext.refl _ | exact ⟨_, rfl⟩ | assumption | refine World.Ext.over ?_ _ | refine World.Ext.drewN ?_ _ | refine World.Ext.drew ?_ | refine World.Ext.alloc ?_ _ | refine World.Ext.setCell ?_ (by simp) _))).mono ?_
  rintro e w' ⟨rfl, x4, rfl⟩
  go_wp2
  go_ret
  refine ⟨rfl, ?_⟩
  repeat (first | exact World.Ext.refl _ | exact ⟨_, rfl⟩ | assumption | refine World.Ext.over ?_ _ | refine World.Ext.drewN ?_ _ | refine World.Ext.drew ?_ | refine World.Ext.alloc ?_ _ | refine World.Ext.setCell ?_ (by simp) _)
set_option maxHeartbeats 1600000 in
theorem markGreyTree_ok (a1 a2 a3 a4 : Option Addr) (c1 c2 c3 c4 : Nat) (A : Nat → Option Addr) (C : Nat → Nat) (R : GT) (k0 lo hi : Nat) (w : World) (hn : GtBnd R) (h1 : k0 ≤ 2097152 ∧ cntG R ≤ 1048576 ∧ hi ≤ w.heap.size) (ha : OwnG lo hi w a1 a2 a3 a4 A C R) :
    Calls Try.prog 70 #[gtV a1 a2 a3 a4 c1 c2 c3 c4 R, .int .i64 k0] w fun e w' => e = .returned (.int .i64 (k0 + cntG R : Nat)) ∧ Wrote (fun b => lo ≤ b ∧ b < hi) w w' ∧ OwnG lo hi w' a1 a2 a3 a4 A C (marksG k0 R) := by
  obtain ⟨L, P, Q, N⟩ := R
  obtain ⟨n1, n2, n3, n4, n5⟩ := hn
  obtain ⟨d1, d2, d3, mid, m1, m2, o1, o2, o3, o4⟩ := ha
  obtain ⟨h1, h2, h3⟩ := h1
  unfold gtV OwnG marksG
  unfold cntG at h2 ⊢
  dsimp only at *
  obtain ⟨W0, hW0⟩ : ∃ W0, W0 = w.alloc (.cells #[.slice a1 L.length c1, .slice a2 P.length c2, .slice a3 Q.length c3, .slice a4 N.length c4] 30) := ⟨_, rfl⟩
  have hx0 : w.Ext W0 := by rw [hW0]; repeat (first | exact World.Ext.refl _ | exact ⟨_, rfl⟩ | assumption | refine World.Ext.over ?_ _ | refine World.Ext.drewN ?_ _ | refine World.Ext.drew ?_ | refine World.Ext.alloc ?_ _ | refine World.Ext.setCell ?_ (by simp) _)
  have qb : Qua W0 w.heap.size 30 (.slice a1 L.length c1) (.slice a2 P.length c2) (.slice a3 Q.length c3) (.slice a4 N.length c4) := by rw [hW0]; exact Qua.new _ _ _ _ _ _ _ rfl
  have H1 := Lib.hid (markInt64S_any a1 c1 L (k0 : Nat) lo mid W0 n1 (by omega) (by omega) (o1.ext hx0))
  have H2 := Lib.hid (fun w' hm => markInt64S_any a2 c2 P (k0 + L.length : Nat) lo mid w' n2 (by omega) (by omega) hm)
  have H3 := Lib.hid (fun w' hm => markInt64S_any a3 c3 Q (k0 + L.length + P.length : Nat) lo mid w' n3 (by omega) (by omega) hm)
  have H4 := Lib.hid (fun w' hm => markInt64SS_any a4 c4 A C N (k0 + L.length + P.length + Q.length : Nat) mid hi w' n4 n5 (by omega) (by omega) hm)
  have O2 := Lib.hid (o2.ext hx0)
  have O3 := Lib.hid (o3.ext hx0)
  have O4 := Lib.hid (o4.ext hx0)
  have QB := Lib.hid qb
  have HX0 := Lib.hid hx0
  have D1 := Lib.hid d1
  have D2 := Lib.hid d2
  have D3 := Lib.hid d3
  have c0 := qb.cell0
  have lq := qb.lt
  have hsz : Hid (w.heap.size < W0.heap.size) := lq
  clear n1 n2 n3 n4 n5 o1 o2 o3 o4 qb hx0 d1 d2 d3
  go_enter Try.func70, Try.ntmps70
  go_wp2_with fail
  rw [← hW0]
  clear hW0 c0
  refine H1.out.mono ?_
  rintro e w1 ⟨rfl, hw, ho⟩
  have hW1 : Hid (Wrote (fun b => lo ≤ b ∧ b < hi) W0 w1) := hw.mono fun k _ h => ⟨h.1, by omega⟩
  have O1 := Lib.hid ho
  have QB1 := Lib.hid (QB.out.keep (hw.block _ QB.out.lt fun h => by omega))
  have O21 := Lib.hid (OwnOf.wroteAt O2.out hw fun b o e => fun ⟨_, _, o', e'⟩ => D1.out _ _ e' _ e)
  have O31 := Lib.hid (OwnOf.wroteAt O3.out hw fun b o e => fun ⟨_, _, o', e'⟩ => D2.out _ _ e' _ e)
  have O41 := Lib.hid (O4.out.wrote hw fun k q1 q2 h => by omega)
  have c1_ := QB1.out.cell1
  clear hw ho O2 O3 O4 QB H1
  simp only [← Int.natCast_add]
  go_wp2_with fail
  refine (H2.out _ O21.out).mono ?_
  rintro e w2 ⟨rfl, hw, ho⟩
  have hW2 : Hid (Wrote (fun b => lo ≤ b ∧ b < hi) W0 w2) := hW1.out.trans (hw.mono fun k _ h => ⟨h.1, by omega⟩)
  have O22 := Lib.hid ho
  have QB2 := Lib.hid (QB1.out.keep (hw.block _ QB1.out.lt fun h => by omega))
  have O12 := Lib.hid (OwnOf.wroteAt O1.out hw fun b o e => fun ⟨_, _, o', e'⟩ => D1.out.symm _ _ e' _ e)
  have O32 := Lib.hid (OwnOf.wroteAt O31.out hw fun b o e => fun ⟨_, _, o', e'⟩ => D3.out _ _ e' _ e)
  have O42 := Lib.hid (O41.out.wrote hw fun k q1 q2 h => by omega)
  have c2_ := QB2.out.cell2
  clear hw ho O1 O21 O31 O41 QB1 c1_ hW1 H2
  simp only [← Int.natCast_add]
  go_wp2_with fail
  refine (H3.out _ O32.out).mono ?_
  rintro e w3 ⟨rfl, hw, ho⟩
  have hW3 : Hid (Wrote (fun b => lo ≤ b ∧ b < hi) W0 w3) := hW2.out.trans (hw.mono fun k _ h => ⟨h.1, by omega⟩)
  have O33 := Lib.hid ho
  have QB3 := Lib.hid (QB2.out.keep (hw.block _ QB2.out.lt fun h => by omega))
  have O13 := Lib.hid (OwnOf.wroteAt O12.out hw fun b o e => fun ⟨_, _, o', e'⟩ => D2.out.symm _ _ e' _ e)
  have O23 := Lib.hid (OwnOf.wroteAt O22.out hw fun b o e => fun ⟨_, _, o', e'⟩ => D3.out.symm _ _ e' _ e)
  have O43 := Lib.hid (O42.out.wrote hw fun k q1 q2 h => by omega)
  have c3_ := QB3.out.cell3
  clear hw ho O12 O22 O32 O42 QB2 c2_ hW2 H3
  simp only [← Int.natCast_add]
  go_wp2_with fail
  refine (H4.out _ O43.out).mono ?_
  rintro e w4 ⟨rfl, hw, ho⟩
  have hW4 : Hid (Wrote (fun b => lo ≤ b ∧ b < hi) w w4) := (HX0.out.wrote _).trans (hW3.out.trans (hw.mono fun k _ h => ⟨by omega, h.2⟩))
  have O44 := Lib.hid ho
  have O14 := Lib.hid (OwnOf.wrote O13.out hw fun k q1 q2 h => by omega)
  have O24 := Lib.hid (OwnOf.wrote O23.out hw fun k q1 q2 h => by omega)
  have O34 := Lib.hid (OwnOf.wrote O33.out hw fun k q1 q2 h => by omega)
  clear hw ho O13 O23 O33 O43 QB3 c3_ hW3 H4
  simp only [← Int.natCast_add]
  go_wp2
  go_ret
  exact ⟨ret_int (by omega), hW4.out, D1.out, D2.out, D3.out, mid, m1, m2, O14.out, O24.out, O34.out, O44.out⟩
theorem markGreyTree_res (a1 a2 a3 a4 : Option Addr) (c1 c2 c3 c4 : Nat) (A : Nat → Option Addr) (C : Nat → Nat) (R : GT) (k0 lo hi : Nat) (w : World) (hn : GtBnd R ∧ cntG R ≤ 1048576) (h1 : k0 ≤ 2097152 ∧ hi ≤ w.heap.size) (ha : OwnG lo hi w a1 a2 a3 a4 A C R) :
    Calls Try.prog 70 #[gtV a1 a2 a3 a4 c1 c2 c3 c4 R, .int .i64 k0] w fun e w' => e = .returned (.int .i64 (k0 + cntG R : Nat)) ∧ Wrote (fun b => lo ≤ b ∧ b < hi) w w' ∧ OwnG lo hi w' a1 a2 a3 a4 A C (marksG k0 R) := markGreyTree_ok a1 a2 a3 a4 c1 c2 c3 c4 A C R k0 lo hi w hn.1 ⟨h1.1, hn.2, h1.2⟩ ha
end Go.Proofs.Ytmmanehdmnkekaa
