/- What the laws do with trees of grey pictures. -/
import Derived.Test.YtmmanehdmnkekaaGreatLGr
import Derived.Test.YtmmanehdmnkekaaGreatKit
namespace Go.Proofs.YtmmanehdmnkekaaGreat
open Go Go.RowKit
/-- A block of four cells. -/
def Qua (w : World) (p : Nat) (e : TypeId) (u v x y : Value) : Prop := w.heap[p]? = some (.cells #[u, v, x, y] e (0, 0))
section
variable {w w' : World} {p : Nat} {e : TypeId} {u v x y : Value}
theorem Qua.cell0 (h : Qua w p e u v x y) : w.cell? ⟨p, 0, none⟩ = some u := by unfold Qua at h; simp [World.cell?, h]
theorem Qua.cell1 (h : Qua w p e u v x y) : w.cell? ⟨p, 1, none⟩ = some v := by unfold Qua at h; simp [World.cell?, h]
theorem Qua.cell2 (h : Qua w p e u v x y) : w.cell? ⟨p, 2, none⟩ = some x := by unfold Qua at h; simp [World.cell?, h]
theorem Qua.cell3 (h : Qua w p e u v x y) : w.cell? ⟨p, 3, none⟩ = some y := by unfold Qua at h; simp [World.cell?, h]
theorem Qua.free (h : Qua w p e u v x y) (i : Nat) : w.frozen? ⟨p, i, none⟩ = false := by unfold Qua at h; simp [World.frozen?, h]
theorem Qua.lt (h : Qua w p e u v x y) : p < w.heap.size := (Array.getElem?_eq_some_iff.1 h).1
theorem Qua.keep (h : Qua w p e u v x y) (hk : w'.heap[p]? = w.heap[p]?) : Qua w' p e u v x y := by unfold Qua at *; rw [hk, h]
theorem Qua.ext (h : Qua w p e u v x y) (hx : w.Ext w') : Qua w' p e u v x y := h.keep (hx.block h.lt)
theorem Qua.other (h : Qua w p e u v x y) {a : Addr} (ha : a.block ≠ p) (z : Value) : Qua (w.setCell a z) p e u v x y := h.keep (Below.heap_setCell _ _ _ _ (Ne.symm ha))
theorem Qua.new (w : World) (u v x y : Value) (e : TypeId) (p : Nat) (hp : p = w.heap.size) : Qua (w.alloc (.cells #[u, v, x, y] e)) p e u v x y := by
  subst hp
  unfold Qua
  show (w.heap.push _)[w.heap.size]? = _
  simp
theorem Qua.set0 (h : Qua w p e u v x y) (a : Value) : Qua (w.setCell ⟨p, 0, none⟩ a) p e a v x y := by unfold Qua at *; simp [World.setCell, Array.getElem?_modify, h]
theorem Qua.set1 (h : Qua w p e u v x y) (a : Value) : Qua (w.setCell ⟨p, 1, none⟩ a) p e u a x y := by unfold Qua at *; simp [World.setCell, Array.getElem?_modify, h]
theorem Qua.set2 (h : Qua w p e u v x y) (a : Value) : Qua (w.setCell ⟨p, 2, none⟩ a) p e u v a y := by unfold Qua at *; simp [World.setCell, Array.getElem?_modify, h]
theorem Qua.set3 (h : Qua w p e u v x y) (a : Value) : Qua (w.setCell ⟨p, 3, none⟩ a) p e u v x a := by unfold Qua at *; simp [World.setCell, Array.getElem?_modify, h]
theorem Qua.put (h : Qua w p e u v x y) (a b c d : Value) : Qua ((((w.setCell ⟨p, 0, none⟩ a).setCell ⟨p, 1, none⟩ b).setCell ⟨p, 2, none⟩ c).setCell ⟨p, 3, none⟩ d) p e a b c d := (((h.set0 a).set1 b).set2 c).set3 d
end
/-- Levels, parents, areas and nodes of a tree. -/
abbrev GT := List Int × List Int × List Int × List (List Int)
def apO (a b : Option Addr) : Prop := ∀ k o, a = some ⟨k, o, none⟩ → ∀ o', b ≠ some ⟨k, o', none⟩
theorem apO.symm {a b : Option Addr} (h : apO a b) : apO b a := fun k o e o' e' => h k o' e' o e
def gtV (a1 a2 a3 a4 : Option Addr) (c1 c2 c3 c4 : Nat) (R : GT) : Value := .agg #[.slice a1 R.1.length c1, .slice a2 R.2.1.length c2, .slice a3 R.2.2.1.length c3, .slice a4 R.2.2.2.length c4]
def RowG (w : World) (a1 a2 a3 a4 : Option Addr) (A : Nat → Option Addr) (C : Nat → Nat) (R : GT) : Prop := RowI w a1 R.1 ∧ RowI w a2 R.2.1 ∧ RowI w a3 R.2.2.1 ∧ MatAt w a4 A C R.2.2.2
def OwnG (lo hi : Nat) (w : World) (a1 a2 a3 a4 : Option Addr) (A : Nat → Option Addr) (C : Nat → Nat) (R : GT) : Prop :=
  apO a1 a2 ∧ apO a1 a3 ∧ apO a2 a3 ∧ ∃ mid, lo ≤ mid ∧ mid ≤ hi ∧ OwnOf (Value.int .i64) 0 lo mid w a1 R.1 ∧ OwnOf (Value.int .i64) 0 lo mid w a2 R.2.1 ∧ OwnOf (Value.int .i64) 0 lo mid w a3 R.2.2.1 ∧ OwnMat mid hi w a4 A C R.2.2.2
def GtLen (R : GT) : Prop := R.1.length ≤ maxLen ∧ R.2.1.length ≤ maxLen ∧ R.2.2.1.length ≤ maxLen ∧ MatLen R.2.2.2
def GtBnd (R : GT) : Prop := R.1.length ≤ 1048576 ∧ R.2.1.length ≤ 1048576 ∧ R.2.2.1.length ≤ 1048576 ∧ MatBnd R.2.2.2
def cntG (R : GT) : Nat := R.1.length + R.2.1.length + R.2.2.1.length + offM R.2.2.2 R.2.2.2.length
def marksG (k0 : Nat) (R : GT) : GT := (marksI k0 R.1.length, marksI (k0 + R.1.length : Nat) R.2.1.length, marksI (k0 + R.1.length + R.2.1.length : Nat) R.2.2.1.length, marksM (k0 + R.1.length + R.2.1.length + R.2.2.1.length : Nat) R.2.2.2)
section
variable {lo hi lo' hi' : Nat} {w w' : World} {a1 a2 a3 a4 : Option Addr} {A : Nat → Option Addr} {C : Nat → Nat} {R : GT}
theorem RowG.ext (h : RowG w a1 a2 a3 a4 A C R) (hx : w.Ext w') : RowG w' a1 a2 a3 a4 A C R := ⟨RowI.ext h.1 hx, RowI.ext h.2.1 hx, RowI.ext h.2.2.1 hx, h.2.2.2.ext hx⟩
theorem OwnG.row (h : OwnG lo hi w a1 a2 a3 a4 A C R) : RowG w a1 a2 a3 a4 A C R := let ⟨_, _, _, _, _, _, h1, h2, h3, h4⟩ := h; ⟨h1.row, h2.row, h3.row, h4.mat⟩
theorem OwnG.mono (h : OwnG lo hi w a1 a2 a3 a4 A C R) (hl : lo' ≤ lo) (hh : hi ≤ hi') : OwnG lo' hi' w a1 a2 a3 a4 A C R :=
  let ⟨d1, d2, d3, m, l1, l2, h1, h2, h3, h4⟩ := h
  ⟨d1, d2, d3, m, Nat.le_trans hl l1, Nat.le_trans l2 hh, h1.mono hl (Nat.le_refl _), h2.mono hl (Nat.le_refl _), h3.mono hl (Nat.le_refl _), h4.mono (Nat.le_refl _) hh⟩
theorem OwnG.wrote {S : Nat → Prop} (h : OwnG lo hi w a1 a2 a3 a4 A C R) (hx : Wrote S w w') (hs : ∀ k, lo ≤ k → k < hi → ¬ S k) : OwnG lo hi w' a1 a2 a3 a4 A C R :=
  let ⟨d1, d2, d3, m, l1, l2, h1, h2, h3, h4⟩ := h
  ⟨d1, d2, d3, m, l1, l2, h1.wrote hx fun k q1 q2 => hs k q1 (by omega), h2.wrote hx fun k q1 q2 => hs k q1 (by omega), h3.wrote hx fun k q1 q2 => hs k q1 (by omega), h4.wrote hx fun k q1 q2 => hs k (by omega) q2⟩
theorem OwnG.ext (h : OwnG lo hi w a1 a2 a3 a4 A C R) (hx : w.Ext w') : OwnG lo hi w' a1 a2 a3 a4 A C R := h.wrote (hx.wrote fun _ => False) fun _ _ _ => id
theorem OwnG.none (lo : Nat) (w : World) : OwnG lo lo w .none .none .none .none (fun _ => .none) (fun _ => 0) ([], [], [], []) :=
  ⟨(fun _ _ e => by cases e), (fun _ _ e => by cases e), (fun _ _ e => by cases e), lo, Nat.le_refl _, Nat.le_refl _, .nil _ _, .nil _ _, .nil _ _, ⟨(fun r hr => by cases hr), (fun r hr => by cases hr), (fun r s b o b' o' hr => by cases hr)⟩⟩
end
theorem newQua1 {w w' : World} {u v x y : Value} {T : TypeId} (h : (w.alloc (.cells #[u, v, x, y] T)).Ext w') : w'.cell? ⟨w.heap.size, 0, none⟩ = some u ∧ w'.cell? ⟨w.heap.size, 1, none⟩ = some v ∧ w'.cell? ⟨w.heap.size, 2, none⟩ = some x ∧ w'.cell? ⟨w.heap.size, 3, none⟩ = some y ∧ w'.frozen? ⟨w.heap.size, 0, none⟩ = false ∧ w'.frozen? ⟨w.heap.size, 1, none⟩ = false ∧ w'.frozen? ⟨w.heap.size, 2, none⟩ = false ∧ w'.frozen? ⟨w.heap.size, 3, none⟩ = false ∧ Hid (∃ T, Qua w' w.heap.size T u v x y) :=
  have t := (Qua.new w u v x y T w.heap.size rfl).ext h
  ⟨t.cell0, t.cell1, t.cell2, t.cell3, t.free 0, t.free 1, t.free 2, t.free 3, Lib.hid ⟨T, t⟩⟩
theorem newQuaD {w w' : World} {u v x y : Value} {T : TypeId} (h : (w.alloc (.cells #[u, v, x, y] T)).drew.Ext w') : w'.cell? ⟨w.heap.size, 0, none⟩ = some u ∧ w'.cell? ⟨w.heap.size, 1, none⟩ = some v ∧ w'.cell? ⟨w.heap.size, 2, none⟩ = some x ∧ w'.cell? ⟨w.heap.size, 3, none⟩ = some y ∧ w'.frozen? ⟨w.heap.size, 0, none⟩ = false ∧ w'.frozen? ⟨w.heap.size, 1, none⟩ = false ∧ w'.frozen? ⟨w.heap.size, 2, none⟩ = false ∧ w'.frozen? ⟨w.heap.size, 3, none⟩ = false ∧ Hid (∃ T, Qua w' w.heap.size T u v x y) :=
  newQua1 ((World.Ext.refl _).drew.trans h)
theorem oldQua1 {w w' : World} {p : Nat} {u v x y : Value} (h : w.cell? ⟨p, 0, none⟩ = some u ∧ w.cell? ⟨p, 1, none⟩ = some v ∧ w.cell? ⟨p, 2, none⟩ = some x ∧ w.cell? ⟨p, 3, none⟩ = some y ∧ w.frozen? ⟨p, 0, none⟩ = false ∧ w.frozen? ⟨p, 1, none⟩ = false ∧ w.frozen? ⟨p, 2, none⟩ = false ∧ w.frozen? ⟨p, 3, none⟩ = false ∧ Hid (∃ T, Qua w p T u v x y)) (hx : w.Ext w') :
    w'.cell? ⟨p, 0, none⟩ = some u ∧ w'.cell? ⟨p, 1, none⟩ = some v ∧ w'.cell? ⟨p, 2, none⟩ = some x ∧ w'.cell? ⟨p, 3, none⟩ = some y ∧ w'.frozen? ⟨p, 0, none⟩ = false ∧ w'.frozen? ⟨p, 1, none⟩ = false ∧ w'.frozen? ⟨p, 2, none⟩ = false ∧ w'.frozen? ⟨p, 3, none⟩ = false ∧ Hid (∃ T, Qua w' p T u v x y) := by
  obtain ⟨T, h⟩ := h.2.2.2.2.2.2.2.2
  have t := h.ext hx
  exact ⟨t.cell0, t.cell1, t.cell2, t.cell3, t.free 0, t.free 1, t.free 2, t.free 3, Lib.hid ⟨T, t⟩⟩
theorem qua_set0 {w : World} {p : Nat} {u v x y : Value} (h : Hid (∃ T, Qua w p T u v x y)) (a b c d : Value) : ((((w.setCell ⟨p, 0, none⟩ a).setCell ⟨p, 1, none⟩ b).setCell ⟨p, 2, none⟩ c).setCell ⟨p, 3, none⟩ d).cell? ⟨p, 0, none⟩ = some a := by
  obtain ⟨T, h⟩ := h
  exact (h.put a b c d).cell0
theorem qua_set1 {w : World} {p : Nat} {u v x y : Value} (h : Hid (∃ T, Qua w p T u v x y)) (a b c d : Value) : ((((w.setCell ⟨p, 0, none⟩ a).setCell ⟨p, 1, none⟩ b).setCell ⟨p, 2, none⟩ c).setCell ⟨p, 3, none⟩ d).cell? ⟨p, 1, none⟩ = some b := by
  obtain ⟨T, h⟩ := h
  exact (h.put a b c d).cell1
theorem qua_set2 {w : World} {p : Nat} {u v x y : Value} (h : Hid (∃ T, Qua w p T u v x y)) (a b c d : Value) : ((((w.setCell ⟨p, 0, none⟩ a).setCell ⟨p, 1, none⟩ b).setCell ⟨p, 2, none⟩ c).setCell ⟨p, 3, none⟩ d).cell? ⟨p, 2, none⟩ = some c := by
  obtain ⟨T, h⟩ := h
  exact (h.put a b c d).cell2
theorem qua_set3 {w : World} {p : Nat} {u v x y : Value} (h : Hid (∃ T, Qua w p T u v x y)) (a b c d : Value) : ((((w.setCell ⟨p, 0, none⟩ a).setCell ⟨p, 1, none⟩ b).setCell ⟨p, 2, none⟩ c).setCell ⟨p, 3, none⟩ d).cell? ⟨p, 3, none⟩ = some d := by
  obtain ⟨T, h⟩ := h
  exact (h.put a b c d).cell3
set_option maxHeartbeats 800000 in
theorem eqGreyTree_any (a1 a2 a3 a4 b1 b2 b3 b4 : Option Addr) (c1 c2 c3 c4 d1 d2 d3 d4 : Nat) (A B : Nat → Option Addr) (C D : Nat → Nat) (R : GT) (w : World) (hn : GtLen R) (ha : RowG w a1 a2 a3 a4 A C R) (hb : RowG w b1 b2 b3 b4 B D R) :
    Calls Tryz.prog 18 #[gtV a1 a2 a3 a4 c1 c2 c3 c4 R, gtV b1 b2 b3 b4 d1 d2 d3 d4 R] w fun e w' => e = .returned (.bool true) ∧ w.Ext w' := by
  obtain ⟨L, P, Q, N⟩ := R
  obtain ⟨n1, n2, n3, n4, n5⟩ := hn
  obtain ⟨x1, x2, x3, x4⟩ := ha
  obtain ⟨y1, y2, y3, y4⟩ := hb
  unfold gtV
  dsimp only at *
  have H1 := Lib.hid (fun w' (hx : w.Ext w') => eqInt64S_any a1 b1 c1 d1 L w' n1 (RowI.ext x1 hx) (RowI.ext y1 hx))
  have H2 := Lib.hid (fun w' (hx : w.Ext w') => eqInt64S_any a2 b2 c2 d2 P w' n2 (RowI.ext x2 hx) (RowI.ext y2 hx))
  have H3 := Lib.hid (fun w' (hx : w.Ext w') => eqInt64S_any a3 b3 c3 d3 Q w' n3 (RowI.ext x3 hx) (RowI.ext y3 hx))
  have H4 := Lib.hid (fun w' (hx : w.Ext w') => eqInt64SS_any a4 b4 c4 d4 A B C D N w' n4 n5 (x4.ext hx) (y4.ext hx))
  clear n1 n2 n3 n4 n5 x1 x2 x3 x4 y1 y2 y3 y4
  generalize L.length = l1 at *
  generalize P.length = l2 at *
  generalize Q.length = l3 at *
  generalize N.length = l4 at *
  go_enter Tryz.func18, Tryz.ntmps18
  go_wp2_with fail
  refine (H1.out _ (by repeat (first | exact World.Ext.refl _ | exact ⟨_, rfl⟩ | assumption | refine World.Ext.over ?_ _ | refine World.Ext.drewN ?_ _ | refine World.Ext.drew ?_ | refine World.Ext.alloc ?_ _ | refine World.Ext.setCell ?_ (by simp) _))).mono ?_
  rintro e w' ⟨rfl, x1, rfl⟩
  go_wp2_with fail
  refine (H2.out _ (by repeat (first | exact World.Ext.refl _ | exact ⟨_, rfl⟩ | assumption | refine World.Ext.over ?_ _ | refine World.Ext.drewN ?_ _ | refine World.Ext.drew ?_ | refine World.Ext.alloc ?_ _ | refine World.Ext.setCell ?_ (by simp) _))).mono ?_
  rintro e w' ⟨rfl, x2, rfl⟩
  go_wp2_with fail
  refine (H3.out _ (by repeat (first | exact World.Ext.refl _ | exact ⟨_, rfl⟩ | assumption | refine World.Ext.over ?_ _ | refine World.Ext.drewN ?_ _ | refine World.Ext.drew ?_ | refine World.Ext.alloc ?_ _ | refine World.Ext.setCell ?_ (by simp) _))).mono ?_
  rintro e w' ⟨rfl, x3, rfl⟩
  go_wp2_with fail
  refine (H4.out _ (by repeat (first | exact World.Ext.refl _ | exact ⟨_, rfl⟩ | assumption | refine World.Ext.over ?_ _ | refine World.Ext.drewN ?_ _ | refine World.Ext.drew ?_ | refine World.Ext.alloc ?_ _ | refine World.Ext.setCell ?_ (by simp) _))).mono ?_
  rintro e w' ⟨rfl, x4, rfl⟩
  go_wp2
  go_ret
  refine ⟨rfl, ?_⟩
  repeat (first | exact World.Ext.refl _ | exact ⟨_, rfl⟩ | assumption | refine World.Ext.over ?_ _ | refine World.Ext.drewN ?_ _ | refine World.Ext.drew ?_ | refine World.Ext.alloc ?_ _ | refine World.Ext.setCell ?_ (by simp) _)
theorem eqGreyTree_ok (a1 a2 a3 a4 b1 b2 b3 b4 : Option Addr) (c1 c2 c3 c4 d1 d2 d3 d4 : Nat) (A B : Nat → Option Addr) (C D : Nat → Nat) (R : GT) (w : World) (hn : GtBnd R) (ha : RowG w a1 a2 a3 a4 A C R) (hb : RowG w b1 b2 b3 b4 B D R) :
    Calls Tryz.prog 18 #[gtV a1 a2 a3 a4 c1 c2 c3 c4 R, gtV b1 b2 b3 b4 d1 d2 d3 d4 R] w fun e w' => e = .returned (.bool true) ∧ w.Ext w' :=
  eqGreyTree_any a1 a2 a3 a4 b1 b2 b3 b4 c1 c2 c3 c4 d1 d2 d3 d4 A B C D R w ⟨Nat.le_trans hn.1 (by unfold maxLen; omega), Nat.le_trans hn.2.1 (by unfold maxLen; omega), Nat.le_trans hn.2.2.1 (by unfold maxLen; omega), Nat.le_trans hn.2.2.2.1 (by unfold maxLen; omega), fun r => Nat.le_trans (hn.2.2.2.2 r) (by unfold maxLen; omega)⟩ ha hb
theorem eqGreyTree_res (a1 a2 a3 a4 b1 b2 b3 b4 : Option Addr) (c1 c2 c3 c4 d1 d2 d3 d4 : Nat) (A B : Nat → Option Addr) (C D : Nat → Nat) (R : GT) (w : World) (hn : GtBnd R ∧ cntG R ≤ 1048576) (ha : RowG w a1 a2 a3 a4 A C R) (hb : RowG w b1 b2 b3 b4 B D R) :
    Calls Tryz.prog 18 #[gtV a1 a2 a3 a4 c1 c2 c3 c4 R, gtV b1 b2 b3 b4 d1 d2 d3 d4 R] w fun e w' => e = .returned (.bool true) ∧ w.Ext w' := eqGreyTree_ok a1 a2 a3 a4 b1 b2 b3 b4 c1 c2 c3 c4 d1 d2 d3 d4 A B C D R w hn.1 ha hb
theorem szGT_next {left : Int} {n : Nat} (h : 0 ≤ szS left n) : (n : Int) ≤ left ∧ szS left n = left - n := by
  unfold szS at h ⊢
  split at h
  · omega
  · rename_i h2
    rw [if_neg h2]
    omega
set_option maxHeartbeats 800000 in
theorem szGreyTree_ok (a1 a2 a3 a4 : Option Addr) (c1 c2 c3 c4 : Nat) (A : Nat → Option Addr) (C : Nat → Nat) (R : GT) (left : Int) (w : World) (hl : 0 ≤ left) (hl2 : left ≤ 1048576) (hm : RowG w a1 a2 a3 a4 A C R) (hn : GtLen R) :
    Calls Tryz.prog 14 #[gtV a1 a2 a3 a4 c1 c2 c3 c4 R, .int .i64 left] w fun e w' => ∃ z : Int, e = .returned (.int .i64 z) ∧ w.Ext w' ∧ z ≤ left ∧ (0 ≤ z → GtBnd R ∧ z + cntG R ≤ left) := by
  obtain ⟨L, P, Q, N⟩ := R
  obtain ⟨n1, n2, n3, n4, n5⟩ := hn
  obtain ⟨x1, x2, x3, x4⟩ := hm
  unfold gtV cntG GtBnd
  dsimp only at *
  have H1 := Lib.hid (fun w' => szInt64S_any a1 L.length c1 left w' hl hl2 n1)
  have H2 := Lib.hid (fun w' z (h0 : 0 ≤ z) (h1 : z ≤ 1048576) => szInt64S_any a2 P.length c2 z w' h0 h1 n2)
  have H3 := Lib.hid (fun w' z (h0 : 0 ≤ z) (h1 : z ≤ 1048576) => szInt64S_any a3 Q.length c3 z w' h0 h1 n3)
  have H4 := Lib.hid (fun w' z (h0 : 0 ≤ z) (h1 : z ≤ 1048576) (hx : w.Ext w') => szInt64SS_any a4 c4 A C N z w' h0 h1 n4 (x4.ext hx) n5)
  have HB := Lib.hid (fun (z y : Int) (h1 : z ≤ 1048576) (h : szSS z (N.map List.length) = y) => szM_bounds (m := N) h1 h)
  have HH := Lib.hid (fun (z : Int) (h1 : 0 ≤ z) => szM_hi (m := N) (left := z) h1)
  clear n1 n2 n3 n4 n5 x1 x2 x3 x4
  generalize offM N N.length = l5 at *
  generalize L.length = l1 at *
  generalize P.length = l2 at *
  generalize Q.length = l3 at *
  generalize N.length = l4 at *
  have s1 : szS left l1 ≤ left := by unfold szS; split <;> omega
  by_cases g1 : szS left l1 < 0
  · have HG : Hid (szS left l1 ≤ left ∧ ¬ 0 ≤ szS left l1) := ⟨s1, by omega⟩
    clear s1
    generalize szS left l1 = z1 at *
    go_enter Tryz.func14, Tryz.ntmps14
    go_wp2_with fail
    refine (H1.out _).mono ?_
    rintro e w' ⟨rfl, x1, rfl⟩
    go_wp2
    go_ret
    exact ⟨-1, rfl, by repeat (first | exact World.Ext.refl _ | exact ⟨_, rfl⟩ | assumption | refine World.Ext.over ?_ _ | refine World.Ext.drewN ?_ _ | refine World.Ext.drew ?_ | refine World.Ext.alloc ?_ _ | refine World.Ext.setCell ?_ (by simp) _), by omega, fun h => by omega⟩
  obtain ⟨t1, t1'⟩ := szGT_next (show 0 ≤ szS left l1 by omega)
  rw [t1'] at H1 g1
  clear t1' s1
  generalize hz1 : left - (l1 : Int) = z1 at *
  have s2 : szS z1 l2 ≤ z1 := by unfold szS; split <;> omega
  by_cases g2 : szS z1 l2 < 0
  · have HZ := Lib.hid hz1
    have H2' := Lib.hid (fun w' => H2.out w' z1 (by omega) (by omega))
    clear s2 hz1 H2
    generalize szS z1 l2 = z2 at *
    go_enter Tryz.func14, Tryz.ntmps14
    go_wp2_with fail
    refine (H1.out _).mono ?_
    rintro e w' ⟨rfl, x1, rfl⟩
    go_wp2_with fail
    refine (H2'.out _).mono ?_
    rintro e w' ⟨rfl, x2, rfl⟩
    go_wp2
    go_ret
    exact ⟨-1, rfl, by repeat (first | exact World.Ext.refl _ | exact ⟨_, rfl⟩ | assumption | refine World.Ext.over ?_ _ | refine World.Ext.drewN ?_ _ | refine World.Ext.drew ?_ | refine World.Ext.alloc ?_ _ | refine World.Ext.setCell ?_ (by simp) _), by omega, fun h => by omega⟩
  obtain ⟨t2, t2'⟩ := szGT_next (show 0 ≤ szS z1 l2 by omega)
  have H2' := Lib.hid (fun w' => H2.out w' z1 (by omega) (by omega))
  rw [t2'] at H2' g2
  clear t2' s2 H2
  generalize hz2 : z1 - (l2 : Int) = z2 at *
  have s3 : szS z2 l3 ≤ z2 := by unfold szS; split <;> omega
  by_cases g3 : szS z2 l3 < 0
  · have HZ := Lib.hid (And.intro hz1 hz2)
    have H3' := Lib.hid (fun w' => H3.out w' z2 (by omega) (by omega))
    clear s3 hz1 hz2 H3
    generalize szS z2 l3 = z3 at *
    go_enter Tryz.func14, Tryz.ntmps14
    go_wp2_with fail
    refine (H1.out _).mono ?_
    rintro e w' ⟨rfl, x1, rfl⟩
    go_wp2_with fail
    refine (H2'.out _).mono ?_
    rintro e w' ⟨rfl, x2, rfl⟩
    go_wp2_with fail
    refine (H3'.out _).mono ?_
    rintro e w' ⟨rfl, x3, rfl⟩
    go_wp2
    go_ret
    exact ⟨-1, rfl, by repeat (first | exact World.Ext.refl _ | exact ⟨_, rfl⟩ | assumption | refine World.Ext.over ?_ _ | refine World.Ext.drewN ?_ _ | refine World.Ext.drew ?_ | refine World.Ext.alloc ?_ _ | refine World.Ext.setCell ?_ (by simp) _), by omega, fun h => by omega⟩
  obtain ⟨t3, t3'⟩ := szGT_next (show 0 ≤ szS z2 l3 by omega)
  have H3' := Lib.hid (fun w' => H3.out w' z2 (by omega) (by omega))
  rw [t3'] at H3' g3
  clear t3' s3 H3
  generalize hz3 : z2 - (l3 : Int) = z3 at *
  have s4 := HH.out z3 (by omega)
  have H4' := Lib.hid (fun w' hx => H4.out w' z3 (by omega) (by omega) hx)
  have HB' := Lib.hid (HB.out z3 _ (by omega) rfl)
  have HZ : Hid (left = z3 + l1 + l2 + l3 ∧ 0 ≤ z3 ∧ left ≤ 1048576) := ⟨by omega, by omega, by omega⟩
  clear hz1 hz2 hz3 H4 HB HH t1 t2 t3 hl hl2
  generalize szSS z3 (N.map List.length) = z4 at *
  by_cases g4 : z4 < 0
  all_goals
    go_enter Tryz.func14, Tryz.ntmps14
    go_wp2_with fail
    refine (H1.out _).mono ?_
    rintro e w' ⟨rfl, x1, rfl⟩
    go_wp2_with fail
    refine (H2'.out _).mono ?_
    rintro e w' ⟨rfl, x2, rfl⟩
    go_wp2_with fail
    refine (H3'.out _).mono ?_
    rintro e w' ⟨rfl, x3, rfl⟩
    go_wp2_with fail
    refine (H4'.out _ (by repeat (first | exact World.Ext.refl _ | exact ⟨_, rfl⟩ | assumption | refine World.Ext.over ?_ _ | refine World.Ext.drewN ?_ _ | refine World.Ext.drew ?_ | refine World.Ext.alloc ?_ _ | refine World.Ext.setCell ?_ (by simp) _))).mono ?_
    rintro e w' ⟨rfl, x4, rfl⟩
    go_wp2
    go_ret
  · obtain ⟨q1, q2, q3⟩ := HZ.out
    exact ⟨-1, rfl, by repeat (first | exact World.Ext.refl _ | exact ⟨_, rfl⟩ | assumption | refine World.Ext.over ?_ _ | refine World.Ext.drewN ?_ _ | refine World.Ext.drew ?_ | refine World.Ext.alloc ?_ _ | refine World.Ext.setCell ?_ (by simp) _), by omega, fun h => by omega⟩
  · obtain ⟨q1, q2, q3⟩ := HZ.out
    refine ⟨z4, rfl, by repeat (first | exact World.Ext.refl _ | exact ⟨_, rfl⟩ | assumption | refine World.Ext.over ?_ _ | refine World.Ext.drewN ?_ _ | refine World.Ext.drew ?_ | refine World.Ext.alloc ?_ _ | refine World.Ext.setCell ?_ (by simp) _), by omega, fun h => ?_⟩
    obtain ⟨b1, b2⟩ := HB'.out h
    exact ⟨⟨by omega, by omega, by omega, b1⟩, by omega⟩
set_option maxHeartbeats 1600000 in
theorem markGreyTree_ok (a1 a2 a3 a4 : Option Addr) (c1 c2 c3 c4 : Nat) (A : Nat → Option Addr) (C : Nat → Nat) (R : GT) (k0 lo hi : Nat) (w : World) (hn : GtBnd R) (h1 : k0 ≤ 2097152 ∧ cntG R ≤ 1048576 ∧ hi ≤ w.heap.size) (ha : OwnG lo hi w a1 a2 a3 a4 A C R) :
    Calls Tryz.prog 19 #[gtV a1 a2 a3 a4 c1 c2 c3 c4 R, .int .i64 k0] w fun e w' => e = .returned (.int .i64 (k0 + cntG R : Nat)) ∧ Wrote (fun b => lo ≤ b ∧ b < hi) w w' ∧ OwnG lo hi w' a1 a2 a3 a4 A C (marksG k0 R) := by
  obtain ⟨L, P, Q, N⟩ := R
  obtain ⟨n1, n2, n3, n4, n5⟩ := hn
  obtain ⟨d1, d2, d3, mid, m1, m2, o1, o2, o3, o4⟩ := ha
  obtain ⟨h1, h2, h3⟩ := h1
  unfold gtV OwnG marksG
  unfold cntG at h2 ⊢
  dsimp only at *
  obtain ⟨W0, hW0⟩ : ∃ W0, W0 = w.alloc (.cells #[.slice a1 L.length c1, .slice a2 P.length c2, .slice a3 Q.length c3, .slice a4 N.length c4] 44) := ⟨_, rfl⟩
  have hx0 : w.Ext W0 := by rw [hW0]; repeat (first | exact World.Ext.refl _ | exact ⟨_, rfl⟩ | assumption | refine World.Ext.over ?_ _ | refine World.Ext.drewN ?_ _ | refine World.Ext.drew ?_ | refine World.Ext.alloc ?_ _ | refine World.Ext.setCell ?_ (by simp) _)
  have qb : Qua W0 w.heap.size 44 (.slice a1 L.length c1) (.slice a2 P.length c2) (.slice a3 Q.length c3) (.slice a4 N.length c4) := by rw [hW0]; exact Qua.new _ _ _ _ _ _ _ rfl
  have H1 := Lib.hid (markInt64S_any a1 c1 L (k0 : Nat) lo mid W0 n1 (by omega) (by omega) (o1.ext hx0))
  have H2 := Lib.hid (fun w' hm => markInt64S_any a2 c2 P (k0 + L.length : Nat) lo mid w' n2 (by omega) (by omega) hm)
  have H3 := Lib.hid (fun w' hm => markInt64S_any a3 c3 Q (k0 + L.length + P.length : Nat) lo mid w' n3 (by omega) (by omega) hm)
  have H4 := Lib.hid (fun w' hm => markInt64SS_any a4 c4 A C N (k0 + L.length + P.length + Q.length : Nat) mid hi w' n4 n5 (by omega) (by omega) hm)
  have O2 := Lib.hid (o2.ext hx0)
  have O3 := Lib.hid (o3.ext hx0)
  have O4 := Lib.hid (o4.ext hx0)
  have QB := Lib.hid qb
  have HX0 := Lib.hid hx0
  have D1 := Lib.hid d1
  have D2 := Lib.hid d2
  have D3 := Lib.hid d3
  have c0 := qb.cell0
  have lq := qb.lt
  have hsz : Hid (w.heap.size < W0.heap.size) := lq
  clear n1 n2 n3 n4 n5 o1 o2 o3 o4 qb hx0 d1 d2 d3
  go_enter Tryz.func19, Tryz.ntmps19
  go_wp2_with fail
  rw [← hW0]
  clear hW0 c0
  refine H1.out.mono ?_
  rintro e w1 ⟨rfl, hw, ho⟩
  have hW1 : Hid (Wrote (fun b => lo ≤ b ∧ b < hi) W0 w1) := hw.mono fun k _ h => ⟨h.1, by omega⟩
  have O1 := Lib.hid ho
  have QB1 := Lib.hid (QB.out.keep (hw.block _ QB.out.lt fun h => by omega))
  have O21 := Lib.hid (OwnOf.wroteAt O2.out hw fun b o e => fun ⟨_, _, o', e'⟩ => D1.out _ _ e' _ e)
  have O31 := Lib.hid (OwnOf.wroteAt O3.out hw fun b o e => fun ⟨_, _, o', e'⟩ => D2.out _ _ e' _ e)
  have O41 := Lib.hid (O4.out.wrote hw fun k q1 q2 h => by omega)
  have c1_ := QB1.out.cell1
  clear hw ho O2 O3 O4 QB H1
  simp only [← Int.natCast_add]
  go_wp2_with fail
  refine (H2.out _ O21.out).mono ?_
  rintro e w2 ⟨rfl, hw, ho⟩
  have hW2 : Hid (Wrote (fun b => lo ≤ b ∧ b < hi) W0 w2) := hW1.out.trans (hw.mono fun k _ h => ⟨h.1, by omega⟩)
  have O22 := Lib.hid ho
  have QB2 := Lib.hid (QB1.out.keep (hw.block _ QB1.out.lt fun h => by omega))
  have O12 := Lib.hid (OwnOf.wroteAt O1.out hw fun b o e => fun ⟨_, _, o', e'⟩ => D1.out.symm _ _ e' _ e)
  have O32 := Lib.hid (OwnOf.wroteAt O31.out hw fun b o e => fun ⟨_, _, o', e'⟩ => D3.out _ _ e' _ e)
  have O42 := Lib.hid (O41.out.wrote hw fun k q1 q2 h => by omega)
  have c2_ := QB2.out.cell2
  clear hw ho O1 O21 O31 O41 QB1 c1_ hW1 H2
  simp only [← Int.natCast_add]
  go_wp2_with fail
  refine (H3.out _ O32.out).mono ?_
  rintro e w3 ⟨rfl, hw, ho⟩
  have hW3 : Hid (Wrote (fun b => lo ≤ b ∧ b < hi) W0 w3) := hW2.out.trans (hw.mono fun k _ h => ⟨h.1, by omega⟩)
  have O33 := Lib.hid ho
  have QB3 := Lib.hid (QB2.out.keep (hw.block _ QB2.out.lt fun h => by omega))
  have O13 := Lib.hid (OwnOf.wroteAt O12.out hw fun b o e => fun ⟨_, _, o', e'⟩ => D2.out.symm _ _ e' _ e)
  have O23 := Lib.hid (OwnOf.wroteAt O22.out hw fun b o e => fun ⟨_, _, o', e'⟩ => D3.out.symm _ _ e' _ e)
  have O43 := Lib.hid (O42.out.wrote hw fun k q1 q2 h => by omega)
  have c3_ := QB3.out.cell3
  clear hw ho O12 O22 O32 O42 QB2 c2_ hW2 H3
  simp only [← Int.natCast_add]
  go_wp2_with fail
  refine (H4.out _ O43.out).mono ?_
  rintro e w4 ⟨rfl, hw, ho⟩
  have hW4 : Hid (Wrote (fun b => lo ≤ b ∧ b < hi) w w4) := (HX0.out.wrote _).trans (hW3.out.trans (hw.mono fun k _ h => ⟨by omega, h.2⟩))
  have O44 := Lib.hid ho
  have O14 := Lib.hid (OwnOf.wrote O13.out hw fun k q1 q2 h => by omega)
  have O24 := Lib.hid (OwnOf.wrote O23.out hw fun k q1 q2 h => by omega)
  have O34 := Lib.hid (OwnOf.wrote O33.out hw fun k q1 q2 h => by omega)
  clear hw ho O13 O23 O33 O43 QB3 c3_ hW3 H4
  simp only [← Int.natCast_add]
  go_wp2
  go_ret
  exact ⟨ret_int (by omega), hW4.out, D1.out, D2.out, D3.out, mid, m1, m2, O14.out, O24.out, O34.out, O44.out⟩
theorem markGreyTree_res (a1 a2 a3 a4 : Option Addr) (c1 c2 c3 c4 : Nat) (A : Nat → Option Addr) (C : Nat → Nat) (R : GT) (k0 lo hi : Nat) (w : World) (hn : GtBnd R ∧ cntG R ≤ 1048576) (h1 : k0 ≤ 2097152 ∧ hi ≤ w.heap.size) (ha : OwnG lo hi w a1 a2 a3 a4 A C R) :
    Calls Tryz.prog 19 #[gtV a1 a2 a3 a4 c1 c2 c3 c4 R, .int .i64 k0] w fun e w' => e = .returned (.int .i64 (k0 + cntG R : Nat)) ∧ Wrote (fun b => lo ≤ b ∧ b < hi) w w' ∧ OwnG lo hi w' a1 a2 a3 a4 A C (marksG k0 R) := markGreyTree_ok a1 a2 a3 a4 c1 c2 c3 c4 A C R k0 lo hi w hn.1 ⟨h1.1, hn.2, h1.2⟩ ha
set_option maxRecDepth 5000 in
set_option maxHeartbeats 1600000 in
theorem toGreyTree_ok (a1 a2 a3 a4 : Option Addr) (c1 c2 c3 c4 : Nat) (A : Nat → Option Addr) (C : Nat → Nat) (R : GT) (w : World) (hn : GtBnd R) (hm : RowG w a1 a2 a3 a4 A C R) :
    Calls Tryz.prog 16 #[gtV a1 a2 a3 a4 c1 c2 c3 c4 R] w fun e w' => ∃ g1 g2 g3 g4 A' C', e = .returned (gtV (some ⟨g1, 0, none⟩) (some ⟨g2, 0, none⟩) (some ⟨g3, 0, none⟩) (some ⟨g4, 0, none⟩) R.1.length R.2.1.length R.2.2.1.length R.2.2.2.length R) ∧ w.Ext w' ∧ OwnG w.heap.size w'.heap.size w' (some ⟨g1, 0, none⟩) (some ⟨g2, 0, none⟩) (some ⟨g3, 0, none⟩) (some ⟨g4, 0, none⟩) A' C' R := by
  obtain ⟨L, P, Q, N⟩ := R
  obtain ⟨n1, n2, n3, n4, n5⟩ := hn
  obtain ⟨x1, x2, x3, x4⟩ := hm
  unfold gtV
  dsimp only at *
  have H1 := Lib.hid (fun w' (hx : w.Ext w') => toInt64S_any a1 c1 L w' n1 (RowI.ext x1 hx))
  have H2 := Lib.hid (fun w' (hx : w.Ext w') => toInt64S_any a2 c2 P w' n2 (RowI.ext x2 hx))
  have H3 := Lib.hid (fun w' (hx : w.Ext w') => toInt64S_any a3 c3 Q w' n3 (RowI.ext x3 hx))
  have H4 := Lib.hid (fun w' (hx : w.Ext w') => toInt64SS_any a4 c4 A C N w' n4 n5 (x4.ext hx))
  obtain ⟨W0, hW0⟩ : ∃ W0, W0 = ((w.alloc (.cells #[.slice a1 L.length c1, .slice a2 P.length c2, .slice a3 Q.length c3, .slice a4 N.length c4] 40)).alloc (.cells #[.slice none 0 0, .slice none 0 0, .slice none 0 0, .slice none 0 0] 44)).alloc (.cells #[.slice none 0 0, .slice none 0 0, .slice none 0 0, .slice none 0 0] 44) := ⟨_, rfl⟩
  have hx0 : w.Ext W0 := by rw [hW0]; repeat (first | exact World.Ext.refl _ | exact ⟨_, rfl⟩ | assumption | refine World.Ext.over ?_ _ | refine World.Ext.drewN ?_ _ | refine World.Ext.drew ?_ | refine World.Ext.alloc ?_ _ | refine World.Ext.setCell ?_ (by simp) _)
  have qb : Hid (Qua W0 w.heap.size 40 (.slice a1 L.length c1) (.slice a2 P.length c2) (.slice a3 Q.length c3) (.slice a4 N.length c4)) := by rw [hW0]; exact ((Qua.new _ _ _ _ _ _ _ rfl).ext (by repeat (first | exact World.Ext.refl _ | exact ⟨_, rfl⟩ | assumption | refine World.Ext.over ?_ _ | refine World.Ext.drewN ?_ _ | refine World.Ext.drew ?_ | refine World.Ext.alloc ?_ _ | refine World.Ext.setCell ?_ (by simp) _))).ext (by repeat (first | exact World.Ext.refl _ | exact ⟨_, rfl⟩ | assumption | refine World.Ext.over ?_ _ | refine World.Ext.drewN ?_ _ | refine World.Ext.drew ?_ | refine World.Ext.alloc ?_ _ | refine World.Ext.setCell ?_ (by simp) _))
  have qr : Hid (Qua W0 (w.heap.size + 1) 44 (.slice none 0 0) (.slice none 0 0) (.slice none 0 0) (.slice none 0 0)) := by rw [hW0]; refine Qua.ext (w := (w.alloc (.cells #[.slice a1 L.length c1, .slice a2 P.length c2, .slice a3 Q.length c3, .slice a4 N.length c4] 40)).alloc (.cells #[.slice none 0 0, .slice none 0 0, .slice none 0 0, .slice none 0 0] 44)) ?_ (by repeat (first | exact World.Ext.refl _ | exact ⟨_, rfl⟩ | assumption | refine World.Ext.over ?_ _ | refine World.Ext.drewN ?_ _ | refine World.Ext.drew ?_ | refine World.Ext.alloc ?_ _ | refine World.Ext.setCell ?_ (by simp) _)); exact Qua.new _ _ _ _ _ _ _ (by simp)
  have qo : Hid (Qua W0 (w.heap.size + 1 + 1) 44 (.slice none 0 0) (.slice none 0 0) (.slice none 0 0) (.slice none 0 0)) := by rw [hW0]; exact Qua.new _ _ _ _ _ _ _ (by simp)
  have HX0 := Lib.hid hx0
  clear n1 n2 n3 n4 n5 x1 x2 x3 x4 hx0
  go_enter Tryz.func16, Tryz.ntmps16
  go_wp2_with fail
  rw [← hW0]
  clear hW0
  have k0 := qb.out.cell0
  have lk0 := qb.out.lt
  go_wp2_with fail
  clear k0 lk0
  refine (H1.out W0 HX0.out).mono ?_
  rintro e w1 ⟨g1, rfl, hx1, hl1, hb1⟩
  obtain ⟨s1, hs1⟩ : ∃ s, s = w1.setCell ⟨w.heap.size + 1 + 1, 0, none⟩ (.slice (some ⟨g1, 0, none⟩) L.length L.length) := ⟨_, rfl⟩
  have qo1 := qo.out.ext hx1
  have u1 := qo1.cell0
  have uf1 := qo1.free 0
  have ul1 := qo1.lt
  have hw1 : Wrote (fun b => b = w.heap.size + 1 + 1) w1 s1 := by rw [hs1]; exact (Wrote.refl (fun b => b = w.heap.size + 1 + 1) _).setCell (p := ⟨w.heap.size + 1 + 1, 0, none⟩) rfl _
  have hz1 : W0.heap.size ≤ w1.heap.size := hx1.size
  have hy1 : w1.heap.size ≤ s1.heap.size := hw1.size
  have hg1 : w.heap.size + 1 + 1 < g1 := by have := qo.out.lt; omega
  replace hb1 := hb1.keep (hw1.block _ hb1.lt (by omega))
  have HX1 : Hid (w.Ext s1) := by rw [hs1]; exact (HX0.out.trans hx1).setCell (show w.heap.size ≤ w.heap.size + 1 + 1 by omega) _
  clear HX0
  have HX0 := HX1
  clear HX1
  have qb1 := Lib.hid ((qb.out.ext hx1).keep (hw1.block _ (by have := qb.out.lt; omega) (by omega)))
  have qr1 := Lib.hid ((qr.out.ext hx1).keep (hw1.block _ (by have := qr.out.lt; omega) (by omega)))
  have qp1 : Hid (Qua s1 (w.heap.size + 1 + 1) 44 (.slice (some ⟨g1, 0, none⟩) L.length L.length) (.slice none 0 0) (.slice none 0 0) (.slice none 0 0)) := by rw [hs1]; exact qo1.set0 _
  clear qb qr qo qo1 H1
  have qb := qb1
  have qr := qr1
  have qo := qp1
  clear qb1 qr1 qp1
  go_upto_region 3 with fail
  rw [← hs1]
  clear hs1 u1 uf1 ul1
  have k1 := qb.out.cell1
  have lk1 := qb.out.lt
  go_wp2_with fail
  clear k1 lk1
  refine (H2.out s1 HX0.out).mono ?_
  rintro e w2 ⟨g2, rfl, hx2, hl2, hb2⟩
  obtain ⟨s2, hs2⟩ : ∃ s, s = w2.setCell ⟨w.heap.size + 1 + 1, 1, none⟩ (.slice (some ⟨g2, 0, none⟩) P.length P.length) := ⟨_, rfl⟩
  have qo2 := qo.out.ext hx2
  have u2 := qo2.cell1
  have uf2 := qo2.free 1
  have ul2 := qo2.lt
  have hw2 : Wrote (fun b => b = w.heap.size + 1 + 1) w2 s2 := by rw [hs2]; exact (Wrote.refl (fun b => b = w.heap.size + 1 + 1) _).setCell (p := ⟨w.heap.size + 1 + 1, 1, none⟩) rfl _
  have hz2 : s1.heap.size ≤ w2.heap.size := hx2.size
  have hy2 : w2.heap.size ≤ s2.heap.size := hw2.size
  have hd12 : g1 < g2 := by have := hb1.lt; omega
  replace hb1 := (hb1.ext hx2).keep (hw2.block _ (by have := hb1.lt; omega) (by have := hb1.lt; omega))
  have hg2 : w.heap.size + 1 + 1 < g2 := by have := qo.out.lt; omega
  replace hb2 := hb2.keep (hw2.block _ hb2.lt (by omega))
  have HX2 : Hid (w.Ext s2) := by rw [hs2]; exact (HX0.out.trans hx2).setCell (show w.heap.size ≤ w.heap.size + 1 + 1 by omega) _
  clear HX0
  have HX0 := HX2
  clear HX2
  have qb2 := Lib.hid ((qb.out.ext hx2).keep (hw2.block _ (by have := qb.out.lt; omega) (by omega)))
  have qr2 := Lib.hid ((qr.out.ext hx2).keep (hw2.block _ (by have := qr.out.lt; omega) (by omega)))
  have qp2 : Hid (Qua s2 (w.heap.size + 1 + 1) 44 (.slice (some ⟨g1, 0, none⟩) L.length L.length) (.slice (some ⟨g2, 0, none⟩) P.length P.length) (.slice none 0 0) (.slice none 0 0)) := by rw [hs2]; exact qo2.set1 _
  clear qb qr qo qo2 H2
  have qb := qb2
  have qr := qr2
  have qo := qp2
  clear qb2 qr2 qp2
  go_upto_region 4 with fail
  rw [← hs2]
  clear hs2 u2 uf2 ul2
  have k2 := qb.out.cell2
  have lk2 := qb.out.lt
  go_wp2_with fail
  clear k2 lk2
  refine (H3.out s2 HX0.out).mono ?_
  rintro e w3 ⟨g3, rfl, hx3, hl3, hb3⟩
  obtain ⟨s3, hs3⟩ : ∃ s, s = w3.setCell ⟨w.heap.size + 1 + 1, 2, none⟩ (.slice (some ⟨g3, 0, none⟩) Q.length Q.length) := ⟨_, rfl⟩
  have qo3 := qo.out.ext hx3
  have u3 := qo3.cell2
  have uf3 := qo3.free 2
  have ul3 := qo3.lt
  have hw3 : Wrote (fun b => b = w.heap.size + 1 + 1) w3 s3 := by rw [hs3]; exact (Wrote.refl (fun b => b = w.heap.size + 1 + 1) _).setCell (p := ⟨w.heap.size + 1 + 1, 2, none⟩) rfl _
  have hz3 : s2.heap.size ≤ w3.heap.size := hx3.size
  have hy3 : w3.heap.size ≤ s3.heap.size := hw3.size
  have hd13 : g1 < g3 := by have := hb1.lt; omega
  replace hb1 := (hb1.ext hx3).keep (hw3.block _ (by have := hb1.lt; omega) (by have := hb1.lt; omega))
  have hd23 : g2 < g3 := by have := hb2.lt; omega
  replace hb2 := (hb2.ext hx3).keep (hw3.block _ (by have := hb2.lt; omega) (by have := hb2.lt; omega))
  have hg3 : w.heap.size + 1 + 1 < g3 := by have := qo.out.lt; omega
  replace hb3 := hb3.keep (hw3.block _ hb3.lt (by omega))
  have HX3 : Hid (w.Ext s3) := by rw [hs3]; exact (HX0.out.trans hx3).setCell (show w.heap.size ≤ w.heap.size + 1 + 1 by omega) _
  clear HX0
  have HX0 := HX3
  clear HX3
  have qb3 := Lib.hid ((qb.out.ext hx3).keep (hw3.block _ (by have := qb.out.lt; omega) (by omega)))
  have qr3 := Lib.hid ((qr.out.ext hx3).keep (hw3.block _ (by have := qr.out.lt; omega) (by omega)))
  have qp3 : Hid (Qua s3 (w.heap.size + 1 + 1) 44 (.slice (some ⟨g1, 0, none⟩) L.length L.length) (.slice (some ⟨g2, 0, none⟩) P.length P.length) (.slice (some ⟨g3, 0, none⟩) Q.length Q.length) (.slice none 0 0)) := by rw [hs3]; exact qo3.set2 _
  clear qb qr qo qo3 H3
  have qb := qb3
  have qr := qr3
  have qo := qp3
  clear qb3 qr3 qp3
  go_upto_region 5 with fail
  rw [← hs3]
  clear hs3 u3 uf3 ul3
  have k3 := qb.out.cell3
  have lk3 := qb.out.lt
  go_wp2_with fail
  clear k3 lk3
  refine (H4.out s3 HX0.out).mono ?_
  rintro e w4 ⟨g4, G4, rfl, hS4⟩
  have hx4 := hS4.ext
  have ho4 := hS4.own
  obtain ⟨s4, hs4⟩ : ∃ s, s = w4.setCell ⟨w.heap.size + 1 + 1, 3, none⟩ (.slice (some ⟨g4, 0, none⟩) N.length N.length) := ⟨_, rfl⟩
  have qo4 := qo.out.ext hx4
  have u4 := qo4.cell3
  have uf4 := qo4.free 3
  have ul4 := qo4.lt
  have hw4 : Wrote (fun b => b = w.heap.size + 1 + 1) w4 s4 := by rw [hs4]; exact (Wrote.refl (fun b => b = w.heap.size + 1 + 1) _).setCell (p := ⟨w.heap.size + 1 + 1, 3, none⟩) rfl _
  have hz4 : s3.heap.size ≤ w4.heap.size := hx4.size
  have hy4 : w4.heap.size ≤ s4.heap.size := hw4.size
  have ow1 := ((hb1.own (0 : Int) (lo := w.heap.size + 3) (by have := hg1; omega) (Nat.le_refl _)).ext hx4).wrote hw4 (fun k q1 q2 e => by have e : k = w.heap.size + 1 + 1 := e; omega)
  have ow2 := ((hb2.own (0 : Int) (lo := w.heap.size + 3) (by have := hg2; omega) (Nat.le_refl _)).ext hx4).wrote hw4 (fun k q1 q2 e => by have e : k = w.heap.size + 1 + 1 := e; omega)
  have ow3 := ((hb3.own (0 : Int) (lo := w.heap.size + 3) (by have := hg3; omega) (Nat.le_refl _)).ext hx4).wrote hw4 (fun k q1 q2 e => by have e : k = w.heap.size + 1 + 1 := e; omega)
  have HX4 : Hid (w.Ext s4) := by rw [hs4]; exact (HX0.out.trans hx4).setCell (show w.heap.size ≤ w.heap.size + 1 + 1 by omega) _
  clear HX0
  have HX0 := HX4
  clear HX4
  have qb4 := Lib.hid ((qb.out.ext hx4).keep (hw4.block _ (by have := qb.out.lt; omega) (by omega)))
  have qr4 := Lib.hid ((qr.out.ext hx4).keep (hw4.block _ (by have := qr.out.lt; omega) (by omega)))
  have qp4 : Hid (Qua s4 (w.heap.size + 1 + 1) 44 (.slice (some ⟨g1, 0, none⟩) L.length L.length) (.slice (some ⟨g2, 0, none⟩) P.length P.length) (.slice (some ⟨g3, 0, none⟩) Q.length Q.length) (.slice (some ⟨g4, 0, none⟩) N.length N.length)) := by rw [hs4]; exact qo4.set3 _
  clear qb qr qo qo4 H4
  have qb := qb4
  have qr := qr4
  have qo := qp4
  clear qb4 qr4 qp4
  go_upto_region 6 with fail
  rw [← hs4]
  clear hs4 u4 uf4 ul4
  have om4 := ho4.wrote hw4 (fun k q1 q2 e => by have e : k = w.heap.size + 1 + 1 := e; have := hb1.lt; omega)
  have hown : OwnG (w.heap.size + 3) s4.heap.size s4 (some ⟨g1, 0, none⟩) (some ⟨g2, 0, none⟩) (some ⟨g3, 0, none⟩) (some ⟨g4, 0, none⟩) _ _ (L, P, Q, N) :=
    ⟨(fun k o e o' e' => by cases e; cases e'; omega), (fun k o e o' e' => by cases e; cases e'; omega), (fun k o e o' e' => by cases e; cases e'; omega), s3.heap.size, by have := hb1.lt; omega, by omega, ow1, ow2, ow3, om4.mono (Nat.le_refl _) (by omega)⟩
  have q0 := qo.out.cell0
  have q1 := qo.out.cell1
  have q2 := qo.out.cell2
  have q3 := qo.out.cell3
  have ql := qo.out.lt
  have r0 := qr.out.cell0
  have r1 := qr.out.cell1
  have r2 := qr.out.cell2
  have r3 := qr.out.cell3
  have f0 := qr.out.free 0
  have f1 := qr.out.free 1
  have f2 := qr.out.free 2
  have f3 := qr.out.free 3
  have rl := qr.out.lt
  have hp := qr.out.put (.slice (some ⟨g1, 0, none⟩) L.length L.length) (.slice (some ⟨g2, 0, none⟩) P.length P.length) (.slice (some ⟨g3, 0, none⟩) Q.length Q.length) (.slice (some ⟨g4, 0, none⟩) N.length N.length)
  have p0 := hp.cell0
  have p1 := hp.cell1
  have p2 := hp.cell2
  have p3 := hp.cell3
  have HWF := Lib.hid (((((Wrote.refl (fun b => b = w.heap.size + 1) s4).setCell (p := ⟨w.heap.size + 1, 0, none⟩) rfl (.slice (some ⟨g1, 0, none⟩) L.length L.length)).setCell (p := ⟨w.heap.size + 1, 1, none⟩) rfl (.slice (some ⟨g2, 0, none⟩) P.length P.length)).setCell (p := ⟨w.heap.size + 1, 2, none⟩) rfl (.slice (some ⟨g3, 0, none⟩) Q.length Q.length)).setCell (p := ⟨w.heap.size + 1, 3, none⟩) rfl (.slice (some ⟨g4, 0, none⟩) N.length N.length))
  have HOW := Lib.hid hown
  clear hown om4 ow1 ow2 ow3 ho4 hp qo qr qb hS4 hx1 hx2 hx3 hx4 hw1 hw2 hw3 hw4 hb1 hb2 hb3 hz1 hz2 hz3 hz4 hy1 hy2 hy3 hy4 hg1 hg2 hg3
  go_wp2
  refine bodyPost_ret (v := gtV (some ⟨g1, 0, none⟩) (some ⟨g2, 0, none⟩) (some ⟨g3, 0, none⟩) (some ⟨g4, 0, none⟩) L.length P.length Q.length N.length (L, P, Q, N)) (by simp [results, Tryz.results16, go_sem, p0, p1, p2, p3, gtV]) rfl ?_
  exact ⟨g1, g2, g3, g4, _, _, rfl, HX0.out.wroteNew HWF.out (fun k hk e => by omega), (HOW.out.wrote HWF.out (fun k h1 h2 e => by omega)).mono (by omega) HWF.out.size⟩
end Go.Proofs.YtmmanehdmnkekaaGreat
