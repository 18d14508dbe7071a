/- The reference's lists of pixels; the other colours; a white edge; what is reached from one spot. -/
import Derived.Test.YtelaoimcaidoiaaRecP
namespace Go
open Go.RowKit
theorem GrowOf.atI {α : Type} {f : α → Value} {lo : Nat} {e : TypeId} {w : World} {v : Value} {xs : List α} (d : α) (h : GrowOf f lo e w v xs) {i : Nat} (hi : i < xs.length) :
    ∃ g cap, v = .slice (Option.some ⟨g, 0, none⟩) xs.length cap ∧ lo ≤ g ∧ w.cell? ⟨g, i, none⟩ = Option.some (f (xs.getD i d)) ∧ w.frozen? ⟨g, i, none⟩ = false ∧ ∀ x, GrowOf f lo e (w.setCell ⟨g, i, none⟩ (f x)) v (xs.set i x) := by
  obtain ⟨h1, h2⟩ := h
  rcases h2 with ⟨rfl, h0⟩ | ⟨g, cap, cur, rfl, hl, hh, hc, hm, hs, ht⟩
  · have : xs = [] := by simpa using h0
    rw [this] at hi
    cases hi
  · rw [Nat.mul_one] at ht hs
    have hic : i < cur.size := by omega
    refine ⟨g, cap, rfl, hl, ?_, by simp [World.frozen?, hh], fun x => ⟨by simp, .inr ⟨g, cap, cur.set i (f x) hic, by rw [List.length_set], hl, ?_, by simpa using hc, hm, by simpa using hs, ?_⟩⟩⟩
    · have e1 : cur.toList[i]? = Option.some (f (xs.getD i d)) := by
        have : (cur.toList.take xs.length)[i]? = (xs.map f)[i]? := by rw [ht]
        rw [List.getElem?_take, if_pos hi, List.getElem?_map, List.getElem?_eq_getElem hi] at this
        rw [this, List.getD_eq_getElem?_getD, List.getElem?_eq_getElem hi]
        rfl
      simp only [World.cell?, hh]
      simpa using e1
    · unfold World.setCell
      simp only [Array.getElem?_modify, if_true, hh]
      simp [Array.setIfInBounds, hic]
    · rw [Nat.mul_one, List.length_set, Array.toList_set, List.take_set, ht, List.map_set]
end Go
namespace Go.Proofs.Ytelaoimcaidoiaa
open Go.RowKit
/-- A list of pixels under way. -/
def BlSt (w : World) (v : Value) (l : List Bool) (wr : World) : Prop := w.Ext wr ∧ GrowOf Value.bool w.heap.size 4 wr v l
theorem BlSt.next {w w2 : World} {v : Value} {l l' : List Bool} {b : Bool} (h : BlSt w v l w2) (e : l' = l ++ [b]) {o : Obj} {v' : Value} {w1 : World} (hgrow : (w2.alloc o).grownBy w1 v.ownBlock)
    (hown : w1.ownsRow w.heap.size 4 1 v' (l.length + 1) (l.map Value.bool ++ [.bool b])) : BlSt w v' l' w1 := ⟨h.2.pushExt h.1 hgrow, by rw [e]; exact GrowOf.push hown⟩
theorem BlSt.ext {w w1 w2 : World} {v : Value} {l : List Bool} (h : BlSt w v l w1) (hx : w1.Ext w2) : BlSt w v l w2 := ⟨h.1.trans hx, h.2.ext hx⟩
theorem BlSt.start {w : World} : BlSt w (.slice (some ⟨w.heap.size, 0, none⟩) 0 0) [] (w.alloc (.cells #[] 4)) := ⟨by repeat (first | exact World.Ext.refl _ | exact ⟨_, rfl⟩ | assumption | refine World.Ext.over ?_ _ | refine World.Ext.drewN ?_ _ | refine World.Ext.drew ?_ | refine World.Ext.alloc ?_ _ | refine World.Ext.setCell ?_ (by simp) _), GrowOf.empty _ (Nat.le_refl _)⟩
/-- Of a list the first k turned. -/
def invTo (l : List Bool) (k : Nat) : List Bool := (l.take k).map (!·) ++ l.drop k
theorem invTo_len (l : List Bool) (k : Nat) : (invTo l k).length = l.length := by unfold invTo; simp; omega
theorem invTo_at {l : List Bool} {k : Nat} : (invTo l k).getD k false = l.getD k false := by
  unfold invTo
  by_cases h : k < l.length
  · have h1 : (List.map (!·) (l.take k)).length = k := by simp; omega
    rw [List.getD_eq_getElem?_getD, List.getElem?_append_right (by omega), h1, Nat.sub_self, List.getElem?_drop, Nat.add_zero, ← List.getD_eq_getElem?_getD]
  · rw [List.getD_eq_getElem?_getD, List.getD_eq_getElem?_getD, List.getElem?_eq_none (by simp; omega), List.getElem?_eq_none (by omega)]
theorem invTo_set {l : List Bool} {k : Nat} (h : k < l.length) : (invTo l k).set k (!(l.getD k false)) = invTo l (k + 1) := by
  unfold invTo
  have h1 : (List.map (!·) (l.take k)).length = k := by simp; omega
  have e2 : l.getD k false = l[k] := by rw [List.getD_eq_getElem?_getD, List.getElem?_eq_getElem h]; rfl
  rw [List.set_append_right _ _ (by omega), h1, Nat.sub_self, List.take_succ_eq_append_getElem h, List.map_append, List.append_assoc, List.drop_eq_getElem_cons h, List.set_cons_zero, e2]
  rfl
theorem invTo_all (l : List Bool) : invTo l l.length = l.map (!·) := by unfold invTo; simp
structure InvSt (w : World) (p g cap n : Nat) (l : List Bool) (wr : World) : Prop where
  x : w.Ext wr
  one : One wr p 26 (.slice none 0 0)
  grow : GrowOf Value.bool (w.heap.size + 1) 4 wr (.slice (some ⟨g, 0, none⟩) n cap) l
/-- A new picture behind a pointer is returned. -/
def PtrRet (w : World) (rows : List ByteArray) (e : Ending) (w' : World) : Prop :=
  ∃ p a c, e = .returned (.pointer (some ⟨p, 0, none⟩)) ∧ w.Ext w' ∧ w'.cell? ⟨p, 0, none⟩ = some (.slice a rows.length c) ∧ RowS w' a rows
/-- A picture's pixels with a white edge. -/
def padL (W H : Nat) (l : List Bool) : List Bool := mkl (W + 2) (H + 2) fun i j => pxl W H l ((i : Int) - 1) ((j : Int) - 1)
theorem padL_len (W H : Nat) (l : List Bool) : (padL W H l).length = (W + 2) * (H + 2) := by unfold padL; rw [mkl_len, Nat.mul_comm]
end Go.Proofs.Ytelaoimcaidoiaa
