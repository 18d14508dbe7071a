/- The lists of neighbours; black spots in reading order. -/
import Derived.Test.YtelaoimcaidoiaaReach
namespace Go.Proofs.Ytelaoimcaidoiaa
open Go.RowKit
theorem Try.infoSpotA : (Try.prog.info? 33).map (fun i => (i.zero, i.size, i.bytes)) = some (some (.agg #[.int .i64 0, .int .i64 0]), 2, 16) := by kernel_rfl
theorem GrowP.ret {w w' : World} {v : Value} {ps : List (Int × Int)} {T : TypeId} (hx : w.Ext w') (h : GrowP w.heap.size T w' v ps) : PairsRet w ps (.returned v) w' := by
  obtain ⟨a, c, rfl, _⟩ := h.form
  exact ⟨a, c, rfl, hx, h.own⟩
theorem four_cells (w : World) (vs : List Value) (e : TypeId) (p : Nat) (hp : p = w.heap.size) : ∀ (j : Nat) (u : Value), vs[j]? = some u → (w.alloc (.cells vs.toArray e)).cell? ((⟨p, 0, none⟩ : Addr).add j) = some u := by
  subst hp
  intro j u hj
  rw [Addr.add_mk, Nat.zero_add]
  have h := (MapKept.heap_alloc w (.cells vs.toArray e)).1
  unfold World.cell?
  rw [h]
  simpa using hj
def okStep (eight : Bool) (dx dy : Int) : Bool := (!(dx == 0) || !(dy == 0)) && (eight || dx == 0 || dy == 0)
def sp3 (p : Int → Int → Bool) (k : Nat) : List (Int × Int) := ((List.range k).filter fun i => p (((i % 3 : Nat) : Int) - 1) (((i / 3 : Nat) : Int) - 1)).map fun i => (((i % 3 : Nat) : Int) - 1, ((i / 3 : Nat) : Int) - 1)
theorem sp3_len (p : Int → Int → Bool) (k : Nat) : (sp3 p k).length ≤ k := by
  unfold sp3
  rw [List.length_map]
  exact Nat.le_trans (List.length_filter_le _ _) (by simp)
theorem sp3_no {p : Int → Int → Bool} {i j : Nat} (hi : i < 3) (h : p ((i : Int) - 1) ((j : Int) - 1) = false) : sp3 p (j * 3 + i + 1) = sp3 p (j * 3 + i) := by
  unfold sp3
  have e1 : (j * 3 + i) % 3 = i := by omega
  have e2 : (j * 3 + i) / 3 = j := by omega
  rw [List.range_succ, List.filter_append, List.filter_cons_of_neg (by rw [e1, e2, h]; decide), List.filter_nil, List.append_nil]
theorem sp3_yes {p : Int → Int → Bool} {i j : Nat} (hi : i < 3) (h : p ((i : Int) - 1) ((j : Int) - 1) = true) : sp3 p (j * 3 + i + 1) = sp3 p (j * 3 + i) ++ [((i : Int) - 1, (j : Int) - 1)] := by
  unfold sp3
  have e1 : (j * 3 + i) % 3 = i := by omega
  have e2 : (j * 3 + i) / 3 = j := by omega
  rw [List.range_succ, List.filter_append, List.filter_cons_of_pos (by rw [e1, e2, h]), List.filter_nil, List.map_append, List.map_cons, List.map_nil, e1, e2]
def arTo (eight : Bool) (x y : Int) (k : Nat) : List (Int × Int) := (sp3 (okStep eight) k).map fun d => (x + d.1, y + d.2)
theorem arTo_all (eight : Bool) (x y : Int) : arTo eight x y 9 = nbA eight (x, y) := by
  have h : sp3 (okStep eight) 9 = arndL eight := by cases eight <;> rfl
  unfold arTo nbA
  rw [h]
theorem arTo_len (eight : Bool) (x y : Int) (k : Nat) : (arTo eight x y k).length ≤ k := by unfold arTo; rw [List.length_map]; exact sp3_len _ _
theorem arTo_no {eight : Bool} (x y : Int) {i j : Nat} (hi : i < 3) (h : okStep eight ((i : Int) - 1) ((j : Int) - 1) = false) : arTo eight x y (j * 3 + (i + 1)) = arTo eight x y (j * 3 + i) := by
  unfold arTo; rw [← Nat.add_assoc, sp3_no hi h]
theorem arTo_yes {eight : Bool} (x y : Int) {i j : Nat} (hi : i < 3) (h : okStep eight ((i : Int) - 1) ((j : Int) - 1) = true) : arTo eight x y (j * 3 + (i + 1)) = arTo eight x y (j * 3 + i) ++ [(x + ((i : Int) - 1), y + ((j : Int) - 1))] := by
  unfold arTo; rw [← Nat.add_assoc, sp3_yes hi h, List.map_append]; rfl
/-- A list of spots under way. -/
def ArSt (w : World) (v : Value) (ps : List (Int × Int)) (wr : World) : Prop := w.Ext wr ∧ GrowP w.heap.size 33 wr v ps
theorem ArSt.next {w w2 : World} {v : Value} {ps qs : List (Int × Int)} {q : Int × Int} (h : ArSt w v ps w2) (e : qs = ps ++ [q]) {o : Obj} {v' : Value} {w1 : World} (hgrow : (w2.alloc o).grownBy w1 v.ownBlock)
    (hown : w1.ownsRow w.heap.size 33 2 v' (ps.length + 1) ((flatP ps).map (Value.int .i64) ++ [.int .i64 q.1, .int .i64 q.2])) : ArSt w v' qs w1 :=
  ⟨World.ownsRow.pushExt h.2 h.1 hgrow, by rw [e]; exact GrowP.push hown⟩
theorem ArSt.ext {w w1 w2 : World} {v : Value} {ps : List (Int × Int)} (h : ArSt w v ps w1) (hx : w1.Ext w2) : ArSt w v ps w2 := ⟨h.1.trans hx, h.2.ext hx⟩
end Go.Proofs.Ytelaoimcaidoiaa
