/- The program's tree of a grey picture: the state of its loop. -/
import Derived.Test.YtmmanehdmnkekaaNodH
import Derived.Test.YtmmanehdmnkekaaTrcK
namespace Go.Proofs.Ytmmanehdmnkekaa
open Go Go.RowKit
structure TrSt (wA : World) (sv u1 u2 u3 v1 v2 v3 : Value) (L P R : List Int) (wr : World) : Prop where
  x : wA.Ext wr
  box : wr.heap[wA.heap.size]? = some (.cells #[u1, u2, u3, .slice none 0 0] 30 (0, 0))
  nb : wr.heap[wA.heap.size + 1]? = some (.cells #[sv] 192 (0, 0))
  o1 : GrI (wA.heap.size + 2) wr v1 L
  o2 : GrI (wA.heap.size + 2) wr v2 P
  o3 : GrI (wA.heap.size + 2) wr v3 R
  d12 : ApV v1 v2
  d13 : ApV v1 v3
  d23 : ApV v2 v3
section
variable {wA wr wa w1 w' : World} {sv u1 u2 u3 v1 v2 v3 v' : Value} {L P R : List Int} {z : Int}
theorem TrSt.ext (h : TrSt wA sv u1 u2 u3 v1 v2 v3 L P R wr) (hx : wr.Ext w') : TrSt wA sv u1 u2 u3 v1 v2 v3 L P R w' :=
  ⟨h.x.trans hx, by rw [hx.block (Array.getElem?_eq_some_iff.1 h.box).1]; exact h.box, by rw [hx.block (Array.getElem?_eq_some_iff.1 h.nb).1]; exact h.nb, h.o1.ext hx, h.o2.ext hx, h.o3.ext hx, h.d12, h.d13, h.d23⟩
theorem TrSt.push1 (h : TrSt wA sv u1 u2 u3 v1 v2 v3 L P R wr) (hx : wr.Ext wa) (hg : wa.grownBy w1 v1.ownBlock) (ho : w1.ownsRow (wA.heap.size + 2) 2 1 v' (L.length + 1) (L.map iv ++ [iv z])) (hat : v'.ownBlock = v1.ownBlock ∨ v'.ownBlock = some wa.heap.size) :
    TrSt wA sv u1 u2 u3 v' v2 v3 (L ++ [z]) P R w1 := by
  have ha := h.ext hx
  refine ⟨ha.x.grown hg fun k hk => by have := (GrI.lt ha.o1 hk).1; omega, ?_, ?_, GrowOf.push ho, World.ownsRow.kept ha.o2 hg (GrI.ne ha.o2 ha.d12.symm), World.ownsRow.kept ha.o3 hg (GrI.ne ha.o3 ha.d13.symm), apV_at ha.d12 (fun k hk => (GrI.lt ha.o2 hk).2) hat, apV_at ha.d13 (fun k hk => (GrI.lt ha.o3 hk).2) hat, ha.d23⟩
  · rw [hg.block _ (Array.getElem?_eq_some_iff.1 ha.box).1 fun e => by have := (GrI.lt ha.o1 e.symm).1; omega]; exact ha.box
  · rw [hg.block _ (Array.getElem?_eq_some_iff.1 ha.nb).1 fun e => by have := (GrI.lt ha.o1 e.symm).1; omega]; exact ha.nb
theorem TrSt.push2 (h : TrSt wA sv u1 u2 u3 v1 v2 v3 L P R wr) (hx : wr.Ext wa) (hg : wa.grownBy w1 v2.ownBlock) (ho : w1.ownsRow (wA.heap.size + 2) 2 1 v' (P.length + 1) (P.map iv ++ [iv z])) (hat : v'.ownBlock = v2.ownBlock ∨ v'.ownBlock = some wa.heap.size) :
    TrSt wA sv u1 u2 u3 v1 v' v3 L (P ++ [z]) R w1 := by
  have ha := h.ext hx
  refine ⟨ha.x.grown hg fun k hk => by have := (GrI.lt ha.o2 hk).1; omega, ?_, ?_, World.ownsRow.kept ha.o1 hg (GrI.ne ha.o1 ha.d12), GrowOf.push ho, World.ownsRow.kept ha.o3 hg (GrI.ne ha.o3 ha.d23.symm), (apV_at ha.d12.symm (fun k hk => (GrI.lt ha.o1 hk).2) hat).symm, ha.d13, apV_at ha.d23 (fun k hk => (GrI.lt ha.o3 hk).2) hat⟩
  · rw [hg.block _ (Array.getElem?_eq_some_iff.1 ha.box).1 fun e => by have := (GrI.lt ha.o2 e.symm).1; omega]; exact ha.box
  · rw [hg.block _ (Array.getElem?_eq_some_iff.1 ha.nb).1 fun e => by have := (GrI.lt ha.o2 e.symm).1; omega]; exact ha.nb
theorem TrSt.push3 (h : TrSt wA sv u1 u2 u3 v1 v2 v3 L P R wr) (hx : wr.Ext wa) (hg : wa.grownBy w1 v3.ownBlock) (ho : w1.ownsRow (wA.heap.size + 2) 2 1 v' (R.length + 1) (R.map iv ++ [iv z])) (hat : v'.ownBlock = v3.ownBlock ∨ v'.ownBlock = some wa.heap.size) :
    TrSt wA sv u1 u2 u3 v1 v2 v' L P (R ++ [z]) w1 := by
  have ha := h.ext hx
  refine ⟨ha.x.grown hg fun k hk => by have := (GrI.lt ha.o3 hk).1; omega, ?_, ?_, World.ownsRow.kept ha.o1 hg (GrI.ne ha.o1 ha.d13), World.ownsRow.kept ha.o2 hg (GrI.ne ha.o2 ha.d23), GrowOf.push ho, ha.d12, (apV_at ha.d13.symm (fun k hk => (GrI.lt ha.o1 hk).2) hat).symm, (apV_at ha.d23.symm (fun k hk => (GrI.lt ha.o2 hk).2) hat).symm⟩
  · rw [hg.block _ (Array.getElem?_eq_some_iff.1 ha.box).1 fun e => by have := (GrI.lt ha.o3 e.symm).1; omega]; exact ha.box
  · rw [hg.block _ (Array.getElem?_eq_some_iff.1 ha.nb).1 fun e => by have := (GrI.lt ha.o3 e.symm).1; omega]; exact ha.nb
theorem TrSt.cells (h : TrSt wA sv u1 u2 u3 v1 v2 v3 L P R wr) : wr.cell? ⟨wA.heap.size, 0, none⟩ = some u1 ∧ wr.cell? ⟨wA.heap.size, 1, none⟩ = some u2 ∧ wr.cell? ⟨wA.heap.size, 2, none⟩ = some u3 ∧ wr.cell? ⟨wA.heap.size, 3, none⟩ = some (.slice none 0 0) ∧ wr.cell? ⟨wA.heap.size + 1, 0, none⟩ = some sv := by
  have h1 := h.box
  have h2 := h.nb
  refine ⟨?_, ?_, ?_, ?_, ?_⟩ <;> simp [World.cell?, h1, h2]
theorem TrSt.free (h : TrSt wA sv u1 u2 u3 v1 v2 v3 L P R wr) (i : Nat) : wr.frozen? ⟨wA.heap.size, i, none⟩ = false := by
  have h1 := h.box
  simp [World.frozen?, h1]
theorem TrSt.putAt (h : TrSt wA sv u1 u2 u3 v1 v2 v3 L P R wr) {i : Nat} {y y1 y2 y3 : Value} (_ : i < 3) (he : (#[u1, u2, u3, .slice none 0 0] : Array Value).setIfInBounds i y = #[y1, y2, y3, .slice none 0 0]) :
    TrSt wA sv y1 y2 y3 v1 v2 v3 L P R (wr.setCell ⟨wA.heap.size, i, none⟩ y) := by
  have hb := h.box
  have hk : ∀ k, k ≠ wA.heap.size → (wr.setCell ⟨wA.heap.size, i, none⟩ y).heap[k]? = wr.heap[k]? := fun k hk => Below.heap_setCell _ _ _ _ hk
  refine ⟨h.x.setCell (p := ⟨wA.heap.size, i, none⟩) (Nat.le_refl _) y, ?_, by rw [hk _ (by omega)]; exact h.nb, World.ownsRow.keep h.o1 fun k hk1 => hk k (by have := (GrI.lt h.o1 hk1).1; omega), World.ownsRow.keep h.o2 fun k hk1 => hk k (by have := (GrI.lt h.o2 hk1).1; omega), World.ownsRow.keep h.o3 fun k hk1 => hk k (by have := (GrI.lt h.o3 hk1).1; omega), h.d12, h.d13, h.d23⟩
  simp [World.setCell, Array.getElem?_modify, hb, he]
theorem TrSt.put1 (h : TrSt wA sv u1 u2 u3 v1 v2 v3 L P R wr) (y : Value) : TrSt wA sv y u2 u3 v1 v2 v3 L P R (wr.setCell ⟨wA.heap.size, 0, none⟩ y) := h.putAt (by decide) (by simp)
theorem TrSt.put2 (h : TrSt wA sv u1 u2 u3 v1 v2 v3 L P R wr) (y : Value) : TrSt wA sv u1 y u3 v1 v2 v3 L P R (wr.setCell ⟨wA.heap.size, 1, none⟩ y) := h.putAt (by decide) (by simp)
theorem TrSt.put3 (h : TrSt wA sv u1 u2 u3 v1 v2 v3 L P R wr) (y : Value) : TrSt wA sv u1 u2 y v1 v2 v3 L P R (wr.setCell ⟨wA.heap.size, 2, none⟩ y) := h.putAt (by decide) (by simp)
end
end Go.Proofs.Ytmmanehdmnkekaa
