/- What is reached: the reference's search. -/
import Derived.Test.YtelaoimcaidoiaaArnd
import Derived.Maps.AppendAt
import Derived.Deep.RegionWith
namespace Go
open Go.RowKit
theorem RowOf.keep {α : Type} {f : α → Value} {d : α} {w w' : World} {a : Option Addr} {xs : List α} (h : RowOf f d w a xs) (hk : ∀ b o, a = some ⟨b, o, none⟩ → w'.heap[b]? = w.heap[b]?) : RowOf f d w' a xs := fun i hi =>
  let ⟨b, o, h1, h2⟩ := h i hi
  ⟨b, o, h1, by rw [World.cell?_of_block (a := ⟨b, o + i, none⟩) (hk b o h1)]; exact h2⟩
end Go
namespace Go.Proofs.Ytelaoimcaidoiaa
open Go.RowKit
def pxP (W H : Nat) (l : List Bool) (p : Int × Int) : Bool := pxl W H l p.1 p.2
theorem pxP_nat {W H : Nat} {l : List Bool} {p : Int × Int} (h : pxP W H l p = true) : ∃ x y : Nat, p = ((x : Int), (y : Int)) ∧ x < W ∧ y < H := by
  have hb : hasB W H p.1 p.2 = true := by
    cases hd : hasB W H p.1 p.2
    · rw [pxP, pxl_out hd] at h; cases h
    · rfl
  obtain ⟨h1, h2, h3, h4⟩ := hasB_true.1 hb
  exact ⟨p.1.toNat, p.2.toNat, Prod.ext (by simp; omega) (by simp; omega), by omega, by omega⟩
theorem pxP_box {W H : Nat} {l : List Bool} {p : Int × Int} (h : pxP W H l p = true) : p ∈ boxL 0 0 W H := by
  obtain ⟨x, y, rfl, h1, h2⟩ := pxP_nat h
  exact boxL_mem (by simp) (by simp; omega) (by simp) (by simp; omega)
theorem Try.infoBoolR : (Try.prog.info? 4).map (fun i => (i.zero, i.size, i.bytes)) = some (some (.bool false), 1, 1) := by kernel_rfl
/-- The search under way: the picture of what is entered, the list of it; a row that stands. -/
structure RSt (w : World) (p6 ab W H : Nat) (a11 : Option Addr) (ks : List (Int × Int)) (ds : List (Int × Int)) (v : Value) (wr : World) : Prop where
  x : w.Ext wr
  one : One wr p6 26 (.slice none 0 0)
  seen : BlkOf Value.bool wr ab 4 (mkl W H (inL ds))
  q : GrowP w.heap.size 33 wr v ds
  row : RowP wr a11 ks
  ap : ∀ b o, a11 = some ⟨b, o, none⟩ → b < wr.heap.size ∧ b ≠ ab ∧ v.ownBlock ≠ some b
  lo : w.heap.size ≤ ab ∧ w.heap.size ≤ p6
section
variable {w : World} {p6 ab W H : Nat} {a11 : Option Addr} {ks ds : List (Int × Int)} {v : Value} {wr : World}
theorem RSt.ext {w' : World} (h : RSt w p6 ab W H a11 ks ds v wr) (hx : wr.Ext w') : RSt w p6 ab W H a11 ks ds v w' :=
  ⟨h.x.trans hx, h.one.ext hx, h.seen.ext hx, h.q.ext hx, h.row.ext hx, fun b o e => ⟨Nat.lt_of_lt_of_le (h.ap b o e).1 hx.size, (h.ap b o e).2⟩, h.lo⟩
theorem RSt.push (h : RSt w p6 ab W H a11 ks ds v wr) {X Y k : Nat} (hX : X < W) (hY : Y < H) (hk : k = Y * W + X) {o : Obj} {v' : Value} {w1 : World} (hgrow : ((wr.setCell ⟨ab, k, none⟩ (.bool true)).alloc o).grownBy w1 v.ownBlock)
    (hown : w1.ownsRow w.heap.size 33 2 v' (ds.length + 1) ((flatP ds).map (Value.int .i64) ++ [.int .i64 X, .int .i64 Y]))
    (hat : v'.ownBlock = v.ownBlock ∨ v'.ownBlock = some ((wr.setCell ⟨ab, k, none⟩ (.bool true)).alloc o).heap.size) : RSt w p6 ab W H a11 ks (ds ++ [((X : Int), (Y : Int))]) v' w1 := by
  have hB : wr.heap[ab]? = some _ := h.seen
  have hO : wr.heap[p6]? = some _ := h.one
  have hne : p6 ≠ ab := by
    rintro rfl
    rw [hB] at hO
    simp at hO
  have nab : some ab ≠ v.ownBlock := World.ownsRow.ne h.q hB (by decide)
  have np6 : some p6 ≠ v.ownBlock := World.ownsRow.ne h.q hO (by decide)
  have hx1 : w.Ext ((wr.setCell ⟨ab, k, none⟩ (.bool true)).alloc o) := (h.x.setCell (p := ⟨ab, k, none⟩) h.lo.1 _).alloc o
  have hsz : ((wr.setCell ⟨ab, k, none⟩ (.bool true)).alloc o).heap.size = wr.heap.size + 1 := by simp
  have one1 := ((h.one.other (a := ⟨ab, k, none⟩) (Ne.symm hne) (.bool true)).ext ((World.Ext.refl _).alloc o)).grown hgrow np6
  have seen1 := (h.seen.set k true).ext ((World.Ext.refl _).alloc o)
  have seen2 := seen1.keep (hgrow.block ab seen1.lt nab)
  rw [hk, mkl_enter hX hY] at seen2
  refine ⟨hx1.grown hgrow fun _ hb => (World.ownsRow.lt h.q _ hb).1, one1, seen2, GrowP.push hown, h.row.keep fun b o' e => ?_, fun b o' e => ⟨?_, (h.ap b o' e).2.1, ?_⟩, h.lo⟩
  · obtain ⟨q1, q2, q3⟩ := h.ap b o' e
    rw [hgrow.block b (by rw [hsz]; omega) (Ne.symm q3), (MapKept.heap_alloc _ o).2 b (by simpa using q1), Below.heap_setCell _ _ _ _ q2]
  · have := hgrow.size
    have := (h.ap b o' e).1
    omega
  · obtain ⟨q1, q2, q3⟩ := h.ap b o' e
    rcases hat with e1 | e1
    · rw [e1]; exact q3
    · rw [e1, hsz]
      intro e2
      simp only [Option.some.injEq] at e2
      omega
end
theorem sameNat {x y W : Nat} : ((y : Int) * (W : Int) + (x : Int)).toNat = y * W + x := by
  have : ((y : Int) * (W : Int) + (x : Int)) = ((y * W + x : Nat) : Int) := by rw [Int.natCast_add, Int.natCast_mul]
  rw [this]
  rfl
end Go.Proofs.Ytelaoimcaidoiaa
