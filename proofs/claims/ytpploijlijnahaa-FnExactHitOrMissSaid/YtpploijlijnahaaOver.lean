/- Worlds that extend a world by new blocks and draws; regions that draw their order over them. -/
import Derived.WalkKit
import Derived.Deep.QuietTactic
import Derived.BigQuiet
namespace Go
open Go.RowKit
/-- What lies behind 'w': 'w' with more blocks and another count of draws. -/
def World.over (w x : World) : World := { w with heap := w.heap ++ x.heap, drawn := x.drawn }
/-- 'w'' is 'w' but for new blocks and draws. -/
def World.Ext (w w' : World) : Prop := ∃ x, w' = w.over x
section
variable (w x : World)
/-- What a new block holds. -/
def World.overCell (w x : World) (a : Addr) : Option Value :=
  if a.block < w.heap.size then none else x.cell? ⟨a.block - w.heap.size, a.off, a.spot⟩
def World.overFrozen (w x : World) (a : Addr) : Bool :=
  if a.block < w.heap.size then false else x.frozen? ⟨a.block - w.heap.size, a.off, a.spot⟩
theorem World.heapAt_over (b : Nat) : (w.over x).heap[b]? = if b < w.heap.size then w.heap[b]? else x.heap[b - w.heap.size]? := by
  show (w.heap ++ x.heap)[b]? = _
  rw [Array.getElem?_append]
@[simp, go_sem] theorem World.cell?_over (a : Addr) : (w.over x).cell? a = (w.cell? a).or (w.overCell x a) := by
  unfold World.overCell
  by_cases h : a.block < w.heap.size
  · simp only [h, if_true, Option.or_none]
    exact World.cell?_of_block (w := w) (by rw [World.heapAt_over, if_pos h])
  · simp only [h, if_false]
    have h0 : w.cell? a = none := by unfold World.cell?; rw [Array.getElem?_eq_none (by omega)]
    rw [h0, Option.none_or]
    unfold World.cell?
    rw [World.heapAt_over, if_neg h]
theorem World.frozen?_over (a : Addr) : (w.over x).frozen? a = (w.frozen? a || w.overFrozen x a) := by
  unfold World.overFrozen
  by_cases h : a.block < w.heap.size
  · simp only [h, if_true, Bool.or_false]
    exact World.frozen?_of_block (w := w) (by rw [World.heapAt_over, if_pos h])
  · simp only [h, if_false]
    have h0 : w.frozen? a = false := by unfold World.frozen?; rw [Array.getElem?_eq_none (by omega)]
    rw [h0, Bool.false_or]
    unfold World.frozen?
    rw [World.heapAt_over, if_neg h]
@[simp, go_sem] theorem World.frozen?_over_lt (a : Addr) (h : a.block < w.heap.size) : (w.over x).frozen? a = w.frozen? a := by
  rw [World.frozen?_over]; unfold World.overFrozen; rw [if_pos h, Bool.or_false]
@[simp, go_sem] theorem World.frozen?_over_lt2 (y : World) (a : Addr) (h : a.block < w.heap.size) : ((w.over x).over y).frozen? a = w.frozen? a := by
  rw [World.frozen?_over_lt (w.over x) y a (by show _ < (w.heap ++ x.heap).size; simp; omega), World.frozen?_over_lt w x a h]
@[simp, go_sem] theorem World.frozen?_over_lt3 (y z : World) (a : Addr) (h : a.block < w.heap.size) : (((w.over x).over y).over z).frozen? a = w.frozen? a := by
  rw [World.frozen?_over_lt2 (w.over x) y z a (by show _ < (w.heap ++ x.heap).size; simp; omega), World.frozen?_over_lt w x a h]
@[simp, go_sem] theorem World.size_over : (w.over x).heap.size = w.heap.size + x.heap.size := by
  show (w.heap ++ x.heap).size = _
  simp
@[simp, go_sem] theorem World.tape_over : (w.over x).tape = w.tape := rfl
end
theorem World.Ext.refl (w : World) : w.Ext w := ⟨{ w with heap := #[] }, by unfold World.over; simp⟩
theorem World.Ext.drew {w w' : World} (h : w.Ext w') : w.Ext w'.drew := by
  obtain ⟨x, rfl⟩ := h
  exact ⟨x.drew, rfl⟩
theorem World.Ext.of_below {w w' : World} (h : Below w.heap.size w w') : w.Ext w' := by
  refine ⟨{ w' with heap := w'.heap.extract w.heap.size w'.heap.size }, ?_⟩
  have e : w.heap ++ w'.heap.extract w.heap.size w'.heap.size = w'.heap := by
    apply Array.ext_getElem?
    intro i
    rw [Array.getElem?_append]
    split
    · rename_i hi
      exact (h.block i hi).symm
    · rename_i hi
      rw [Array.getElem?_extract]
      have := h.size
      split
      · congr 1; omega
      · rw [Array.getElem?_eq_none (by omega)]
  obtain ⟨os, tape, output, _, _⟩ := h
  unfold World.over
  rw [e]
  cases w'; simp at *; subst os tape output; exact ⟨rfl, rfl, rfl⟩
theorem World.Ext.below {w w' : World} (h : w.Ext w') : Below w.heap.size w w' := by
  obtain ⟨x, rfl⟩ := h
  exact ⟨rfl, rfl, rfl, by simp, fun k hk => by rw [World.heapAt_over, if_pos hk]⟩
theorem World.Ext.size {w w' : World} (h : w.Ext w') : w.heap.size ≤ w'.heap.size := h.below.size
theorem World.Ext.trans {a b c : World} (h : a.Ext b) (k : b.Ext c) : a.Ext c :=
  .of_below (h.below.trans (k.below.mono h.size))
theorem World.Ext.alloc {w w' : World} (h : w.Ext w') (o : Obj) : w.Ext (w'.alloc o) :=
  .of_below (h.below.alloc h.size o)
theorem World.Ext.setCell {w w' : World} (h : w.Ext w') {p : Addr} (hp : w.heap.size ≤ p.block) (u : Value) : w.Ext (w'.setCell p u) :=
  .of_below (h.below.setCell hp u)
theorem World.Ext.over {w w' : World} (h : w.Ext w') (x : World) : w.Ext (w'.over x) := h.trans ⟨x, rfl⟩
theorem World.Ext.drewN {w w' : World} (h : w.Ext w') (n : Nat) : w.Ext (w'.drewN n) := by
  obtain ⟨x, rfl⟩ := h
  exact ⟨x.drewN n, rfl⟩
theorem World.Ext.cell {w w' : World} (h : w.Ext w') {a : Addr} {v : Value} (hv : w.cell? a = some v) : w'.cell? a = some v := by
  obtain ⟨x, rfl⟩ := h
  simp [hv]
/-- A region whose operations yield their values in every world that extends this one. -/
theorem wp_region_over_lit {P : Program} {id : Nat} {Q : Exit → Act → World → Prop} {a : Act} {w : World} {l : List Oper} (hm : P.follows .mixedOrders = true) (hB : Region.lexB .any l.toArray = true)
    (h : wpQuiet P l.toArray (fun w' => ∃ x, w' = w.over x) (fun a' => ∀ w', (∃ x, w' = w.over x) → Q .normal a' w') l a) : (Code.region id l.toArray true).wp P Q a w :=
  wp_region_quiet (C := fun w' => ∃ x, w' = w.over x) hm hB (World.Ext.refl w).drew (by simpa using h)
/-- A callee's contract in such a world. -/
theorem Calls.over_of {P : Program} {f : FuncId} {args : Array Value} {w x : World} {v : Value}
    (h : Calls P f args (w.over x) fun e w' => e = .returned v ∧ (w.over x).Ext w') : Calls P f args (w.over x) fun e w'' => e = .returned v ∧ ∃ y, w'' = w.over y :=
  h.mono fun _ _ ⟨he, hx⟩ => ⟨he, (World.Ext.trans ⟨x, rfl⟩ hx)⟩
end Go
