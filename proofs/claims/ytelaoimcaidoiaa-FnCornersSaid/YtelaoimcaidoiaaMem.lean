/- Worlds that extend a world; how slices read; blocks of the call's own; regions that draw their order. -/
import Derived.WalkKit
import Derived.Deep.QuietTactic
import Derived.BigQuiet
import Derived.WalkLawsBesides
import Derived.WalkSpells
import Derived.Lib.Hide
import Derived.Handy
import Derived.Deep.Light
import Derived.StillTail
namespace Go
open Go.RowKit
/-- What lies behind 'w': 'w' with more blocks and another count of draws. -/
def World.over (w x : World) : World := { w with heap := w.heap ++ x.heap, drawn := x.drawn }
/-- 'w'' is 'w' but for new blocks and draws. -/
def World.Ext (w w' : World) : Prop := ∃ x, w' = w.over x
section
variable (w x : World)
/-- What a new block holds. -/
def World.overCell (w x : World) (a : Addr) : Option Value :=
  if a.block < w.heap.size then none else x.cell? ⟨a.block - w.heap.size, a.off, a.spot⟩
def World.overFrozen (w x : World) (a : Addr) : Bool :=
  if a.block < w.heap.size then false else x.frozen? ⟨a.block - w.heap.size, a.off, a.spot⟩
theorem World.heapAt_over (b : Nat) : (w.over x).heap[b]? = if b < w.heap.size then w.heap[b]? else x.heap[b - w.heap.size]? := by
  show (w.heap ++ x.heap)[b]? = _
  rw [Array.getElem?_append]
@[simp, go_sem] theorem World.cell?_over (a : Addr) : (w.over x).cell? a = (w.cell? a).or (w.overCell x a) := by
  unfold World.overCell
  by_cases h : a.block < w.heap.size
  · simp only [h, if_true, Option.or_none]
    exact World.cell?_of_block (w := w) (by rw [World.heapAt_over, if_pos h])
  · simp only [h, if_false]
    have h0 : w.cell? a = none := by unfold World.cell?; rw [Array.getElem?_eq_none (by omega)]
    rw [h0, Option.none_or]
    unfold World.cell?
    rw [World.heapAt_over, if_neg h]
theorem World.frozen?_over (a : Addr) : (w.over x).frozen? a = (w.frozen? a || w.overFrozen x a) := by
  unfold World.overFrozen
  by_cases h : a.block < w.heap.size
  · simp only [h, if_true, Bool.or_false]
    exact World.frozen?_of_block (w := w) (by rw [World.heapAt_over, if_pos h])
  · simp only [h, if_false]
    have h0 : w.frozen? a = false := by unfold World.frozen?; rw [Array.getElem?_eq_none (by omega)]
    rw [h0, Bool.false_or]
    unfold World.frozen?
    rw [World.heapAt_over, if_neg h]
@[simp, go_sem] theorem World.frozen?_over_lt (a : Addr) (h : a.block < w.heap.size) : (w.over x).frozen? a = w.frozen? a := by
  rw [World.frozen?_over]; unfold World.overFrozen; rw [if_pos h, Bool.or_false]
@[simp, go_sem] theorem World.frozen?_over_lt2 (y : World) (a : Addr) (h : a.block < w.heap.size) : ((w.over x).over y).frozen? a = w.frozen? a := by
  rw [World.frozen?_over_lt (w.over x) y a (by show _ < (w.heap ++ x.heap).size; simp; omega), World.frozen?_over_lt w x a h]
@[simp, go_sem] theorem World.frozen?_over_lt3 (y z : World) (a : Addr) (h : a.block < w.heap.size) : (((w.over x).over y).over z).frozen? a = w.frozen? a := by
  rw [World.frozen?_over_lt2 (w.over x) y z a (by show _ < (w.heap ++ x.heap).size; simp; omega), World.frozen?_over_lt w x a h]
@[simp, go_sem] theorem World.size_over : (w.over x).heap.size = w.heap.size + x.heap.size := by
  show (w.heap ++ x.heap).size = _
  simp
@[simp, go_sem] theorem World.tape_over : (w.over x).tape = w.tape := rfl
end
theorem World.Ext.refl (w : World) : w.Ext w := ⟨{ w with heap := #[] }, by unfold World.over; simp⟩
theorem World.Ext.drew {w w' : World} (h : w.Ext w') : w.Ext w'.drew := by
  obtain ⟨x, rfl⟩ := h
  exact ⟨x.drew, rfl⟩
theorem World.Ext.of_below {w w' : World} (h : Below w.heap.size w w') : w.Ext w' := by
  refine ⟨{ w' with heap := w'.heap.extract w.heap.size w'.heap.size }, ?_⟩
  have e : w.heap ++ w'.heap.extract w.heap.size w'.heap.size = w'.heap := by
    apply Array.ext_getElem?
    intro i
    rw [Array.getElem?_append]
    split
    · rename_i hi
      exact (h.block i hi).symm
    · rename_i hi
      rw [Array.getElem?_extract]
      have := h.size
      split
      · congr 1; omega
      · rw [Array.getElem?_eq_none (by omega)]
  obtain ⟨os, tape, output, _, _⟩ := h
  unfold World.over
  rw [e]
  cases w'; simp at *; subst os tape output; exact ⟨rfl, rfl, rfl⟩
theorem World.Ext.below {w w' : World} (h : w.Ext w') : Below w.heap.size w w' := by
  obtain ⟨x, rfl⟩ := h
  exact ⟨rfl, rfl, rfl, by simp, fun k hk => by rw [World.heapAt_over, if_pos hk]⟩
theorem World.Ext.size {w w' : World} (h : w.Ext w') : w.heap.size ≤ w'.heap.size := h.below.size
theorem World.Ext.trans {a b c : World} (h : a.Ext b) (k : b.Ext c) : a.Ext c :=
  .of_below (h.below.trans (k.below.mono h.size))
theorem World.Ext.alloc {w w' : World} (h : w.Ext w') (o : Obj) : w.Ext (w'.alloc o) :=
  .of_below (h.below.alloc h.size o)
theorem World.Ext.setCell {w w' : World} (h : w.Ext w') {p : Addr} (hp : w.heap.size ≤ p.block) (u : Value) : w.Ext (w'.setCell p u) :=
  .of_below (h.below.setCell hp u)
theorem World.Ext.over {w w' : World} (h : w.Ext w') (x : World) : w.Ext (w'.over x) := h.trans ⟨x, rfl⟩
theorem World.Ext.drewN {w w' : World} (h : w.Ext w') (n : Nat) : w.Ext (w'.drewN n) := by
  obtain ⟨x, rfl⟩ := h
  exact ⟨x.drewN n, rfl⟩
theorem World.Ext.cell {w w' : World} (h : w.Ext w') {a : Addr} {v : Value} (hv : w.cell? a = some v) : w'.cell? a = some v := by
  obtain ⟨x, rfl⟩ := h
  simp [hv]
/-- A region whose operations yield their values in every world that extends this one. -/
theorem wp_region_over_lit {P : Program} {id : Nat} {Q : Exit → Act → World → Prop} {a : Act} {w : World} {l : List Oper} (hm : P.follows .mixedOrders = true) (hB : Region.lexB .any l.toArray = true)
    (h : wpQuiet P l.toArray (fun w' => ∃ x, w' = w.over x) (fun a' => ∀ w', (∃ x, w' = w.over x) → Q .normal a' w') l a) : (Code.region id l.toArray true).wp P Q a w :=
  wp_region_quiet (C := fun w' => ∃ x, w' = w.over x) hm hB (World.Ext.refl w).drew (by simpa using h)
/-- A callee's contract in such a world. -/
theorem Calls.over_of {P : Program} {f : FuncId} {args : Array Value} {w x : World} {v : Value}
    (h : Calls P f args (w.over x) fun e w' => e = .returned v ∧ (w.over x).Ext w') : Calls P f args (w.over x) fun e w'' => e = .returned v ∧ ∃ y, w'' = w.over y :=
  h.mono fun _ _ ⟨he, hx⟩ => ⟨he, (World.Ext.trans ⟨x, rfl⟩ hx)⟩
end Go
namespace Go
open Go.RowKit
theorem ret_int {k : IntKind} {a b : Int} (h : a = b) : Ending.returned (.int k a) = .returned (.int k b) := by rw [h]
theorem ret_bool {a b : Bool} (h : a = b) : Ending.returned (.bool a) = .returned (.bool b) := by rw [h]
/-- Only blocks of 'S' have been written; there may be new blocks. -/
structure Wrote (S : Nat → Prop) (w w' : World) : Prop where
  os : w'.os = w.os
  tape : w'.tape = w.tape
  output : w'.output = w.output
  size : w.heap.size ≤ w'.heap.size
  block : ∀ k, k < w.heap.size → ¬ S k → w'.heap[k]? = w.heap[k]?
theorem Wrote.refl (S : Nat → Prop) (w : World) : Wrote S w w := ⟨rfl, rfl, rfl, Nat.le_refl _, fun _ _ _ => rfl⟩
theorem Wrote.trans {S : Nat → Prop} {a b c : World} (h : Wrote S a b) (k : Wrote S b c) : Wrote S a c :=
  ⟨k.os.trans h.os, k.tape.trans h.tape, k.output.trans h.output, Nat.le_trans h.size k.size, fun i hi hs => (k.block i (Nat.lt_of_lt_of_le hi h.size) hs).trans (h.block i hi hs)⟩
theorem Wrote.mono {S T : Nat → Prop} {a b : World} (h : Wrote S a b) (hs : ∀ k, k < a.heap.size → S k → T k) : Wrote T a b :=
  ⟨h.os, h.tape, h.output, h.size, fun k hk ht => h.block k hk fun h' => ht (hs k hk h')⟩
theorem World.Ext.wrote {w w' : World} (h : w.Ext w') (S : Nat → Prop) : Wrote S w w' :=
  ⟨h.below.os, h.below.tape, h.below.output, h.size, fun k hk _ => h.below.block k hk⟩
theorem Wrote.setCell {S : Nat → Prop} {a w : World} (h : Wrote S a w) {p : Addr} (hp : S p.block) (u : Value) : Wrote S a (w.setCell p u) :=
  h.trans ⟨rfl, rfl, rfl, by simp [World.setCell], fun k _ hs => Below.heap_setCell _ _ _ _ fun e => hs (e ▸ hp)⟩
theorem Wrote.ext {S : Nat → Prop} {w w' : World} (h : Wrote S w w') (hs : ∀ k, k < w.heap.size → ¬ S k) : w.Ext w' :=
  .of_below ⟨h.os, h.tape, h.output, h.size, fun k hk => h.block k hk (hs k hk)⟩
theorem World.Ext.wroteNew {S : Nat → Prop} {w w1 w2 : World} (h : w.Ext w1) (hw : Wrote S w1 w2) (hs : ∀ k, k < w.heap.size → ¬ S k) : w.Ext w2 := ((h.wrote S).trans hw).ext hs
theorem Wrote.cell {S : Nat → Prop} {w w' : World} (h : Wrote S w w') {a : Addr} {v : Value} (hv : w.cell? a = some v) (ha : ¬ S a.block) : w'.cell? a = some v := by
  rw [World.cell?_of_block (w := w) (h.block _ (World.block_lt_of_cell? w _ hv) ha)]; exact hv
theorem Wrote.frozen {S : Nat → Prop} {w w' : World} (h : Wrote S w w') {a : Addr} {v : Value} (hv : w.cell? a = some v) (ha : ¬ S a.block) : w'.frozen? a = w.frozen? a :=
  World.frozen?_of_block (w := w) (h.block _ (World.block_lt_of_cell? w _ hv) ha)
theorem World.Ext.frozen {w w' : World} (h : w.Ext w') {a : Addr} {v : Value} (hv : w.cell? a = some v) : w'.frozen? a = w.frozen? a :=
  (h.wrote fun _ => False).frozen hv id
theorem World.Ext.free {w w' : World} (h : w.Ext w') {a : Addr} {v : Value} (hv : w.cell? a = some v) (hf : w.frozen? a = false) : w'.frozen? a = false := by rw [h.frozen hv, hf]
/-- The elements of a slice that starts at 'a' are 'xs'. -/
def RowOf {α : Type} (f : α → Value) (d : α) (w : World) (a : Option Addr) (xs : List α) : Prop :=
  ∀ i, i < xs.length → ∃ b o, a = some ⟨b, o, none⟩ ∧ w.cell? ⟨b, o + i, none⟩ = some (f (xs.getD i d))
def RowI := RowOf (Value.int .i64) 0
def RowU := RowOf (Value.int .u8) 0
def RowS := RowOf Value.string ByteArray.empty
def RowB := RowOf Value.bool false
/-- The same, in memory of blocks from 'lo' up to 'hi' that may be written. -/
def OwnOf {α : Type} (f : α → Value) (d : α) (lo hi : Nat) (w : World) (a : Option Addr) (xs : List α) : Prop :=
  ∀ i, i < xs.length → ∃ b o, a = some ⟨b, o, none⟩ ∧ lo ≤ b ∧ b < hi ∧ w.cell? ⟨b, o + i, none⟩ = some (f (xs.getD i d)) ∧ w.frozen? ⟨b, o + i, none⟩ = false
section
variable {α : Type} {f : α → Value} {d : α} {lo hi lo' hi' : Nat} {w w' : World} {a : Option Addr} {xs : List α}
theorem OwnOf.row (h : OwnOf f d lo hi w a xs) : RowOf f d w a xs :=
  fun i hi => let ⟨b, o, h1, _, _, h3, _⟩ := h i hi; ⟨b, o, h1, h3⟩
theorem OwnOf.mono (h : OwnOf f d lo hi w a xs) (hl : lo' ≤ lo) (hh : hi ≤ hi') : OwnOf f d lo' hi' w a xs :=
  fun i hi => let ⟨b, o, h1, h2, h2', h3, h4⟩ := h i hi; ⟨b, o, h1, Nat.le_trans hl h2, Nat.lt_of_lt_of_le h2' hh, h3, h4⟩
theorem RowOf.ext (h : RowOf f d w a xs) (hx : w.Ext w') : RowOf f d w' a xs :=
  fun i hi => let ⟨b, o, h1, h2⟩ := h i hi; ⟨b, o, h1, hx.cell h2⟩
theorem RowOf.nil (w : World) (a : Option Addr) : RowOf f d w a [] := fun i hi => by cases hi
theorem OwnOf.nil (w : World) (a : Option Addr) : OwnOf f d lo hi w a [] := fun i hi => by cases hi
theorem OwnOf.wrote {S : Nat → Prop} (h : OwnOf f d lo hi w a xs) (hx : Wrote S w w') (hs : ∀ k, lo ≤ k → k < hi → ¬ S k) : OwnOf f d lo hi w' a xs :=
  fun i hi => let ⟨b, o, h1, h2, h2', h3, h4⟩ := h i hi; ⟨b, o, h1, h2, h2', hx.cell h3 (hs b h2 h2'), by rw [hx.frozen h3 (hs b h2 h2')]; exact h4⟩
theorem OwnOf.ext (h : OwnOf f d lo hi w a xs) (hx : w.Ext w') : OwnOf f d lo hi w' a xs := h.wrote (hx.wrote fun _ => False) fun _ _ _ => id
end
/-- A slice of slices of integers: row r starts at 'A r' and has room for 'C r'. -/
def MatAt (w : World) (a : Option Addr) (A : Nat → Option Addr) (C : Nat → Nat) (m : List (List Int)) : Prop :=
  ∀ r, r < m.length → (∃ b o, a = some ⟨b, o, none⟩ ∧ w.cell? ⟨b, o + r, none⟩ = some (.slice (A r) (m.getD r []).length (C r))) ∧ RowI w (A r) (m.getD r [])
theorem MatAt.ext {w w' : World} {a : Option Addr} {A : Nat → Option Addr} {C : Nat → Nat} {m : List (List Int)} (h : MatAt w a A C m) (hx : w.Ext w') : MatAt w' a A C m :=
  fun r hr => let ⟨⟨b, o, h1, h2⟩, h3⟩ := h r hr; ⟨⟨b, o, h1, hx.cell h2⟩, RowOf.ext h3 hx⟩
/-- The same, in memory of blocks from 'lo' up to 'hi' that may be written, each row in a block of its own. -/
structure OwnMat (lo hi : Nat) (w : World) (a : Option Addr) (A : Nat → Option Addr) (C : Nat → Nat) (m : List (List Int)) : Prop where
  outer : ∀ r, r < m.length → ∃ b o, a = some ⟨b, o, none⟩ ∧ lo ≤ b ∧ b < hi ∧ w.cell? ⟨b, o + r, none⟩ = some (.slice (A r) (m.getD r []).length (C r)) ∧
    ∀ s b' o', s < m.length → A s = some ⟨b', o', none⟩ → b' ≠ b
  rows : ∀ r, r < m.length → OwnOf (Value.int .i64) 0 lo hi w (A r) (m.getD r [])
  apart : ∀ r s b o b' o', r < m.length → s < m.length → r ≠ s → A r = some ⟨b, o, none⟩ → A s = some ⟨b', o', none⟩ → b ≠ b'
section
variable {lo hi lo' hi' : Nat} {w w' : World} {a : Option Addr} {A : Nat → Option Addr} {C : Nat → Nat} {m : List (List Int)}
theorem OwnMat.mat (h : OwnMat lo hi w a A C m) : MatAt w a A C m :=
  fun r hr => ⟨let ⟨b, o, h1, _, _, h4, _⟩ := h.outer r hr; ⟨b, o, h1, h4⟩, (h.rows r hr).row⟩
theorem OwnMat.mono (h : OwnMat lo hi w a A C m) (hl : lo' ≤ lo) (hh : hi ≤ hi') : OwnMat lo' hi' w a A C m :=
  ⟨fun r hr => let ⟨b, o, h1, h2, h3, h4, h5⟩ := h.outer r hr; ⟨b, o, h1, Nat.le_trans hl h2, Nat.lt_of_lt_of_le h3 hh, h4, h5⟩, fun r hr => (h.rows r hr).mono hl hh, h.apart⟩
theorem OwnMat.wrote {S : Nat → Prop} (h : OwnMat lo hi w a A C m) (hx : Wrote S w w') (hs : ∀ k, lo ≤ k → k < hi → ¬ S k) : OwnMat lo hi w' a A C m :=
  ⟨fun r hr => let ⟨b, o, h1, h2, h3, h4, h5⟩ := h.outer r hr; ⟨b, o, h1, h2, h3, hx.cell h4 (hs b h2 h3), h5⟩, fun r hr => (h.rows r hr).wrote hx hs, h.apart⟩
theorem OwnMat.ext (h : OwnMat lo hi w a A C m) (hx : w.Ext w') : OwnMat lo hi w' a A C m := h.wrote (hx.wrote fun _ => False) fun _ _ _ => id
end
/-- The marks of n cells from k on. -/
def marksI (k : Int) (n : Nat) : List Int := (List.range n).map fun i => k + (i : Nat)
theorem marksI_len (k : Int) (n : Nat) : (marksI k n).length = n := by simp [marksI]
theorem marksI_at (k : Int) (n i : Nat) (h : i < n) : (marksI k n).getD i 0 = k + i := by simp [marksI, List.getD_eq_getElem?_getD, h]
end Go
namespace Go
open Go.RowKit
/-- Block 'g' holds just these elements, and may be written. -/
def BlkOf {α : Type} (f : α → Value) (w : World) (g : Nat) (e : TypeId) (xs : List α) : Prop :=
  w.heap[g]? = some (.cells (xs.map f).toArray e (0, 0))
theorem BlkOf.cell {α : Type} {f : α → Value} {w : World} {g : Nat} {e : TypeId} {xs : List α} (h : BlkOf f w g e xs) (d : α) {i : Nat} (hi : i < xs.length) : w.cell? ⟨g, i, none⟩ = some (f (xs.getD i d)) := by
  unfold BlkOf at h
  simp [World.cell?, h, hi, List.getD_eq_getElem?_getD]
theorem BlkOf.free {α : Type} {f : α → Value} {w : World} {g : Nat} {e : TypeId} {xs : List α} (h : BlkOf f w g e xs) (i : Nat) : w.frozen? ⟨g, i, none⟩ = false := by
  unfold BlkOf at h
  simp [World.frozen?, h]
theorem BlkOf.lt {α : Type} {f : α → Value} {w : World} {g : Nat} {e : TypeId} {xs : List α} (h : BlkOf f w g e xs) : g < w.heap.size := by
  unfold BlkOf at h
  exact (Array.getElem?_eq_some_iff.1 h).1
theorem BlkOf.set {α : Type} {f : α → Value} {w : World} {g : Nat} {e : TypeId} {xs : List α} (h : BlkOf f w g e xs) (i : Nat) (v : α) : BlkOf f (w.setCell ⟨g, i, none⟩ (f v)) g e (xs.set i v) := by
  unfold BlkOf at *
  simp [World.setCell, Array.getElem?_modify, h, List.map_set]
theorem BlkOf.keep {α : Type} {f : α → Value} {w w' : World} {g : Nat} {e : TypeId} {xs : List α} (h : BlkOf f w g e xs) (hk : w'.heap[g]? = w.heap[g]?) : BlkOf f w' g e xs := by
  unfold BlkOf at *
  rw [hk, h]
theorem World.Ext.block {w w' : World} (h : w.Ext w') {k : Nat} (hk : k < w.heap.size) : w'.heap[k]? = w.heap[k]? := h.below.block k hk
theorem BlkOf.ext {α : Type} {f : α → Value} {w w' : World} {g : Nat} {e : TypeId} {xs : List α} (h : BlkOf f w g e xs) (hx : w.Ext w') : BlkOf f w' g e xs :=
  h.keep (hx.block h.lt)
theorem BlkOf.own {α : Type} {f : α → Value} {w : World} {g : Nat} {e : TypeId} {xs : List α} (h : BlkOf f w g e xs) (d : α) {lo hi : Nat} (hl : lo ≤ g) (hh : w.heap.size ≤ hi) : OwnOf f d lo hi w (some ⟨g, 0, none⟩) xs :=
  fun i hi' => ⟨g, 0, rfl, hl, Nat.lt_of_lt_of_le h.lt hh, by rw [Nat.zero_add]; exact h.cell d hi', h.free _⟩
theorem BlkOf.setCell_other {α : Type} {f : α → Value} {w : World} {g : Nat} {e : TypeId} {xs : List α} (h : BlkOf f w g e xs) {a : Addr} (ha : a.block ≠ g) (v : Value) : BlkOf f (w.setCell a v) g e xs :=
  h.keep (Below.heap_setCell _ _ _ _ (Ne.symm ha))
theorem World.Ext.grown {w w1 w2 : World} {row : Option Nat} (h : w.Ext w1) (hg : w1.grownBy w2 row) (hr : ∀ k, row = some k → w.heap.size ≤ k) : w.Ext w2 :=
  .of_below (h.below.grown hg h.size hr)
theorem World.Ext.made {w w1 : World} (hg : w.grownBy w1 none) : w.Ext w1 := (World.Ext.refl w).grown hg (fun _ h => by cases h)
/-- What has been copied after k rounds. -/
def copied {α : Type} (d : α) (zs : List α) (k : Nat) : List α := zs.take k ++ List.replicate (zs.length - k) d
theorem copied_zero {α : Type} (d : α) (zs : List α) : copied d zs 0 = List.replicate zs.length d := by simp [copied]
theorem copied_len {α : Type} (d : α) (zs : List α) (k : Nat) (h : k ≤ zs.length) : (copied d zs k).length = zs.length := by simp [copied]; omega
theorem copied_all {α : Type} (d : α) (zs : List α) : copied d zs zs.length = zs := by simp [copied]
theorem copied_set {α : Type} (d : α) (zs : List α) (k : Nat) (h : k < zs.length) : (copied d zs k).set k (zs.getD k d) = copied d zs (k + 1) := by
  unfold copied
  rw [List.set_append_right _ _ (by simp; omega)]
  obtain ⟨n, hn⟩ : ∃ n, zs.length - k = n + 1 := ⟨zs.length - k - 1, by omega⟩
  rw [show zs.length - (k + 1) = n by omega, hn, List.replicate_succ]
  rw [show k - (List.take k zs).length = 0 by simp; omega, List.set_cons_zero]
  rw [List.take_succ_eq_append_getElem h, List.append_assoc]
  simp [List.getD_eq_getElem?_getD, h]
/-- Behind make of a row: the block is known whole. -/
theorem blk_of_made {α : Type} {f : α → Value} {w : World} {base g n : Nat} {e : TypeId} {z : Value} (d : α) (hz : z.cells = #[f d])
    (h : w.ownsRow base e 1 (.slice (some ⟨g, 0, none⟩) n n) n (madeCells z.cells (n * 1)).toList) : BlkOf f w g e (List.replicate n d) := by
  obtain ⟨h1, h2⟩ := h
  rcases h2 with ⟨h2, _⟩ | ⟨g', cap, cur, hv, _, hh, _, _, hs, ht⟩
  · cases h2
  · simp only [Value.slice.injEq, Option.some.injEq, Addr.mk.injEq, and_true] at hv
    obtain ⟨rfl, -, rfl⟩ := hv
    unfold BlkOf
    rw [hh]
    have e1 : cur.toList.take (n * 1) = cur.toList := List.take_of_length_le (by simp [hs])
    rw [e1] at ht
    have e2 : cur = (cur.toList).toArray := by simp
    rw [e2, ht, hz]
    congr 2
    apply Array.ext
    · simp [size_madeCells]
    · intro i h1 h2
      simp [madeCells, Nat.mod_one]
/-- A row of which the first k cells have been set. -/
def HalfOf {α : Type} (f : α → Value) (mk : Nat → α) (lo hi : Nat) (w : World) (a : Option Addr) (n k : Nat) : Prop :=
  ∀ i, i < n → ∃ b o v, a = some ⟨b, o, none⟩ ∧ lo ≤ b ∧ b < hi ∧ w.cell? ⟨b, o + i, none⟩ = some (f v) ∧ (i < k → v = mk i) ∧ w.frozen? ⟨b, o + i, none⟩ = false
theorem HalfOf.start {α : Type} {f : α → Value} {mk : Nat → α} {d : α} {lo hi : Nat} {w : World} {a : Option Addr} {zs : List α} (h : OwnOf f d lo hi w a zs) : HalfOf f mk lo hi w a zs.length 0 :=
  fun i hi => let ⟨b, o, h1, h2, h3, h4, h5⟩ := h i hi; ⟨b, o, _, h1, h2, h3, h4, fun h => by omega, h5⟩
theorem HalfOf.done {α : Type} {f : α → Value} {mk : Nat → α} {lo hi : Nat} {w : World} {a : Option Addr} {n : Nat} (h : HalfOf f mk lo hi w a n n) (d : α) : OwnOf f d lo hi w a ((List.range n).map mk) :=
  fun i hi => by
    rw [List.length_map, List.length_range] at hi
    obtain ⟨b, o, v, h1, h2, h3, h4, h5, h6⟩ := h i hi
    exact ⟨b, o, h1, h2, h3, by rw [h4, h5 hi]; simp [List.getD_eq_getElem?_getD, hi], h6⟩
theorem cell_set_same {w : World} {b o : Nat} {v u : Value} (h : w.cell? ⟨b, o, none⟩ = some v) : (w.setCell ⟨b, o, none⟩ u).cell? ⟨b, o, none⟩ = some u := by
  unfold World.cell? World.setCell at *
  simp only [Array.getElem?_modify, if_true] at *
  cases hh : w.heap[b]? with
  | none => rw [hh] at h; cases h
  | some o' =>
    rw [hh] at h
    cases o' with
    | cells c e fr =>
      simp at h
      have hlt : o < c.size := (Array.getElem?_eq_some_iff.1 h).1
      simp [hlt]
    | _ => cases h
theorem cell_set_other {w : World} {b o i : Nat} {u : Value} (h : i ≠ o) : (w.setCell ⟨b, o, none⟩ u).cell? ⟨b, i, none⟩ = w.cell? ⟨b, i, none⟩ := by
  unfold World.cell? World.setCell
  simp only [Array.getElem?_modify]
  simp only [if_true]
  cases hh : w.heap[b]? with
  | none => simp
  | some o' =>
    cases o' <;> simp
    rw [Array.getElem?_setIfInBounds_ne (by omega)]
theorem frozen_set {w : World} {a p : Addr} {u : Value} : (w.setCell a u).frozen? p = w.frozen? p := by
  unfold World.frozen? World.setCell
  simp only [Array.getElem?_modify]
  by_cases e : a.block = p.block
  · rw [if_pos e]
    cases hh : w.heap[p.block]? with
    | none => simp
    | some o' => cases o' <;> simp
  · rw [if_neg e]
theorem HalfOf.next {α : Type} {f : α → Value} {mk : Nat → α} {lo hi : Nat} {w : World} {b o n k : Nat} (h : HalfOf f mk lo hi w (some ⟨b, o, none⟩) n k) (hk : k < n) : HalfOf f mk lo hi (w.setCell ⟨b, o + k, none⟩ (f (mk k))) (some ⟨b, o, none⟩) n (k + 1) := by
  intro i hi'
  obtain ⟨b', o', v, h1, h2, h3, h4, h5, h6⟩ := h i hi'
  simp only [Option.some.injEq, Addr.mk.injEq, and_true] at h1
  obtain ⟨rfl, rfl⟩ := h1
  by_cases e : i = k
  · subst e
    exact ⟨b, o, _, rfl, h2, h3, cell_set_same h4, fun _ => rfl, by rw [frozen_set]; exact h6⟩
  · exact ⟨b, o, v, rfl, h2, h3, by rw [cell_set_other (by omega)]; exact h4, fun hk' => h5 (by omega), by rw [frozen_set]; exact h6⟩
/-- A block of one cell. -/
def One (w : World) (p : Nat) (e : TypeId) (v : Value) : Prop := w.heap[p]? = some (.cells #[v] e (0, 0))
theorem One.cell {w : World} {p : Nat} {e : TypeId} {v : Value} (h : One w p e v) : w.cell? ⟨p, 0, none⟩ = some v := by unfold One at h; simp [World.cell?, h]
theorem One.free {w : World} {p : Nat} {e : TypeId} {v : Value} (h : One w p e v) : w.frozen? ⟨p, 0, none⟩ = false := by unfold One at h; simp [World.frozen?, h]
theorem One.lt {w : World} {p : Nat} {e : TypeId} {v : Value} (h : One w p e v) : p < w.heap.size := (Array.getElem?_eq_some_iff.1 h).1
theorem One.keep {w w' : World} {p : Nat} {e : TypeId} {v : Value} (h : One w p e v) (hk : w'.heap[p]? = w.heap[p]?) : One w' p e v := by unfold One at *; rw [hk, h]
theorem One.ext {w w' : World} {p : Nat} {e : TypeId} {v : Value} (h : One w p e v) (hx : w.Ext w') : One w' p e v := h.keep (hx.block h.lt)
theorem One.set {w : World} {p : Nat} {e : TypeId} {v : Value} (h : One w p e v) (u : Value) : One (w.setCell ⟨p, 0, none⟩ u) p e u := by
  unfold One at *
  simp [World.setCell, Array.getElem?_modify, h]
theorem One.other {w : World} {p : Nat} {e : TypeId} {v : Value} (h : One w p e v) {a : Addr} (ha : a.block ≠ p) (u : Value) : One (w.setCell a u) p e v := h.keep (Below.heap_setCell _ _ _ _ (Ne.symm ha))
theorem One.new (w : World) (v : Value) (e : TypeId) (p : Nat) (hp : p = w.heap.size) : One (w.alloc (.cells #[v] e)) p e v := by
  subst hp
  show (w.heap.push _)[w.heap.size]? = _
  simp
theorem One.grown {w w' : World} {p : Nat} {e : TypeId} {v : Value} (h : One w p e v) {row : Option Nat} (hg : w.grownBy w' row) (hne : some p ≠ row) : One w' p e v := h.keep (hg.block p h.lt hne)
/-- A slice of the call's own that is being filled: it holds 'xs'. -/
def GrowOf {α : Type} (f : α → Value) (lo : Nat) (e : TypeId) (w : World) (v : Value) (xs : List α) : Prop := w.ownsRow lo e 1 v xs.length (xs.map f)
section
variable {α : Type} {f : α → Value} {lo : Nat} {e : TypeId} {w w' : World} {v : Value} {xs : List α}
theorem GrowOf.empty (w : World) (h : lo ≤ w.heap.size) : GrowOf f lo e (w.alloc (.cells #[] e)) (.slice (some ⟨w.heap.size, 0, none⟩) 0 0) ([] : List α) :=
  ⟨rfl, .inr ⟨w.heap.size, 0, #[], rfl, h, by show (w.heap.push _)[w.heap.size]? = _; simp, Nat.le_refl _, Nat.zero_le _, rfl, rfl⟩⟩
theorem GrowOf.block (h : GrowOf f lo e w v xs) {k : Nat} (hk : v.ownBlock = some k) : lo ≤ k ∧ k < w.heap.size := by
  rcases h.2 with ⟨h0, _⟩ | ⟨g, cap, cur, h0, hg, hh, _⟩
  · rw [h0] at hk; cases hk
  · rw [h0] at hk
    simp only [Value.ownBlock, Option.some.injEq] at hk
    subst hk
    exact ⟨hg, (Array.getElem?_eq_some_iff.1 hh).1⟩
theorem GrowOf.keep (h : GrowOf f lo e w v xs) (hk : ∀ k, v.ownBlock = some k → w'.heap[k]? = w.heap[k]?) : GrowOf f lo e w' v xs := by
  refine ⟨h.1, ?_⟩
  rcases h.2 with h0 | ⟨g, cap, cur, h0, hg, hh, r⟩
  · exact .inl h0
  · exact .inr ⟨g, cap, cur, h0, hg, by rw [hk g (by rw [h0]; rfl)]; exact hh, r⟩
theorem GrowOf.ext (h : GrowOf f lo e w v xs) (hx : w.Ext w') : GrowOf f lo e w' v xs :=
  h.keep fun _ hk => hx.block (h.block hk).2
theorem GrowOf.ne {p : Nat} {e' : TypeId} {u : Value} (h : GrowOf f lo e w v xs) (ho : One w p e' u) (he : e ≠ e') : some p ≠ v.ownBlock := by
  intro hp
  rcases h.2 with ⟨h0, _⟩ | ⟨g, cap, cur, h0, hg, hh, _⟩
  · rw [h0] at hp; cases hp
  · rw [h0] at hp
    simp only [Value.ownBlock, Option.some.injEq] at hp
    subst hp
    unfold One at ho
    rw [hh] at ho
    simp only [Option.some.injEq, Obj.cells.injEq] at ho
    exact he ho.2.1
theorem GrowOf.setCell (h : GrowOf f lo e w v xs) {a : Addr} (ha : some a.block ≠ v.ownBlock) (u : Value) : GrowOf f lo e (w.setCell a u) v xs :=
  h.keep fun k hk => Below.heap_setCell _ _ _ _ fun e => ha (by rw [hk, e])
theorem GrowOf.form (h : GrowOf f lo e w v xs) : ∃ a cap, v = .slice a xs.length cap ∧ xs.length ≤ cap := by
  rcases h.2 with ⟨h0, hn⟩ | ⟨g, cap, cur, h0, _, _, hc, _⟩
  · exact ⟨none, 0, by rw [h0, hn], by omega⟩
  · exact ⟨_, cap, h0, hc⟩
theorem GrowOf.own (d : α) {a : Option Addr} {n cap : Nat} (h : GrowOf f lo e w (.slice a n cap) xs) : OwnOf f d lo w.heap.size w a xs := by
  intro i hi
  obtain ⟨h1, h2⟩ := h
  rcases h2 with ⟨_, h0⟩ | ⟨g, cap', cur, hv, hg, hh, hn, hcap, hs, ht⟩
  · omega
  · simp only [Value.slice.injEq] at hv
    obtain ⟨rfl, rfl, rfl⟩ := hv
    refine ⟨g, 0, rfl, hg, (Array.getElem?_eq_some_iff.1 hh).1, ?_, by simp [World.frozen?, hh]⟩
    rw [Nat.zero_add]
    have e1 : cur[i]? = some (f (xs.getD i d)) := by
      have : (cur.toList.take (xs.length * 1))[i]? = (xs.map f)[i]? := by rw [ht]
      rw [List.getElem?_take_of_lt (by omega)] at this
      simpa [List.getD_eq_getElem?_getD, hi] using this
    simp [World.cell?, hh, e1]
theorem GrowOf.some (h : GrowOf f lo e w v xs) (hp : 0 < xs.length) : ∃ g cap, v = .slice (some ⟨g, 0, none⟩) xs.length cap ∧ lo ≤ g ∧ g < w.heap.size ∧ ∀ (d : α) i, i < xs.length → w.cell? ⟨g, i, none⟩ = Option.some (f (xs.getD i d)) := by
  obtain ⟨a, cap, hv, _⟩ := h.form
  subst hv
  have ho := fun d => GrowOf.own d h
  rcases h.2 with ⟨_, h0⟩ | ⟨g, cap', cur, hv, hg, hh, _⟩
  · omega
  · simp only [Value.slice.injEq] at hv
    obtain ⟨rfl, -, rfl⟩ := hv
    refine ⟨g, cap, rfl, hg, (Array.getElem?_eq_some_iff.1 hh).1, fun d i hi => ?_⟩
    obtain ⟨b, o, h1, _, _, h4, _⟩ := ho d i hi
    simp only [Option.some.injEq, Addr.mk.injEq, and_true] at h1
    obtain ⟨rfl, rfl⟩ := h1
    rwa [Nat.zero_add] at h4
/-- The block of a slice has elements of a type. -/
def Tag (w : World) (a : Option Addr) (e : TypeId) : Prop := ∀ b o s, a = Option.some ⟨b, o, s⟩ → ∃ cs fr, w.heap[b]? = Option.some (.cells cs e fr)
theorem GrowOf.tag {a : Option Addr} {n cap : Nat} (h : GrowOf f lo e w (.slice a n cap) xs) : Tag w a e := by
  intro b o s ha
  subst ha
  rcases h.2 with ⟨h0, _⟩ | ⟨g, cap', cur, hv, _, hh, _⟩
  · cases h0
  · simp only [Value.slice.injEq, Option.some.injEq, Addr.mk.injEq] at hv
    obtain ⟨⟨rfl, -, -⟩, -, -⟩ := hv
    exact ⟨cur, _, hh⟩
theorem BlkOf.tag {g : Nat} (h : BlkOf f w g e xs) : Tag w (Option.some ⟨g, 0, none⟩) e := by
  intro b o s ha
  simp only [Option.some.injEq, Addr.mk.injEq] at ha
  obtain ⟨rfl, -, -⟩ := ha
  exact ⟨_, _, h⟩
theorem Tag.keep {a : Option Addr} {e : TypeId} (h : Tag w a e) (hk : ∀ b o s, a = Option.some ⟨b, o, s⟩ → w'.heap[b]? = w.heap[b]?) : Tag w' a e :=
  fun b o s ha => let ⟨cs, fr, hh⟩ := h b o s ha; ⟨cs, fr, by rw [hk b o s ha, hh]⟩
theorem Tag.lt {a : Option Addr} {e : TypeId} (h : Tag w a e) {b o : Nat} {s : Option Nat} (ha : a = Option.some ⟨b, o, s⟩) : b < w.heap.size :=
  let ⟨_, _, hh⟩ := h b o s ha; (Array.getElem?_eq_some_iff.1 hh).1
theorem Tag.ext {a : Option Addr} {e : TypeId} (h : Tag w a e) (hx : w.Ext w') : Tag w' a e :=
  h.keep fun _ _ _ ha => hx.block (h.lt ha)
theorem Tag.ne {a : Option Addr} {e' : TypeId} (h : Tag w a e') (hg : GrowOf f lo e w v xs) (he : e ≠ e') {b o : Nat} {s : Option Nat} (ha : a = Option.some ⟨b, o, s⟩) : Option.some b ≠ v.ownBlock := by
  intro hp
  obtain ⟨cs, fr, hb⟩ := h b o s ha
  rcases hg.2 with ⟨h0, _⟩ | ⟨g, cap, cur, h0, _, hh, _⟩
  · rw [h0] at hp; cases hp
  · rw [h0] at hp
    simp only [Value.ownBlock, Option.some.injEq] at hp
    subst hp
    rw [hh] at hb
    simp only [Option.some.injEq, Obj.cells.injEq] at hb
    exact he hb.2.1
/-- A row that is read while another one, of another type, grows. -/
theorem RowOf.grown {β : Type} {fb : β → Value} {d : β} {a : Option Addr} {ys : List β} {row : Option Nat} (h : RowOf fb d w a ys) (hg : w.grownBy w' row) (hne : ∀ b o, a = Option.some ⟨b, o, none⟩ → Option.some b ≠ row) : RowOf fb d w' a ys :=
  fun i hi => let ⟨b, o, h1, h2⟩ := h i hi; ⟨b, o, h1, hg.cell h2 (hne b o h1)⟩
theorem Tag.grown {a : Option Addr} {e : TypeId} {row : Option Nat} (h : Tag w a e) (hg : w.grownBy w' row) (hne : ∀ b o s, a = Option.some ⟨b, o, s⟩ → Option.some b ≠ row) : Tag w' a e :=
  h.keep fun b o s ha => hg.block b (h.lt ha) (hne b o s ha)
/-- Behind an append of several. -/
theorem GrowOf.pushes {w1 : World} {v' : Value} {ys : List α} (ho : w1.ownsRow lo e 1 v' (xs.length + ys.length) (xs.map f ++ ys.map f)) : GrowOf f lo e w1 v' (xs ++ ys) := by
  unfold GrowOf
  simpa using ho
theorem GrowOf.pushesExt {w0 : World} {w1 : World} (h : GrowOf f w0.heap.size e w v xs) (hx : w0.Ext w) (hg : w.grownBy w1 v.ownBlock) : w0.Ext w1 :=
  hx.grown hg fun _ hk => (h.block hk).1
/-- Behind an append of one element. -/
theorem GrowOf.push {w1 : World} {v' : Value} {x : α} (ho : w1.ownsRow lo e 1 v' (xs.length + 1) (xs.map f ++ [f x])) : GrowOf f lo e w1 v' (xs ++ [x]) := by
  unfold GrowOf
  simpa using ho
theorem GrowOf.pushExt {w0 : World} {o : Obj} {w1 : World} (h : GrowOf f w0.heap.size e w v xs) (hx : w0.Ext w) (hg : (w.alloc o).grownBy w1 v.ownBlock) : w0.Ext w1 :=
  (hx.alloc o).grown hg fun _ hk => (h.block hk).1
end
theorem Addr.add_mk (b o j : Nat) : (⟨b, o, none⟩ : Addr).add j = ⟨b, o + j, none⟩ := by unfold Addr.add; split <;> simp_all
/-- What an append of a row asks of its cells. -/
theorem RowOf.news {α : Type} {f : α → Value} {d : α} {w : World} {b o : Nat} {xs : List α} (h : RowOf f d w (some ⟨b, o, none⟩) xs) : ∀ j u, (xs.map f)[j]? = some u → w.cell? ((⟨b, o, none⟩ : Addr).add j) = some u := by
  intro j u hu
  rw [Addr.add_mk]
  rw [List.getElem?_map] at hu
  cases hx : xs[j]? with
  | none => rw [hx] at hu; cases hu
  | some x =>
    rw [hx] at hu
    simp at hu
    subst hu
    have hj : j < xs.length := (List.getElem?_eq_some_iff.1 hx).1
    obtain ⟨b', o', h1, h2⟩ := h j hj
    simp only [Option.some.injEq, Addr.mk.injEq, and_true] at h1
    obtain ⟨rfl, rfl⟩ := h1
    rw [h2]
    simp [List.getD_eq_getElem?_getD, hx]
end Go
namespace Go
section
variable {P : Program} {ops : Array Oper} {md : Region.Mode} {C : World → Prop}
/-- Only quiet operations with a number below n may come up for f steps, whatever the order; then L. -/
def quietHead (P : Program) (md : Region.Mode) (ops : Array Oper) (C : World → Prop) (n : Nat) (L : Array Bool → Act → Prop) : Nat → Array Bool → Act → Prop
  | 0, listed, a => L listed a
  | f + 1, listed, a => Region.ready md ops listed ≠ [] ∧
      ∀ i ∈ Region.ready md ops listed, i < n ∧ qOp P ops C i (quietHead P md ops C n L f (listed.setIfInBounds i true)) a
theorem wpAny_of_quietHead {n g : Nat} {L : Array Bool → Act → Prop} {Q' : Exit → Act → World → Prop} (hL : ∀ listed a w, C w → L listed a → wpAny P md ops Q' g listed a w) (f : Nat) :
    ∀ (listed : Array Bool) (a : Act) (w : World), C w → quietHead P md ops C n L f listed a → wpAny P md ops Q' (f + g) listed a w := by
  induction f with
  | zero => intro listed a w hw h; rw [Nat.zero_add]; exact hL _ _ _ hw h
  | succ f ih =>
    intro listed a w hw h
    rw [show f + 1 + g = (f + g) + 1 by omega]
    exact ⟨fun h0 => absurd h0 h.1, fun i hi => wpOp_of_qOp hw (fun a' w' hw' h' => ih _ a' w' hw' h') (h.2 i hi).2⟩
/-- A quiet operation that may come up may come up first. -/
theorem quietHead_first {n i : Nat} {oi : Oper} {v : Value} {L : Array Bool → Act → Prop} (hi : ops[i]? = some oi) (hsel : ∀ (j : Nat) (o : Oper) cs b, ops[j]? = some o → o.op ≠ .select cs b)
    (hs : Region.sinkB md ops n = true) (hc : Region.chainB md ops n = true) (hn : n < ops.size) (hin : i < n)
    (hL : ∀ listed a, L listed a → ∀ j ∈ Region.ready md ops listed, n ≤ j) (f : Nat) :
    ∀ (listed : Array Bool) (a : Act), HeadInv md ops n listed →
      (∀ j oj, ops[j]? = some oj → j ≠ i → listed.getD j true = false → (∀ e ∈ oj.after, Region.binds md e = true → e.on ≠ i) → oi.apart ops oj = true) →
      i ∈ Region.ready md ops listed → YieldsIn P ops C oi v a →
      quietHead P md ops C n L f (listed.setIfInBounds i true) (a.put oi.dst v) → quietHead P md ops C n L (f + 1) listed a := by
  have small : ∀ (listed : Array Bool), HeadInv md ops n listed → i ∈ Region.ready md ops listed → ∀ j ∈ Region.ready md ops listed, j < n := fun listed inv hr j hj => by
    rcases Nat.lt_or_ge j n with h | h
    · exact h
    · exact absurd hj (tail_waits hs hc hn inv _ i rfl hin (mem_ready.1 hr).1 j h)
  have nonempty : ∀ {listed : Array Bool}, i ∈ Region.ready md ops listed → Region.ready md ops listed ≠ [] := fun hr h => by rw [h] at hr; cases hr
  induction f with
  | zero =>
    intro listed a inv _ hr hy H
    refine ⟨nonempty hr, fun j hj => ⟨small _ inv hr j hj, ?_⟩⟩
    by_cases hji : j = i
    · subst hji; exact hy.qOp hi H
    · have h1 := hL _ _ H j (ready_mono hj hji)
      have h2 := small _ inv hr j hj
      omega
  | succ f ih =>
    intro listed a inv hfree hr hy H
    refine ⟨nonempty hr, fun j hj => ⟨small _ inv hr j hj, ?_⟩⟩
    by_cases hji : j = i
    · subst hji; exact hy.qOp hi H
    · obtain ⟨hjun, oj, hoj, hall⟩ := mem_ready.1 hj
      have hun := getD_both (mem_ready.1 hr).1
      have apart : oi.apart ops oj = true := hfree j oj hoj hji hjun fun e he hb heq => by
        have h1 := hall e he hb
        rw [heq, hun] at h1
        cases h1
      have step := qOp_put hoj apart (fun cs b => hsel i oi cs b hi) (fun cs b => hsel j oj cs b hoj) hy (H.2 j (ready_mono hj hji)).2
      refine qOp_mono (fun a' h3 => ih (listed.setIfInBounds j true) a' (inv.set hj (small _ inv hr j hj)) (fun k ok hk hki hun' hno => ?_) (ready_mono hr (Ne.symm hji)) h3.1 ?_) step
      · refine hfree k ok hk hki ?_ hno
        by_cases hjk : j = k
        · subst hjk; exact hjun
        · rwa [getD_set_ne true hjk] at hun'
      · rw [Array.setIfInBounds_comm _ _ hji]
        exact h3.2
/-- The walk of the text's order serves. -/
theorem quietHead_lex {n g : Nat} {T : Act → Prop} (hsel : Region.noSelect ops = true) (hs : Region.sinkB md ops n = true) (hc : Region.chainB md ops n = true) (hn : n < ops.size) (l : List Oper) :
    ∀ (k : Nat) (listed : Array Bool) (a : Act), (∀ j, j < l.length → l[j]? = ops[k + j]?) → k + l.length = n → HeadInv md ops n listed →
      Region.lexHead md ops g l.length k listed = true → wpQuiet P ops C T l a →
      quietHead P md ops C n (fun listed' a' => Region.seqB md ops g n listed' = true ∧ T a') l.length listed a := by
  induction l with
  | nil =>
    intro k listed a _ hk _ hB h
    obtain rfl : k = n := by simpa using hk
    exact ⟨by simpa [Region.lexHead] using hB, h⟩
  | cons o l ih =>
    intro k listed a hl hk inv hB h
    have h0 : ops[k]? = some o := by simpa using (hl 0 (by simp)).symm
    simp only [List.length_cons, Region.lexHead, Bool.and_eq_true] at hB hk
    have hr : k ∈ Region.ready md ops listed := by simpa using hB.1.1
    have hq : qOp P ops C k (wpQuiet P ops C T l) a := by unfold qOp; simp only [h0]; exact h
    obtain ⟨v, hy, hK⟩ := yieldsIn_of_qOp h0 hq
    exact quietHead_first h0 (Region.noSelect_spec hsel) hs hc hn (by omega) (fun _ _ hL => seqB_ready hL.1) l.length listed a inv (Region.free_spec h0 hB.1.2) hr hy
      (ih (k + 1) _ _ (fun j hj => by have := hl (j + 1) (by simp; omega); simpa [Nat.add_assoc, Nat.add_comm 1 j] using this) (by omega) (inv.set hr (by omega)) hB.2 hK)
theorem wp_region_over_tail {id : Nat} {Q : Exit → Act → World → Prop} {a : Act} {w : World} {l : List Oper} (n : Nat) (hm : P.follows .mixedOrders = true) (hB : Region.lexTailB .any l.toArray n = true)
    (h : wpQuiet P l.toArray (fun w' => ∃ x, w' = w.over x) (fun a' => ∀ w', (∃ x, w' = w.over x) → wpList P l.toArray Q (l.drop n) a' w') (l.take n) a) : (Code.region id l.toArray true).wp P Q a w := by
  simp only [Region.lexTailB, Bool.and_eq_true, decide_eq_true_eq] at hB
  obtain ⟨⟨⟨⟨hsel, hn⟩, hs⟩, hc⟩, hlex⟩ := hB
  have hnl : n < l.length := by simpa using hn
  have htl : (l.take n).length = n := by simp; omega
  have hdl : (l.drop n).length = l.toArray.size - n := by simp
  have inv0 : HeadInv .any l.toArray n (Array.replicate l.toArray.size false) :=
    ⟨by simp, fun j oj _ hl => (by rw [getD_replicate_false] at hl; cases hl), fun t _ ht => getD_in (by simpa using ht) (getD_replicate_false _ _)⟩
  have H := quietHead_lex (md := .any) (g := l.toArray.size - n) hsel hs hc hn (l.take n) 0 _ a (fun j hj => by
    have hj' : j < n := by rw [htl] at hj; exact hj
    simp [hj']) (by simpa using htl) inv0 (by rw [htl]; exact hlex) h
  refine wp_region_any hm ?_
  have := wpAny_of_quietHead (Q' := Q) (g := l.toArray.size - n) (fun listed a' w' hw' hL => by
    have := wpAny_of_seq (md := .any) (Q' := Q) (l.drop n) n listed a' w' (fun j => by simp [List.getElem?_drop]) (by rw [hdl]; exact hL.1) (hL.2 w' hw')
    rwa [hdl] at this) _ _ _ { w with drawn := w.drawn + 1 } (World.Ext.refl w).drew H
  rw [htl, show n + (l.toArray.size - n) = l.toArray.size by omega] at this
  exact this
end
end Go
