/- How slices read: rows of cells, rows of rows; kept by worlds that extend a world, and by writes elsewhere. -/
import Derived.Test.YtpploijlijnahaaOver
import Derived.WalkLawsBesides
import Derived.WalkSpells
import Derived.Lib.Hide
import Derived.Handy
import Derived.Deep.Light
namespace Go
open Go.RowKit
theorem ret_int {k : IntKind} {a b : Int} (h : a = b) : Ending.returned (.int k a) = .returned (.int k b) := by rw [h]
theorem ret_bool {a b : Bool} (h : a = b) : Ending.returned (.bool a) = .returned (.bool b) := by rw [h]
/-- Only blocks of 'S' have been written; there may be new blocks. -/
structure Wrote (S : Nat → Prop) (w w' : World) : Prop where
  os : w'.os = w.os
  tape : w'.tape = w.tape
  output : w'.output = w.output
  size : w.heap.size ≤ w'.heap.size
  block : ∀ k, k < w.heap.size → ¬ S k → w'.heap[k]? = w.heap[k]?
theorem Wrote.refl (S : Nat → Prop) (w : World) : Wrote S w w := ⟨rfl, rfl, rfl, Nat.le_refl _, fun _ _ _ => rfl⟩
theorem Wrote.trans {S : Nat → Prop} {a b c : World} (h : Wrote S a b) (k : Wrote S b c) : Wrote S a c :=
  ⟨k.os.trans h.os, k.tape.trans h.tape, k.output.trans h.output, Nat.le_trans h.size k.size, fun i hi hs => (k.block i (Nat.lt_of_lt_of_le hi h.size) hs).trans (h.block i hi hs)⟩
theorem Wrote.mono {S T : Nat → Prop} {a b : World} (h : Wrote S a b) (hs : ∀ k, k < a.heap.size → S k → T k) : Wrote T a b :=
  ⟨h.os, h.tape, h.output, h.size, fun k hk ht => h.block k hk fun h' => ht (hs k hk h')⟩
theorem World.Ext.wrote {w w' : World} (h : w.Ext w') (S : Nat → Prop) : Wrote S w w' :=
  ⟨h.below.os, h.below.tape, h.below.output, h.size, fun k hk _ => h.below.block k hk⟩
theorem Wrote.setCell {S : Nat → Prop} {a w : World} (h : Wrote S a w) {p : Addr} (hp : S p.block) (u : Value) : Wrote S a (w.setCell p u) :=
  h.trans ⟨rfl, rfl, rfl, by simp [World.setCell], fun k _ hs => Below.heap_setCell _ _ _ _ fun e => hs (e ▸ hp)⟩
theorem Wrote.ext {S : Nat → Prop} {w w' : World} (h : Wrote S w w') (hs : ∀ k, k < w.heap.size → ¬ S k) : w.Ext w' :=
  .of_below ⟨h.os, h.tape, h.output, h.size, fun k hk => h.block k hk (hs k hk)⟩
theorem World.Ext.wroteNew {S : Nat → Prop} {w w1 w2 : World} (h : w.Ext w1) (hw : Wrote S w1 w2) (hs : ∀ k, k < w.heap.size → ¬ S k) : w.Ext w2 := ((h.wrote S).trans hw).ext hs
theorem Wrote.cell {S : Nat → Prop} {w w' : World} (h : Wrote S w w') {a : Addr} {v : Value} (hv : w.cell? a = some v) (ha : ¬ S a.block) : w'.cell? a = some v := by
  rw [World.cell?_of_block (w := w) (h.block _ (World.block_lt_of_cell? w _ hv) ha)]; exact hv
theorem Wrote.frozen {S : Nat → Prop} {w w' : World} (h : Wrote S w w') {a : Addr} {v : Value} (hv : w.cell? a = some v) (ha : ¬ S a.block) : w'.frozen? a = w.frozen? a :=
  World.frozen?_of_block (w := w) (h.block _ (World.block_lt_of_cell? w _ hv) ha)
theorem World.Ext.frozen {w w' : World} (h : w.Ext w') {a : Addr} {v : Value} (hv : w.cell? a = some v) : w'.frozen? a = w.frozen? a :=
  (h.wrote fun _ => False).frozen hv id
theorem World.Ext.free {w w' : World} (h : w.Ext w') {a : Addr} {v : Value} (hv : w.cell? a = some v) (hf : w.frozen? a = false) : w'.frozen? a = false := by rw [h.frozen hv, hf]
/-- The elements of a slice that starts at 'a' are 'xs'. -/
def RowOf {α : Type} (f : α → Value) (d : α) (w : World) (a : Option Addr) (xs : List α) : Prop :=
  ∀ i, i < xs.length → ∃ b o, a = some ⟨b, o, none⟩ ∧ w.cell? ⟨b, o + i, none⟩ = some (f (xs.getD i d))
def RowI := RowOf (Value.int .i64) 0
def RowU := RowOf (Value.int .u8) 0
def RowS := RowOf Value.string ByteArray.empty
def RowB := RowOf Value.bool false
/-- The same, in memory of blocks from 'lo' up to 'hi' that may be written. -/
def OwnOf {α : Type} (f : α → Value) (d : α) (lo hi : Nat) (w : World) (a : Option Addr) (xs : List α) : Prop :=
  ∀ i, i < xs.length → ∃ b o, a = some ⟨b, o, none⟩ ∧ lo ≤ b ∧ b < hi ∧ w.cell? ⟨b, o + i, none⟩ = some (f (xs.getD i d)) ∧ w.frozen? ⟨b, o + i, none⟩ = false
section
variable {α : Type} {f : α → Value} {d : α} {lo hi lo' hi' : Nat} {w w' : World} {a : Option Addr} {xs : List α}
theorem OwnOf.row (h : OwnOf f d lo hi w a xs) : RowOf f d w a xs :=
  fun i hi => let ⟨b, o, h1, _, _, h3, _⟩ := h i hi; ⟨b, o, h1, h3⟩
theorem OwnOf.mono (h : OwnOf f d lo hi w a xs) (hl : lo' ≤ lo) (hh : hi ≤ hi') : OwnOf f d lo' hi' w a xs :=
  fun i hi => let ⟨b, o, h1, h2, h2', h3, h4⟩ := h i hi; ⟨b, o, h1, Nat.le_trans hl h2, Nat.lt_of_lt_of_le h2' hh, h3, h4⟩
theorem RowOf.ext (h : RowOf f d w a xs) (hx : w.Ext w') : RowOf f d w' a xs :=
  fun i hi => let ⟨b, o, h1, h2⟩ := h i hi; ⟨b, o, h1, hx.cell h2⟩
theorem RowOf.nil (w : World) (a : Option Addr) : RowOf f d w a [] := fun i hi => by cases hi
theorem OwnOf.nil (w : World) (a : Option Addr) : OwnOf f d lo hi w a [] := fun i hi => by cases hi
theorem OwnOf.wrote {S : Nat → Prop} (h : OwnOf f d lo hi w a xs) (hx : Wrote S w w') (hs : ∀ k, lo ≤ k → k < hi → ¬ S k) : OwnOf f d lo hi w' a xs :=
  fun i hi => let ⟨b, o, h1, h2, h2', h3, h4⟩ := h i hi; ⟨b, o, h1, h2, h2', hx.cell h3 (hs b h2 h2'), by rw [hx.frozen h3 (hs b h2 h2')]; exact h4⟩
theorem OwnOf.ext (h : OwnOf f d lo hi w a xs) (hx : w.Ext w') : OwnOf f d lo hi w' a xs := h.wrote (hx.wrote fun _ => False) fun _ _ _ => id
end
/-- A slice of slices of integers: row r starts at 'A r' and has room for 'C r'. -/
def MatAt (w : World) (a : Option Addr) (A : Nat → Option Addr) (C : Nat → Nat) (m : List (List Int)) : Prop :=
  ∀ r, r < m.length → (∃ b o, a = some ⟨b, o, none⟩ ∧ w.cell? ⟨b, o + r, none⟩ = some (.slice (A r) (m.getD r []).length (C r))) ∧ RowI w (A r) (m.getD r [])
theorem MatAt.ext {w w' : World} {a : Option Addr} {A : Nat → Option Addr} {C : Nat → Nat} {m : List (List Int)} (h : MatAt w a A C m) (hx : w.Ext w') : MatAt w' a A C m :=
  fun r hr => let ⟨⟨b, o, h1, h2⟩, h3⟩ := h r hr; ⟨⟨b, o, h1, hx.cell h2⟩, RowOf.ext h3 hx⟩
/-- The same, in memory of blocks from 'lo' up to 'hi' that may be written, each row in a block of its own. -/
structure OwnMat (lo hi : Nat) (w : World) (a : Option Addr) (A : Nat → Option Addr) (C : Nat → Nat) (m : List (List Int)) : Prop where
  outer : ∀ r, r < m.length → ∃ b o, a = some ⟨b, o, none⟩ ∧ lo ≤ b ∧ b < hi ∧ w.cell? ⟨b, o + r, none⟩ = some (.slice (A r) (m.getD r []).length (C r)) ∧
    ∀ s b' o', s < m.length → A s = some ⟨b', o', none⟩ → b' ≠ b
  rows : ∀ r, r < m.length → OwnOf (Value.int .i64) 0 lo hi w (A r) (m.getD r [])
  apart : ∀ r s b o b' o', r < m.length → s < m.length → r ≠ s → A r = some ⟨b, o, none⟩ → A s = some ⟨b', o', none⟩ → b ≠ b'
section
variable {lo hi lo' hi' : Nat} {w w' : World} {a : Option Addr} {A : Nat → Option Addr} {C : Nat → Nat} {m : List (List Int)}
theorem OwnMat.mat (h : OwnMat lo hi w a A C m) : MatAt w a A C m :=
  fun r hr => ⟨let ⟨b, o, h1, _, _, h4, _⟩ := h.outer r hr; ⟨b, o, h1, h4⟩, (h.rows r hr).row⟩
theorem OwnMat.mono (h : OwnMat lo hi w a A C m) (hl : lo' ≤ lo) (hh : hi ≤ hi') : OwnMat lo' hi' w a A C m :=
  ⟨fun r hr => let ⟨b, o, h1, h2, h3, h4, h5⟩ := h.outer r hr; ⟨b, o, h1, Nat.le_trans hl h2, Nat.lt_of_lt_of_le h3 hh, h4, h5⟩, fun r hr => (h.rows r hr).mono hl hh, h.apart⟩
theorem OwnMat.wrote {S : Nat → Prop} (h : OwnMat lo hi w a A C m) (hx : Wrote S w w') (hs : ∀ k, lo ≤ k → k < hi → ¬ S k) : OwnMat lo hi w' a A C m :=
  ⟨fun r hr => let ⟨b, o, h1, h2, h3, h4, h5⟩ := h.outer r hr; ⟨b, o, h1, h2, h3, hx.cell h4 (hs b h2 h3), h5⟩, fun r hr => (h.rows r hr).wrote hx hs, h.apart⟩
theorem OwnMat.ext (h : OwnMat lo hi w a A C m) (hx : w.Ext w') : OwnMat lo hi w' a A C m := h.wrote (hx.wrote fun _ => False) fun _ _ _ => id
end
/-- The marks of n cells from k on. -/
def marksI (k : Int) (n : Nat) : List Int := (List.range n).map fun i => k + (i : Nat)
theorem marksI_len (k : Int) (n : Nat) : (marksI k n).length = n := by simp [marksI]
theorem marksI_at (k : Int) (n i : Nat) (h : i < n) : (marksI k n).getD i 0 = k + i := by simp [marksI, List.getD_eq_getElem?_getD, h]
end Go
