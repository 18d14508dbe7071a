/- Numbers of components: the program's side. -/
import Derived.Test.YtelaoimcaidoiaaFillF
namespace Go.Proofs.Ytelaoimcaidoiaa
open Go Go.RowKit
theorem zeroI64 (w : World) : (zeroValue 2).run Try.prog w = .ok (.int .i64 0) w := by kernel_rfl
/-- What a map of numbers holds. -/
def labM (f : Int × Int → Nat) (q : Int × Int) : Option Value := if 0 < f q then some (.int .i64 (f q)) else none
theorem labM_val {f : Int × Int → Nat} (q : Int × Int) : (labM f q).getD (.int .i64 0) = .int .i64 (f q) := by
  unfold labM
  by_cases h : 0 < f q
  · rw [if_pos h]; rfl
  · rw [if_neg h, show f q = 0 by omega]; rfl
/-- Those of ds that have come have the number m. -/
def mixF (ds : List (Int × Int)) (left : Int × Int → Bool) (m : Nat) (f : Int × Int → Nat) (q : Int × Int) : Nat := if q ∈ ds ∧ left q = false then m else f q
theorem mixF_start {ds : List (Int × Int)} {left : Int × Int → Bool} {m : Nat} {f : Int × Int → Nat} (h : ∀ q, q ∈ ds → left q = true) (q : Int × Int) : f q = mixF ds left m f q := by
  unfold mixF
  rw [if_neg]
  rintro ⟨h1, h2⟩
  rw [h q h1] at h2
  cases h2
theorem mixF_step {ds : List (Int × Int)} {left : Int × Int → Bool} {m : Nat} {f : Int × Int → Nat} {p : Int × Int} (hp : p ∈ ds) (hm : 0 < m) (q : Int × Int) :
    (if q = p then some (Value.int .i64 m) else labM (mixF ds left m f) q) = labM (mixF ds (fun q => left q && !(q == p)) m f) q := by
  by_cases e : q = p
  · subst e
    rw [if_pos rfl]
    unfold labM mixF
    rw [if_pos (show q ∈ ds ∧ (left q && !(q == q)) = false from ⟨hp, by simp⟩), if_pos hm]
  · rw [if_neg e]
    have : (left q && !(q == p)) = left q := by simp [e]
    unfold labM mixF
    simp only [this]
theorem mixF_done {ds : List (Int × Int)} {left : Int × Int → Bool} {m : Nat} {f : Int × Int → Nat} (h : ∀ q, left q = false) (q : Int × Int) : (q ∈ ds → mixF ds left m f q = m) ∧ (¬ q ∈ ds → mixF ds left m f q = f q) := by
  unfold mixF
  exact ⟨fun h1 => if_pos ⟨h1, h q⟩, fun h1 => if_neg fun h2 => h1 h2.1⟩
/-- The numbers under way: of all that was there behind W3, just the map has been written. -/
def LiSt (W3 : World) (bm : Nat) (f : Int × Int → Nat) (wr : World) : Prop := Wrote (fun k => k = bm ∨ W3.heap.size ≤ k) W3 wr ∧ MapS wr Try.prog 33 bm (labM f)
theorem LiSt.ext {W3 : World} {bm : Nat} {f : Int × Int → Nat} {wr w' : World} (h : LiSt W3 bm f wr) (hx : wr.Ext w') : LiSt W3 bm f w' := ⟨h.1.trans (hx.wrote _), h.2.ext hx⟩
theorem LiSt.put {W3 : World} {bm : Nat} {f f' : Int × Int → Nat} {wr w' : World} {g : Int × Int → Option Value} (h : LiSt W3 bm f wr) (hm : MapS w' Try.prog 33 bm g) (hg : wr.grownBy w' (some bm)) (e : ∀ q, g q = labM f' q) : LiSt W3 bm f' w' :=
  ⟨h.1.trans ⟨hg.os, hg.tape, hg.output, hg.size, fun k hk hs => hg.block k hk (by simp only [ne_eq, Option.some.injEq]; exact fun e => hs (.inl e))⟩, hm.congr e⟩
theorem LiSt.grown {W3 : World} {bm r : Nat} {f : Int × Int → Nat} {wr w' : World} (h : LiSt W3 bm f wr) (hg : wr.grownBy w' (some r)) (h1 : r ≠ bm) (h2 : W3.heap.size ≤ r) : LiSt W3 bm f w' :=
  ⟨h.1.trans ⟨hg.os, hg.tape, hg.output, hg.size, fun k hk hs => hg.block k hk (by simp only [ne_eq, Option.some.injEq]; exact fun e => hs (.inr (by omega)))⟩, h.2.grown hg (by simp only [ne_eq, Option.some.injEq]; omega)⟩
theorem LiSt.congr {W3 : World} {bm : Nat} {f f' : Int × Int → Nat} {wr : World} (h : LiSt W3 bm f wr) (e : ∀ q, f q = f' q) : LiSt W3 bm f' wr := (funext e : f = f') ▸ h
def LabRet (w : World) (f : Int × Int → Nat) (n : Nat) (e : Ending) (w' : World) : Prop :=
  ∃ bm, e = .returned (.tuple #[.map (some bm), .int .i64 n]) ∧ w.Ext w' ∧ w.heap.size ≤ bm ∧ MapS w' Try.prog 33 bm (labM f)
end Go.Proofs.Ytelaoimcaidoiaa
