/- What is reached: the program's search, over a map. -/
import Derived.Test.YtelaoimcaidoiaaRchS
namespace Go.Proofs.Ytelaoimcaidoiaa
open Go Go.RowKit
def mapG (ds : List (Int × Int)) (p : Int × Int) : Option Value := if p ∈ ds then some (.bool true) else none
theorem mapG_in {ds : List (Int × Int)} (p : Int × Int) : (∃ v, mapG ds p = some v) ↔ p ∈ ds := by
  unfold mapG
  by_cases h : p ∈ ds <;> simp [h]
theorem mapG_push (ds : List (Int × Int)) (p q : Int × Int) : (if q = p then some (Value.bool true) else mapG ds q) = mapG (ds ++ [p]) q := by
  unfold mapG
  by_cases h : q = p
  · subst h; simp
  · by_cases h2 : q ∈ ds <;> simp [h, h2]
theorem mapG_val {ds : List (Int × Int)} (p : Int × Int) : (mapG ds p).getD (.bool false) = .bool (decide (p ∈ ds)) := by
  unfold mapG
  by_cases h : p ∈ ds <;> simp [h]
theorem zeroBool (w : World) : (zeroValue 4).run Try.prog w = .ok (.bool false) w := by kernel_rfl
theorem spotWf {x y : Int} (hx : -1000 ≤ x ∧ x ≤ 1000) (hy : -1000 ≤ y ∧ y ≤ 1000) : SpotWf (x, y) := by
  have m1 : IntKind.i64.min = -9223372036854775808 := by decide
  have m2 : IntKind.i64.max = 9223372036854775807 := by decide
  constructor <;> (show (decide (IntKind.i64.min ≤ _) && decide (_ ≤ IntKind.i64.max)) = true; rw [m1, m2, Bool.and_eq_true, decide_eq_true_eq, decide_eq_true_eq]; simp only; omega)
/-- The search under way: the map of what is entered, of the list of it all but the first i. -/
structure SSt (w : World) (bm : Nat) (a11 : Option Addr) (ks : List (Int × Int)) (ds : List (Int × Int)) (i : Nat) (v : Value) (wr : World) : Prop where
  x : w.Ext wr
  map : MapS wr Try.prog 33 bm (mapG ds)
  q : wr.ownsQ w.heap.size 33 2 v (ds.length - i) ((flatP (ds.drop i)).map (Value.int .i64))
  row : RowP wr a11 ks
  ap : ∀ b o, a11 = some ⟨b, o, none⟩ → b < wr.heap.size ∧ b ≠ bm ∧ v.ownBlock ≠ some b
  lo : w.heap.size ≤ bm
section
variable {w : World} {bm i : Nat} {a11 : Option Addr} {ks ds : List (Int × Int)} {v : Value} {wr : World}
theorem SSt.ext {w' : World} (h : SSt w bm a11 ks ds i v wr) (hx : wr.Ext w') : SSt w bm a11 ks ds i v w' :=
  ⟨h.x.trans hx, h.map.ext hx, h.q.ext hx, h.row.ext hx, fun b o e => ⟨Nat.lt_of_lt_of_le (h.ap b o e).1 hx.size, (h.ap b o e).2⟩, h.lo⟩
theorem SSt.neq (h : SSt w bm a11 ks ds i v wr) : v.ownBlock ≠ some bm := by
  intro e
  obtain ⟨_, g, o, cap, cur, rfl, _, hh, _⟩ := h.q
  simp only [Value.ownBlock, Option.some.injEq] at e
  exact h.map.ne hh e
theorem SSt.put (h : SSt w bm a11 ks ds i v wr) {w7 : World} (hg : wr.grownBy w7 (some bm)) : w7.ownsQ w.heap.size 33 2 v (ds.length - i) ((flatP (ds.drop i)).map (Value.int .i64)) :=
  h.q.grown hg h.neq
theorem SSt.push (h : SSt w bm a11 ks ds i v wr) (hi : i ≤ ds.length) {p : Int × Int} {w7 w8 : World} (hm : MapS w7 Try.prog 33 bm (fun q => if q = p then some (.bool true) else mapG ds q)) (hg : wr.grownBy w7 (some bm)) {o : Obj} {v' : Value}
    (hq : w8.ownsQ w.heap.size 33 2 v' (ds.length - i + 1) ((flatP (ds.drop i)).map (Value.int .i64) ++ [.int .i64 p.1, .int .i64 p.2])) (hgrow : (w7.alloc o).grownBy w8 v.ownBlock)
    (hat : v'.ownBlock = v.ownBlock ∨ v'.ownBlock = some (w7.alloc o).heap.size) : SSt w bm a11 ks (ds ++ [p]) i v' w8 := by
  have x7 : w.Ext w7 := h.x.grown hg fun k hk => by simp only [Option.some.injEq] at hk; have := h.lo; omega
  have m8 : MapS w8 Try.prog 33 bm (mapG (ds ++ [p])) := ((hm.congr (mapG_push ds p)).ext ((World.Ext.refl _).alloc o)).grown hgrow (Ne.symm h.neq)
  refine ⟨(x7.alloc o).grown hgrow fun k hk => (h.q.lt _ hk).1, m8, ?_, h.row.keep fun b o' e => ?_, fun b o' e => ⟨?_, (h.ap b o' e).2.1, ?_⟩, h.lo⟩
  · have e1 : (ds ++ [p]).drop i = ds.drop i ++ [p] := by rw [List.drop_append, show i - ds.length = 0 by omega]; rfl
    have e2 : (ds ++ [p]).length - i = ds.length - i + 1 := by simp; omega
    rw [e1, e2, flatP_append, List.map_append]
    exact hq
  · obtain ⟨q1, q2, q3⟩ := h.ap b o' e
    have hs7 := hg.size
    rw [hgrow.block b (by simp; omega) (Ne.symm q3), (MapKept.heap_alloc _ o).2 b (by omega), hg.block b q1 (by simp; exact q2)]
  · have h1 := hgrow.size
    have h2 := hg.size
    have h3 := (h.ap b o' e).1
    simp at h1
    omega
  · obtain ⟨q1, q2, q3⟩ := h.ap b o' e
    rcases hat with e1 | e1
    · rw [e1]; exact q3
    · rw [e1]
      intro e2
      have h2 := hg.size
      simp at e2
      omega
theorem SSt.tail (h : SSt w bm a11 ks ds i v wr) (hi : i < ds.length) {v' : Value} (hq : wr.ownsQ w.heap.size 33 2 v' (ds.length - (i + 1)) (((flatP (ds.drop i)).map (Value.int .i64)).drop 2)) (_ : v'.ownBlock = v.ownBlock) : SSt w bm none [] ds (i + 1) v' wr := by
  refine ⟨h.x, h.map, ?_, RowOf.nil _ _, (fun b o e => by cases e), h.lo⟩
  have e : ds.drop i = ds.getD i (0, 0) :: ds.drop (i + 1) := by
    rw [List.getD_eq_getElem?_getD, List.getElem?_eq_getElem hi]
    exact List.drop_eq_getElem_cons hi
  rw [e] at hq
  exact hq
end
def sliceLen : Value → Nat | .slice _ n _ => n | _ => 0
/-- A map of what is reached is returned. -/
def MapRet (w : World) (R : Int × Int → Bool) (N : Int × Int → List (Int × Int)) (S : List (Int × Int)) (e : Ending) (w' : World) : Prop :=
  ∃ bm ds, e = .returned (.map (some bm)) ∧ w.Ext w' ∧ w.heap.size ≤ bm ∧ MapS w' Try.prog 33 bm (mapG ds) ∧ ds.Nodup ∧ ∀ p, p ∈ ds ↔ Rch R N S p
end Go.Proofs.Ytelaoimcaidoiaa
