/- FnShift: the best shift, the leaves of a shifted picture. -/
import Derived.Test.YtkpgelhmeokemaaQtD
import Derived.Test.YtkpgelhmeokemaaTreeH
import Derived.Test.YtkpgelhmeokemaaRunT
namespace Go.Proofs.Ytkpgelhmeokemaa
open Go Go.RowKit
set_option maxHeartbeats 400000 in
theorem r8At_any (a : Option Addr) (c : Nat) (zs : List Int) (i : Nat) (n : Int) (w : World) (_ : i ≤ 1000) (h : CodeAt w a zs) :
    Calls Try.prog 28 #[.slice a zs.length c, .int .i64 i, .int .i64 n] w fun e w' => ∃ r : Int, e = .returned (.int .i64 r) ∧ w.Ext w' ∧ 0 ≤ r ∧ (r < n ∨ r = 0) := by
  by_cases h1 : n ≤ 1
  · go_enter Try.func28, Try.ntmps28
    go_wp2
    go_ret
    exact ⟨0, rfl, .refl _, by omega, .inr rfl⟩
  · by_cases h2 : i < zs.length
    · have h2' : ¬ (zs.length : Int) ≤ (i : Int) := by omega
      have h2'' : (i : Int) < (zs.length : Int) := by omega
      obtain ⟨b, o, rfl, hc⟩ := h.1 i h2
      obtain ⟨z0, z1⟩ := h.2.1 _ (getD_memZ h2)
      have hl := h.2.2
      clear h
      generalize zs.getD i 0 = z at hc z0 z1
      have HM : Hid (0 ≤ z % n ∧ z % n < n) := ⟨Int.emod_nonneg _ (by omega), Int.emod_lt_of_pos _ (by omega)⟩
      go_enter Try.func28, Try.ntmps28
      go_wp2
      go_ret
      exact ⟨_, rfl, .refl _, HM.out.1, .inl HM.out.2⟩
    · have h2' : (zs.length : Int) ≤ (i : Int) := by omega
      have hl := h.2.2
      clear h
      go_enter Try.func28, Try.ntmps28
      go_wp2
      go_ret
      exact ⟨0, rfl, .refl _, by omega, .inr rfl⟩
structure RowQ (w0 : World) (p5 : Nat) (T S : TypeId) (W : Nat) (l : List Bool) (y : Nat) (w : World) : Prop where
  ext : w0.Ext w
  le5 : w0.heap.size ≤ p5
  str : ∃ v, One w p5 T v ∧ GrowOf Value.string w0.heap.size S w v (picRows W y l)
theorem RowQ.next {w0 w w1 : World} {p5 : Nat} {T S : TypeId} {W y : Nat} {l : List Bool} (h : RowQ w0 p5 T S W l y w) {v v' : Value} (hST : S ≠ T) (hv : One w p5 T v) (hg : GrowOf Value.string w0.heap.size S w v (picRows W y l))
    {o : Obj} (hgrow : (w.alloc o).grownBy w1 v.ownBlock) (hown : w1.ownsRow w0.heap.size S 1 v' ((picRows W y l).length + 1) ((picRows W y l).map Value.string ++ [Value.string (rowStr (rowAt W l y))])) :
    RowQ w0 p5 T S W l (y + 1) (w1.setCell ⟨p5, 0, none⟩ v') := by
  have hg1 := GrowOf.push (x := rowStr (rowAt W l y)) hown
  rw [← picRows_succ] at hg1
  have hx := hg.pushExt h.ext hgrow
  have hv1 := (hv.ext ((World.Ext.refl _).alloc o)).grown hgrow (hg.ne hv hST)
  exact ⟨hx.setCell h.le5 _, h.le5, v', hv1.set v', hg1.setCell (hg1.ne hv1 hST) _⟩
theorem RowQ.move {w0 w w1 : World} {p5 : Nat} {T S : TypeId} {W y : Nat} {l : List Bool} (h : RowQ w0 p5 T S W l y w) (hx : w.Ext w1) : RowQ w0 p5 T S W l y w1 :=
  ⟨h.ext.trans hx, h.le5, let ⟨v, h1, h2⟩ := h.str; ⟨v, h1.ext hx, h2.ext hx⟩⟩
theorem shF_size {W H : Nat} {L : List Bool} (a b : Nat) : (lcN (shF W H L a b) 3 0 0) ≤ 64 := by
  rw [← qtr_lcN (shF W H L a b) 3 0 0 0 0 ⟨#[]⟩]
  exact (lvs_len _ 3 0 0 _ (qtr_fits _ _ _ _)).2
end Go.Proofs.Ytkpgelhmeokemaa
