/- PictureOfBorders, the reference's: what its loops keep. -/
import Derived.Test.YthgkmaccbcpaeaaPobS
import Derived.Test.YthgkmaccbcpaeaaPobL
namespace Go.Proofs.Ythgkmaccbcpaeaa
open Go Go.RowKit
def PobRet2 (w : World) (W H : Nat) (B : List Bord) (e : Ending) (w' : World) : Prop := ∃ t : Bool, (t = true ↔ PobOk2 W H B) ∧ PicRet2 w (if t then picRows W H (picP (allG B) W H) else []) t e w'
theorem PobRet2.no {w w' : World} {W H : Nat} {B : List Bord} {e : Ending} (h : PicRet2 w [] false e w') (h2 : ¬ PobOk2 W H B) : PobRet2 w W H B e w' := ⟨false, ⟨(fun h => by cases h), fun h => absurd h h2⟩, h⟩
def FlSt (w : World) (g W H : Nat) (L : List Edg) (wr : World) : Prop := Wrote (fun k => k = g) w wr ∧ BlkOf Value.bool wr g 4 (picP L W H)
theorem FlSt.ext {w wr w' : World} {g W H : Nat} {L : List Edg} (h : FlSt w g W H L wr) (hx : wr.Ext w') : FlSt w g W H L w' := ⟨h.1.trans (hx.wrote _), h.2.ext hx⟩
theorem FlSt.box {w wr : World} {g W H : Nat} {L : List Edg} (h : FlSt w g W H L wr) {a : Addr} (ha : w.heap.size ≤ a.block) (v : Value) (hg : a.block ≠ g) : FlSt w g W H L (wr.setCell a v) := by
  refine ⟨⟨h.1.os, h.1.tape, h.1.output, by have := h.1.size; simpa [World.setCell] using this, fun k hk hs => ?_⟩, h.2.setCell_other hg v⟩
  rw [Below.heap_setCell _ _ _ _ (by omega)]
  exact h.1.block k hk hs
def FlX (w : World) (g W H : Nat) (L : List Edg) (e : Edg) (x : Int) (wr : World) : Prop := Wrote (fun k => k = g) w wr ∧ BlkOf Value.bool wr g 4 (mkl W H fun a b => parL L (a : Int) (b : Int) != (flE e (a : Int) (b : Int) && decide ((a : Int) < x)))
theorem FlX.start {w wr : World} {g W H : Nat} {L : List Edg} {e : Edg} (h : FlSt w g W H L wr) : FlX w g W H L e e.x wr := ⟨h.1, by
  have e1 : (mkl W H fun a b => parL L (a : Int) (b : Int) != (flE e (a : Int) (b : Int) && decide ((a : Int) < e.x))) = picP L W H := mkl_congr fun a b _ _ => by
    have : (flE e (a : Int) (b : Int) && decide ((a : Int) < e.x)) = false := by
      rw [Bool.eq_false_iff]
      intro h
      rw [Bool.and_eq_true, decide_eq_true_eq] at h
      have h1 := h.1
      unfold flE at h1
      rw [Bool.and_eq_true, decide_eq_true_eq] at h1
      omega
    rw [this]
    cases parL L (a : Int) (b : Int) <;> rfl
  rw [e1]
  exact h.2⟩
theorem FlX.done {w wr : World} {g W H : Nat} {L : List Edg} {e : Edg} {x : Int} (h : FlX w g W H L e x wr) (hx : ∀ a b : Nat, a < W → b < H → flE e (a : Int) (b : Int) = true → (a : Int) < x) : FlSt w g W H (L ++ [e]) wr := ⟨h.1, by
  have e1 : picP (L ++ [e]) W H = mkl W H fun a b => parL L (a : Int) (b : Int) != (flE e (a : Int) (b : Int) && decide ((a : Int) < x)) := mkl_congr fun a b ha hb => by
    rw [parL_add]
    cases hf : flE e (a : Int) (b : Int)
    · rfl
    · rw [decide_eq_true (hx a b ha hb hf)]
      rfl
  rw [e1]
  exact h.2⟩
theorem FlX.cell {w wr : World} {g W H : Nat} {L : List Edg} {e : Edg} {x y : Nat} (h : FlX w g W H L e (x : Int) wr) (hx : x < W) (hy : y < H) : wr.cell? ⟨g, y * W + x, none⟩ = some (.bool (parL L (x : Int) (y : Int))) ∧ wr.frozen? ⟨g, y * W + x, none⟩ = false := by
  have h1 := Nat.mul_le_mul_right W (show y + 1 ≤ H by omega)
  rw [Nat.add_mul, Nat.one_mul] at h1
  refine ⟨?_, h.2.free _⟩
  rw [h.2.cell false (by rw [mkl_len]; omega), mkl_at _ _ _ _ _ hx hy, decide_eq_false (by omega), Bool.and_false]
  cases parL L (x : Int) (y : Int) <;> rfl
theorem FlX.set {w wr : World} {g W H : Nat} {L : List Edg} {e : Edg} {x y : Nat} (h : FlX w g W H L e (x : Int) wr) (hx : x < W) (hy : y < H) (hf : ∀ b : Nat, b < H → flE e (x : Int) (b : Int) = decide (b = y)) : FlX w g W H L e ((x + 1 : Nat) : Int) (wr.setCell ⟨g, y * W + x, none⟩ (.bool (!parL L (x : Int) (y : Int)))) :=
  ⟨h.1.setCell (p := ⟨g, y * W + x, none⟩) rfl _, by
    rw [← mkl_set (g' := fun a b => parL L (a : Int) (b : Int) != (flE e (a : Int) (b : Int) && decide ((a : Int) < ((x + 1 : Nat) : Int)))) hx hy (!parL L (x : Int) (y : Int)) ?_ ?_]
    · exact h.2.set _ _
    · rw [hf y hy, decide_eq_true rfl, decide_eq_true (by omega)]
      cases parL L (x : Int) (y : Int) <;> rfl
    · intro a b ha hb hne
      congr 1
      by_cases e1 : a = x
      · subst e1
        rw [hf b hb, decide_eq_false (by omega)]
        rfl
      · congr 1
        exact decide_eq_decide.2 (by omega)⟩
theorem FlX.ext {w wr w' : World} {g W H : Nat} {L : List Edg} {e : Edg} {x : Int} (h : FlX w g W H L e x wr) (hx : wr.Ext w') : FlX w g W H L e x w' := ⟨h.1.trans (hx.wrote _), h.2.ext hx⟩
def mnY (a b : Int) : Int := if a < b then a else b
theorem l00MinY_any (a b : Int) (w : World) : Calls Try.prog 135 #[.int .i64 a, .int .i64 b] w fun e w' => e = .returned (.int .i64 (mnY a b)) ∧ w.Ext w' := by
  unfold mnY
  by_cases h : a < b
  · rw [if_pos h]
    go_enter Try.func135, Try.ntmps135
    go_wp2
    go_ret
    exact ⟨rfl, .refl _⟩
  · rw [if_neg h]
    go_enter Try.func135, Try.ntmps135
    go_wp2
    go_ret
    exact ⟨rfl, .refl _⟩
end Go.Proofs.Ythgkmaccbcpaeaa
