/- Borders that are given: the reference's. -/
import Derived.Test.YthgkmaccbcpaeaaPobG
namespace Go.Proofs.Ythgkmaccbcpaeaa
open Go Go.RowKit
def inCB (x y : Int) : Bool := inB x 0 16 && inB y 0 16
theorem inCB_true {x y : Int} : inCB x y = true ↔ inC x y := by
  unfold inCB inC
  rw [Bool.and_eq_true, inB_true, inB_true]
  omega
theorem wayI_st (c : Nat) : wayI c = if stC c < 4 then (stC c : Int) else -1 := by
  unfold wayI stC
  split
  · rfl
  split
  · rfl
  split
  · rfl
  split <;> rfl
def Md4 (w : World) (g : Nat) (m : Nat → Nat → Bool) (wr : World) : Prop := Wrote (fun k => k = g) w wr ∧ BlkOf Value.bool wr g 4 (mkl 68 17 m)
section
variable {w wr w' : World} {g : Nat} {m m' : Nat → Nat → Bool}
theorem Md4.ext (h : Md4 w g m wr) (hx : wr.Ext w') : Md4 w g m w' := ⟨h.1.trans (hx.wrote _), h.2.ext hx⟩
theorem Md4.cell (h : Md4 w g m wr) {x y k : Nat} (hx : x < 17) (hy : y < 17) (hk : k < 4) : wr.cell? ⟨g, (y * 17 + x) * 4 + k, none⟩ = some (.bool (m (x * 4 + k) y)) ∧ wr.frozen? ⟨g, (y * 17 + x) * 4 + k, none⟩ = false := by
  refine ⟨?_, h.2.free _⟩
  rw [h.2.cell false (by rw [mkl_len]; omega), show (y * 17 + x) * 4 + k = y * 68 + (x * 4 + k) by omega, mkl_at _ _ _ _ _ (by omega) hy]
theorem Md4.set (h : Md4 w g m wr) {x y k : Nat} (hx : x < 17) (hy : y < 17) (hk : k < 4) (h1 : m' (x * 4 + k) y = true) (h2 : ∀ i j, i < 68 → j < 17 → (i ≠ x * 4 + k ∨ j ≠ y) → m' i j = m i j) : Md4 w g m' (wr.setCell ⟨g, (y * 17 + x) * 4 + k, none⟩ (.bool true)) :=
  ⟨h.1.setCell (p := ⟨g, (y * 17 + x) * 4 + k, none⟩) rfl _, by
    rw [show (y * 17 + x) * 4 + k = y * 68 + (x * 4 + k) by omega, ← mkl_set (show x * 4 + k < 68 by omega) hy true h1 h2]
    exact h.2.set _ _⟩
theorem Md4.box (h : Md4 w g m wr) {a : Addr} (ha : w.heap.size ≤ a.block) (v : Value) (hg : a.block ≠ g) : Md4 w g m (wr.setCell a v) := by
  refine ⟨⟨h.1.os, h.1.tape, h.1.output, by have := h.1.size; simpa [World.setCell] using this, fun k hk hs => ?_⟩, h.2.setCell_other hg v⟩
  rw [Below.heap_setCell _ _ _ _ (by omega)]
  exact h.1.block k hk hs
end
set_option maxHeartbeats 800000 in
theorem l04Corner_any (x y : Int) (w : World) (t : Bool) (ht : inCB x y = t) :
    Calls Try.prog 197 #[.agg #[.int .i64 x, .int .i64 y]] w fun e w' => e = .returned (.bool t) ∧ w.Ext w' := by
  subst ht
  obtain ⟨W0, hW0⟩ : ∃ W0, W0 = w.alloc (.cells #[.int .i64 x, .int .i64 y] 45) := ⟨_, rfl⟩
  have hx0 : w.Ext W0 := by rw [hW0]; repeat (first | exact World.Ext.refl _ | exact ⟨_, rfl⟩ | assumption | refine World.Ext.over ?_ _ | refine World.Ext.drewN ?_ _ | refine World.Ext.drew ?_ | refine World.Ext.alloc ?_ _ | refine World.Ext.setCell ?_ (by simp) _)
  have HA : Hid (∀ wr, W0.Ext wr → Two wr w.heap.size 45 (.int .i64 x) (.int .i64 y)) := fun wr hx => by
    have h : Two W0 w.heap.size 45 (.int .i64 x) (.int .i64 y) := by rw [hW0]; exact Two.new w _ _ _ _ rfl
    exact h.ext hx
  have HX0 := Lib.hid hx0
  have c0 := (HA.out W0 (.refl _)).cell0
  have c1 := (HA.out W0 (.refl _)).cell1
  have l0 := (HA.out W0 (.refl _)).lt
  obtain ⟨t1, h1⟩ : ∃ t1, inB x 0 16 = t1 := ⟨_, rfl⟩
  obtain ⟨t2, h2⟩ : ∃ t2, inB y 0 16 = t2 := ⟨_, rfl⟩
  have H1 : Hid (∀ w', Calls Try.prog 175 #[.int .i64 x, .int .i64 0, .int .i64 16] w' fun e w'' => e = .returned (.bool t1) ∧ w'.Ext w'') := fun w' => l00In_any _ _ _ _ _ h1
  have H2 : Hid (∀ w', Calls Try.prog 175 #[.int .i64 y, .int .i64 0, .int .i64 16] w' fun e w'' => e = .returned (.bool t2) ∧ w'.Ext w'') := fun w' => l00In_any _ _ _ _ _ h2
  have HT : Hid (inCB x y = (t1 && t2)) := by show _ = _; unfold inCB; rw [h1, h2]
  rw [HT.out]
  clear h1 h2 HT hx0
  cases t1
  · go_enter Try.func197, Try.ntmps197
    go_upto_region 1 with fail
    rw [← hW0]
    clear hW0
    go_wp2_with fail
    refine (H1.out _).mono ?_
    rintro e1 w1 ⟨rfl, hx1⟩
    have HX1 := Lib.hid (HX0.out.trans hx1)
    clear hx1 c0 c1 l0
    go_wp2
    go_ret
    exact ⟨rfl, HX1.out⟩
  · go_enter Try.func197, Try.ntmps197
    go_upto_region 1 with fail
    rw [← hW0]
    clear hW0
    go_wp2_with fail
    refine (H1.out _).mono ?_
    rintro e1 w1 ⟨rfl, hx1⟩
    have c1 := (HA.out w1 hx1).cell1
    have l0 := (HA.out w1 hx1).lt
    have HX1 := Lib.hid (HX0.out.trans hx1)
    clear hx1 
    go_wp2_with fail
    refine (H2.out _).mono ?_
    rintro e1 w2 ⟨rfl, hx2⟩
    have HX2 := Lib.hid (HX1.out.trans hx2)
    clear hx2 c1 l0
    go_wp2
    go_ret
    exact ⟨by simp, HX2.out⟩
end Go.Proofs.Ythgkmaccbcpaeaa
