/- ReconstructPicture, both sides. -/
import Derived.Test.YthgkmaccbcpaeaaRecP
import Derived.Deep.RegionHeld3
import Derived.Deep.DeepCutAuto
namespace Go.Proofs.Ythgkmaccbcpaeaa
open Go.RowKit
set_option maxHeartbeats 800000 in
theorem pxLab_any (p b ab W H : Nat) (l : List Bool) (x y : Int) (w : World) (hW : W ≤ 64) (hH : H ≤ 64) (hp : w.cell? ⟨p, 0, none⟩ = some (.pointer (some ⟨b, 0, none⟩))) (hI : Img w b ab W H l) :
    Calls Try.prog 193 #[.agg #[.int .i64 x, .int .i64 y], .pointer (some ⟨p, 0, none⟩)] w fun e w' => e = .returned (.bool (pxP W H l (x, y))) ∧ w.Ext w' := by
  have HC : Hid (∀ w', w.Ext w' → Calls Try.prog 108 #[.pointer (some ⟨b, 0, none⟩), .int .i64 x, .int .i64 y] w' fun e w'' => e = .returned (.bool (pxP W H l (x, y))) ∧ w'.Ext w'') := fun w' hx => get_any b ab W H l x y w' hW hH (hI.ext hx) _ rfl
  generalize pxP W H l (x, y) = t at *
  obtain ⟨W0, hW0⟩ : ∃ W0, W0 = w.alloc (.cells #[.int .i64 x, .int .i64 y] 45) := ⟨_, rfl⟩
  have hx0 : w.Ext W0 := by rw [hW0]; repeat (first | exact World.Ext.refl _ | exact ⟨_, rfl⟩ | assumption | refine World.Ext.over ?_ _ | refine World.Ext.drewN ?_ _ | refine World.Ext.drew ?_ | refine World.Ext.alloc ?_ _ | refine World.Ext.setCell ?_ (by simp) _)
  have hl := World.block_lt_of_cell? _ _ hp
  clear hI
  go_enter Try.func193, Try.ntmps193
  go_wp2_with fail
  rw [← hW0]
  refine (HC.out W0 hx0).mono ?_
  rintro e w1 ⟨rfl, hx⟩
  have HX : Hid (w.Ext w1) := hx0.trans hx
  clear hx hx0 hW0
  go_wp2
  go_ret
  exact ⟨rfl, HX.out⟩
theorem enters_pxLab : Enters 193 := enters_of Try.func193 (by kernel_rfl) (by kernel_rfl)
theorem MapS.lookB {w : World} {bm : Nat} {ds : List (Int × Int)} (h : MapS w Try.prog 45 bm (mapG ds)) {x y : Int} (hx : -1000 ≤ x ∧ x ≤ 1000) (hy : -1000 ≤ y ∧ y ≤ 1000) :
    (Instr.lookup 229 (.map (some bm)) (.agg #[.int .i64 x, .int .i64 y]) false).run Try.prog w = .ok (.bool (decide ((x, y) ∈ ds))) w := by
  have := h.look Try.spotKey boolMap (zeroBool w) (p := (x, y)) (spotKeyOf (spotWf hx hy))
  rw [mapG_val] at this
  exact this
/-- What is reconstructed: g says which pixels are black. -/
def RecG (ss tt : List ByteArray) (eight : Bool) (g : Nat → Nat → Bool) : Prop :=
  ∀ x y : Nat, x < picW tt → y < tt.length → (g x y = true ↔ Rch (pxP (picW tt) tt.length (picL tt)) (nbA eight) (spotsTo (picW ss) (picL ss) (ss.length * picW ss)) ((x : Int), (y : Int)))
theorem RecG.ex (ss tt : List ByteArray) (eight : Bool) : ∃ g, RecG ss tt eight g :=
  ⟨fun x y => @decide (Rch (pxP (picW tt) tt.length (picL tt)) (nbA eight) (spotsTo (picW ss) (picL ss) (ss.length * picW ss)) ((x : Int), (y : Int))) (Classical.propDecidable _), fun x y _ _ => by simp⟩
theorem spotsTo_bnd {W H : Nat} {l : List Bool} (hW : W ≤ 64) (hH : H ≤ 64) : ∀ q, q ∈ spotsTo W l (H * W) → 0 ≤ q.1 ∧ q.1 ≤ 64 ∧ 0 ≤ q.2 ∧ q.2 ≤ 64 := by
  intro q hq
  rw [spotsTo_mem] at hq
  obtain ⟨x, y, rfl, h1, h2⟩ := pxP_nat hq
  dsimp only
  omega
theorem spotsTo_few {W H : Nat} {l : List Bool} (hW : W ≤ 64) (hH : H ≤ 64) : (spotsTo W l (H * W)).length ≤ 4096 := Nat.le_trans (spotsTo_len _ _ _) (Nat.mul_le_mul hH hW)
theorem keepS {w : World} {p p9 b2 : Nat} {v x y z : Value} (h1 : p9 ≠ p) (h2 : b2 ≠ p) (k1 : w.cell? ⟨p9, 0, none⟩ = some x) (k2 : w.cell? ⟨b2, 0, none⟩ = some y) (k3 : w.cell? ⟨b2, 1, none⟩ = some z) :
    (w.setCell ⟨p, 0, none⟩ v).cell? ⟨p9, 0, none⟩ = some x ∧ (w.setCell ⟨p, 0, none⟩ v).cell? ⟨b2, 0, none⟩ = some y ∧ (w.setCell ⟨p, 0, none⟩ v).cell? ⟨b2, 1, none⟩ = some z := by
  refine ⟨?_, ?_, ?_⟩
  · rw [World.cell?_of_block (a := ⟨p9, 0, none⟩) (Below.heap_setCell _ _ _ _ h1)]; exact k1
  · rw [World.cell?_of_block (a := ⟨b2, 0, none⟩) (Below.heap_setCell _ _ _ _ h2)]; exact k2
  · rw [World.cell?_of_block (a := ⟨b2, 1, none⟩) (Below.heap_setCell _ _ _ _ h2)]; exact k3
end Go.Proofs.Ythgkmaccbcpaeaa
