/- What is reached: the reference's search. -/
import Derived.Test.YthgkmaccbcpaeaaArnd
import Derived.Maps.AppendAt
import Derived.Deep.RegionWith
namespace Go
open Go.RowKit
theorem RowOf.keep {α : Type} {f : α → Value} {d : α} {w w' : World} {a : Option Addr} {xs : List α} (h : RowOf f d w a xs) (hk : ∀ b o, a = some ⟨b, o, none⟩ → w'.heap[b]? = w.heap[b]?) : RowOf f d w' a xs := fun i hi =>
  let ⟨b, o, h1, h2⟩ := h i hi
  ⟨b, o, h1, by rw [World.cell?_of_block (a := ⟨b, o + i, none⟩) (hk b o h1)]; exact h2⟩
end Go
namespace Go.Proofs.Ythgkmaccbcpaeaa
open Go.RowKit
def pxP (W H : Nat) (l : List Bool) (p : Int × Int) : Bool := pxl W H l p.1 p.2
theorem pxP_nat {W H : Nat} {l : List Bool} {p : Int × Int} (h : pxP W H l p = true) : ∃ x y : Nat, p = ((x : Int), (y : Int)) ∧ x < W ∧ y < H := by
  have hb : hasB W H p.1 p.2 = true := by
    cases hd : hasB W H p.1 p.2
    · rw [pxP, pxl_out hd] at h; cases h
    · rfl
  obtain ⟨h1, h2, h3, h4⟩ := hasB_true.1 hb
  exact ⟨p.1.toNat, p.2.toNat, Prod.ext (by simp; omega) (by simp; omega), by omega, by omega⟩
theorem pxP_box {W H : Nat} {l : List Bool} {p : Int × Int} (h : pxP W H l p = true) : p ∈ boxL 0 0 W H := by
  obtain ⟨x, y, rfl, h1, h2⟩ := pxP_nat h
  exact boxL_mem (by simp) (by simp; omega) (by simp) (by simp; omega)
end Go.Proofs.Ythgkmaccbcpaeaa
