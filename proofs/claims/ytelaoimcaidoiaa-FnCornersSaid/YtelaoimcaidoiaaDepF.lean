/- DepthsOf and DistancesOf: the reference's and the program's. -/
import Derived.Test.YtelaoimcaidoiaaDist
import Derived.Test.YtelaoimcaidoiaaLMat
namespace Go.Proofs.Ytelaoimcaidoiaa
open Go.RowKit
def optM (ok : Bool) (m : List (List Int)) : List (List Int) := if ok then m else []
/-- A table and whether there is one are returned, in new memory. -/
def MatRet2 (w : World) (m : List (List Int)) (ok : Bool) (e : Ending) (w' : World) : Prop := ∃ a c A C, e = .returned (.tuple #[.slice a m.length c, .bool ok]) ∧ w.Ext w' ∧ OwnMat w.heap.size w'.heap.size w' a A C m
theorem OwnMat.none (lo hi : Nat) (w : World) (a : Option Addr) : OwnMat lo hi w a (fun _ => Option.none) (fun _ => 0) [] := ⟨(fun r hr => by cases hr), (fun r hr => by cases hr), (fun r s b o b' o' hr => by cases hr)⟩
theorem MatRet2.no {w w' : World} (hx : w.Ext w') : MatRet2 w [] false (.returned (.tuple #[.slice none 0 0, .bool false])) w' := ⟨none, 0, _, _, rfl, hx, OwnMat.none _ _ _ _⟩
theorem offM_le (m : List (List Int)) (n : Nat) (h : ∀ r, r < m.length → (m.getD r []).length ≤ n) : ∀ k, k ≤ m.length → offM m k ≤ k * n
  | 0, _ => by simp [offM]
  | k + 1, hk => by
    have h1 := offM_le m n h k (by omega)
    have h2 := h k (by omega)
    rw [offM, Nat.succ_mul]
    omega
theorem optM_bnd (ok : Bool) (W H : Nat) (g : Nat → Nat → Int) (hW : W ≤ 64) (hH : H ≤ 64) : MatBnd (optM ok (grd W H g)) ∧ offM (optM ok (grd W H g)) (optM ok (grd W H g)).length ≤ 1048576 := by
  have hrow : ∀ r, ((grd W H g).getD r []).length ≤ 64 := fun r => by
    by_cases hr : r < H
    · rw [grd_row hr, grdRow_len]; exact hW
    · rw [List.getD_eq_getElem?_getD, List.getElem?_eq_none (by rw [grd_len]; omega)]; simp
  cases ok
  · refine ⟨⟨by simp [optM], fun r => by simp [optM]⟩, by simp [optM, offM]⟩
  · show MatBnd (grd W H g) ∧ offM (grd W H g) (grd W H g).length ≤ 1048576
    refine ⟨⟨by rw [grd_len]; omega, fun r => Nat.le_trans (hrow r) (by omega)⟩, ?_⟩
    have h := offM_le (grd W H g) 64 (fun r _ => hrow r) (grd W H g).length (Nat.le_refl _)
    rw [grd_len] at h ⊢
    have : H * 64 ≤ 64 * 64 := Nat.mul_le_mul_right 64 hH
    omega
def askOk (ss : List ByteArray) (kind : Int) : Bool := picOk ss && inB kind 0 2
theorem optM_bndA (ss : List ByteArray) (kind : Int) (g : Nat → Nat → Int) (b : Bool) : MatBnd (optM (askOk ss kind && b) (grd (picW ss) ss.length g)) ∧ offM (optM (askOk ss kind && b) (grd (picW ss) ss.length g)) (optM (askOk ss kind && b) (grd (picW ss) ss.length g)).length ≤ 1048576 := by
  cases h : picOk ss
  · have e : (askOk ss kind && b) = false := by unfold askOk; rw [h]; simp
    rw [e]
    exact ⟨⟨by simp [optM], fun r => by simp [optM]⟩, by simp [optM, offM]⟩
  · obtain ⟨q1, q2, q3, q4, _⟩ := picOk_spec h
    exact optM_bnd _ _ _ _ (by omega) (by omega)
end Go.Proofs.Ytelaoimcaidoiaa
