/- ReconstructGrey, both sides. -/
import Derived.Test.YtkpgelhmeokemaaGreatDoorGrA
namespace Go.Proofs.YtkpgelhmeokemaaGreatDoor
open Go Go.RowKit
def leL (a b : List Int) : Bool := (List.range a.length).all fun k => decide (a.getD k 0 ≤ b.getD k 0)
theorem leL_true {a b : List Int} : leL a b = true ↔ ∀ k, k < a.length → a.getD k 0 ≤ b.getD k 0 := by
  unfold leL
  rw [List.all_eq_true]
  simp only [List.mem_range, decide_eq_true_iff]
/-- Two valid tables of one size. -/
def sizeOk2 (m1 m2 : List (List Int)) : Bool := decide (m1.length = m2.length) && decide ((m1.getD 0 []).length = (m2.getD 0 []).length)
def recOk (m1 m2 : List (List Int)) : Bool := tableOk m1 99 && (tableOk m2 99 && (sizeOk2 m1 m2 && leL m1.flatten m2.flatten))
def RecO (m1 m2 : List (List Int)) (res : List Int) : Prop := recOk m1 m2 = true → PasR (greC (m2.getD 0 []).length m2.length m2.flatten) (greV (m2.getD 0 []).length m2.length m2.flatten) m2.flatten.length m1.flatten res
theorem rec_under {m1 m2 : List (List Int)} (h1 : tableOk m1 99 = true) (h2 : tableOk m2 99 = true) (hs : sizeOk2 m1 m2 = true) (hl : leL m1.flatten m2.flatten = true) : Under m2.flatten m1.flatten := by
  unfold sizeOk2 at hs
  rw [Bool.and_eq_true, decide_eq_true_iff, decide_eq_true_iff] at hs
  have e1 := flat_len _ m1 (tableOk_spec h1).2.2.2.2.1
  have e2 := flat_len _ m2 (tableOk_spec h2).2.2.2.2.1
  exact ⟨by rw [e1, e2, hs.1, hs.2], fun k hk => ⟨(flat_get h1 hk).1, leL_true.1 hl k hk⟩⟩
theorem RecO.ex (m1 m2 : List (List Int)) : ∃ res, RecO m1 m2 res := by
  by_cases hc : recOk m1 m2 = true
  · have hc2 := hc
    unfold recOk at hc2
    rw [Bool.and_eq_true, Bool.and_eq_true, Bool.and_eq_true] at hc2
    obtain ⟨res, hr⟩ := GreR.ex (m2.getD 0 []).length m2.length (rec_under hc2.1 hc2.2.1 hc2.2.2.1 hc2.2.2.2)
    exact ⟨res, fun _ => hr⟩
  · exact ⟨[], fun h2 => absurd h2 hc⟩
theorem rec_bnd (m1 m2 : List (List Int)) (l : List Int) : MatBnd (optM (recOk m1 m2) (grl (m2.getD 0 []).length m2.length l)) ∧ offM (optM (recOk m1 m2) (grl (m2.getD 0 []).length m2.length l)) (optM (recOk m1 m2) (grl (m2.getD 0 []).length m2.length l)).length ≤ 1048576 := by
  cases hc : recOk m1 m2
  · exact ⟨⟨by simp [optM], fun r => by simp [optM]⟩, by simp [optM, offM]⟩
  · unfold recOk at hc
    rw [Bool.and_eq_true, Bool.and_eq_true] at hc
    obtain ⟨v1, v2, v3, v4, -, -⟩ := tableOk_spec hc.2.1
    exact optM_bnd true _ _ _ (by omega) (by omega)
end Go.Proofs.YtkpgelhmeokemaaGreatDoor

/- ReconstructGrey: the program's side. -/
namespace Go.Proofs.YtkpgelhmeokemaaGreatDoor
open Go Go.RowKit
theorem grid_all {W H : Nat} {a b : List Int} (_ : 0 < W) (ha : a.length = H * W) : ((gridP W H).all fun s => decide (nbV W a s.1 s.2 ≤ nbV W b s.1 s.2)) = leL a b := by
  unfold gridP leL
  rw [List.all_map, ha]
  rw [Bool.eq_iff_iff, List.all_eq_true, List.all_eq_true]
  have e : ∀ (l : List Int) (k : Nat), nbV W l ((k % W : Nat) : Int) ((k / W : Nat) : Int) = l.getD k 0 := fun l k => by
    unfold nbV
    rw [show (((k / W : Nat) : Int) * (W : Int) + ((k % W : Nat) : Int)).toNat = k by rw [← Int.natCast_mul, ← Int.natCast_add, Int.toNat_natCast, Nat.mul_comm]; exact Nat.div_add_mod _ _]
  constructor
  · intro h k hk
    have := h k hk
    simp only [Function.comp] at this
    rw [e, e] at this
    exact this
  · intro h k hk
    simp only [Function.comp]
    rw [e, e]
    exact h k hk
end Go.Proofs.YtkpgelhmeokemaaGreatDoor
