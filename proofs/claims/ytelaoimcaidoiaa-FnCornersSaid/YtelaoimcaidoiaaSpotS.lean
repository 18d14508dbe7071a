/- The reference's black spots, edge, lists of pixels, and what it makes of them. -/
import Derived.Test.YtelaoimcaidoiaaRchS
namespace Go.Proofs.Ytelaoimcaidoiaa
open Go.RowKit
/-- Those of the first k pixels that meet a condition. -/
def spotsBy (W : Nat) (P : Nat → Nat → Bool) (k : Nat) : List (Int × Int) := ((List.range k).filter fun i => P (i % W) (i / W)).map fun i => (((i % W : Nat) : Int), ((i / W : Nat) : Int))
theorem spotsBy_no {W : Nat} {P : Nat → Nat → Bool} {x y : Nat} (hx : x < W) (h : P x y = false) : spotsBy W P (y * W + (x + 1)) = spotsBy W P (y * W + x) := by
  have e1 : (y * W + x) % W = x := by rw [Nat.mul_comm, Nat.mul_add_mod, Nat.mod_eq_of_lt hx]
  have e2 : (y * W + x) / W = y := by rw [Nat.mul_comm, Nat.mul_add_div (by omega), Nat.div_eq_of_lt hx]; rfl
  unfold spotsBy
  rw [← Nat.add_assoc, List.range_succ, List.filter_append, List.filter_cons_of_neg (by rw [e1, e2, h]; decide), List.filter_nil, List.append_nil]
theorem spotsBy_yes {W : Nat} {P : Nat → Nat → Bool} {x y : Nat} (hx : x < W) (h : P x y = true) : spotsBy W P (y * W + (x + 1)) = spotsBy W P (y * W + x) ++ [((x : Int), (y : Int))] := by
  have e1 : (y * W + x) % W = x := by rw [Nat.mul_comm, Nat.mul_add_mod, Nat.mod_eq_of_lt hx]
  have e2 : (y * W + x) / W = y := by rw [Nat.mul_comm, Nat.mul_add_div (by omega), Nat.div_eq_of_lt hx]; rfl
  unfold spotsBy
  rw [← Nat.add_assoc, List.range_succ, List.filter_append, List.map_append, List.filter_cons_of_pos (by rw [e1, e2, h]), List.filter_nil, List.map_cons, e1, e2]
  rfl
theorem spotsBy_len (W : Nat) (P : Nat → Nat → Bool) (k : Nat) : (spotsBy W P k).length ≤ k := by
  unfold spotsBy
  rw [List.length_map]
  exact Nat.le_trans (List.length_filter_le _ _) (by simp)
theorem spotsBy_mem {W H : Nat} {P : Nat → Nat → Bool} {q : Int × Int} : q ∈ spotsBy W P (H * W) ↔ ∃ x y : Nat, x < W ∧ y < H ∧ P x y = true ∧ q = ((x : Int), (y : Int)) := by
  unfold spotsBy
  rw [List.mem_map]
  constructor
  · rintro ⟨k, hk, rfl⟩
    obtain ⟨h1, h2⟩ := List.mem_filter.1 hk
    have hk' : k < H * W := by simpa using h1
    have hW0 : 0 < W := by
      rcases Nat.eq_zero_or_pos W with e | e
      · rw [e] at hk'; simp at hk'
      · exact e
    exact ⟨k % W, k / W, Nat.mod_lt _ hW0, Nat.div_lt_of_lt_mul (by rw [Nat.mul_comm]; exact hk'), h2, rfl⟩
  · rintro ⟨x, y, hx, hy, hP, rfl⟩
    have e1 : (y * W + x) % W = x := by rw [Nat.mul_comm, Nat.mul_add_mod, Nat.mod_eq_of_lt hx]
    have e2 : (y * W + x) / W = y := by rw [Nat.mul_comm, Nat.mul_add_div (by omega), Nat.div_eq_of_lt hx]; rfl
    refine ⟨y * W + x, List.mem_filter.2 ⟨?_, by rw [e1, e2]; exact hP⟩, by rw [e1, e2]⟩
    have := Nat.mul_le_mul_right W (show y + 1 ≤ H by omega)
    rw [Nat.add_mul] at this
    simp
    omega
/-- Black spots are those that are black. -/
theorem spotsTo_by (W H : Nat) (l : List Bool) : spotsTo W l (H * W) = spotsBy W (fun x y => l.getD (y * W + x) false) (H * W) := by
  unfold spotsTo spotsBy
  congr 1
  refine List.filter_congr fun i hi => ?_
  have : i / W * W + i % W = i := by rw [Nat.mul_comm]; exact Nat.div_add_mod i W
  show _ = l.getD (i / W * W + i % W) false
  rw [this]
theorem spotsTo_mem {W H : Nat} {l : List Bool} {q : Int × Int} : q ∈ spotsTo W l (H * W) ↔ pxP W H l q = true := by
  rw [spotsTo_by, spotsBy_mem]
  constructor
  · rintro ⟨x, y, hx, hy, hP, rfl⟩
    unfold pxP
    rw [pxl_at _ _ _ _ _ hx hy]
    exact hP
  · intro h
    obtain ⟨x, y, rfl, hx, hy⟩ := pxP_nat h
    unfold pxP at h
    rw [pxl_at _ _ _ _ _ hx hy] at h
    exact ⟨x, y, hx, hy, h, rfl⟩
def edgeB (W H x y : Nat) : Bool := x == 0 || y == 0 || x == W - 1 || y == H - 1

end Go.Proofs.Ytelaoimcaidoiaa
