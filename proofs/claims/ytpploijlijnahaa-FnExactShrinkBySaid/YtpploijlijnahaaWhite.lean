/- Spots of a rectangle that meet a condition, with the ones next to it. -/
import Derived.Test.YtpploijlijnahaaGrowF
namespace Go.Proofs.Ytpploijlijnahaa
open Go.RowKit
/-- Those of the first k places of rows of width V, that begin at (-1, -1), that meet a condition. -/
def spotsP (V : Nat) (p : Int → Int → Bool) (k : Nat) : List (Int × Int) := ((List.range k).filter fun i => p (((i % V : Nat) : Int) - 1) (((i / V : Nat) : Int) - 1)).map fun i => (((i % V : Nat) : Int) - 1, ((i / V : Nat) : Int) - 1)
theorem spotsP_no {V : Nat} {p : Int → Int → Bool} {i j : Nat} (hi : i < V) (h : p ((i : Int) - 1) ((j : Int) - 1) = false) : spotsP V p (j * V + i + 1) = spotsP V p (j * V + i) := by
  have e1 : (j * V + i) % V = i := by rw [Nat.mul_comm, Nat.mul_add_mod, Nat.mod_eq_of_lt hi]
  have e2 : (j * V + i) / V = j := by rw [Nat.mul_comm, Nat.mul_add_div (by omega), Nat.div_eq_of_lt hi]; rfl
  unfold spotsP
  rw [List.range_succ, List.filter_append, List.filter_cons_of_neg (by rw [e1, e2, h]; decide), List.filter_nil, List.append_nil]
theorem spotsP_yes {V : Nat} {p : Int → Int → Bool} {i j : Nat} (hi : i < V) (h : p ((i : Int) - 1) ((j : Int) - 1) = true) : spotsP V p (j * V + i + 1) = spotsP V p (j * V + i) ++ [((i : Int) - 1, (j : Int) - 1)] := by
  have e1 : (j * V + i) % V = i := by rw [Nat.mul_comm, Nat.mul_add_mod, Nat.mod_eq_of_lt hi]
  have e2 : (j * V + i) / V = j := by rw [Nat.mul_comm, Nat.mul_add_div (by omega), Nat.div_eq_of_lt hi]; rfl
  unfold spotsP
  rw [List.range_succ, List.filter_append, List.map_append, List.filter_cons_of_pos (by rw [e1, e2]; exact h), List.filter_nil, List.map_cons, e1, e2]
  rfl
theorem spotsP_len (V : Nat) (p : Int → Int → Bool) (k : Nat) : (spotsP V p k).length ≤ k := by
  unfold spotsP
  rw [List.length_map]
  exact Nat.le_trans (List.length_filter_le _ _) (by simp)
theorem spotsP_near (V U : Nat) (p : Int → Int → Bool) (hV : V ≤ 41) (hU : U ≤ 41) : ∀ q, q ∈ spotsP V p (U * V) → -1 ≤ q.1 ∧ q.1 ≤ 40 ∧ -1 ≤ q.2 ∧ q.2 ≤ 40 := by
  intro q hmem
  unfold spotsP at hmem
  rw [List.mem_map] at hmem
  obtain ⟨k, hk, rfl⟩ := hmem
  have hk' : k < U * V := by
    have := (List.mem_filter.1 hk).1
    simpa using this
  have hV0 : 0 < V := by
    rcases Nat.eq_zero_or_pos V with e | e
    · rw [e] at hk'; simp at hk'
    · exact e
  have h1 : k % V < V := Nat.mod_lt _ hV0
  have h2 : k / V < U := Nat.div_lt_of_lt_mul (by rw [Nat.mul_comm]; exact hk')
  generalize k % V = r at *
  generalize k / V = s at *
  refine ⟨?_, ?_, ?_, ?_⟩ <;> dsimp only <;> omega
theorem spotsP_head {V U : Nat} {p : Int → Int → Bool} (hV : 0 < V) (hU : 0 < U) (h : p (-1) (-1) = true) : 0 < (spotsP V p (U * V)).length := by
  have h0 : 0 < U * V := Nat.mul_pos hU hV
  have : ((-1 : Int), (-1 : Int)) ∈ spotsP V p (U * V) := by
    unfold spotsP
    rw [List.mem_map]
    refine ⟨0, ?_, by simp⟩
    rw [List.mem_filter]
    exact ⟨by simpa using h0, by simpa using h⟩
  exact List.length_pos_of_mem this
/-- How far those of the first k places are. -/
def depthTo (kind : Int) (V : Nat) (p : Int → Int → Bool) (q : Int × Int) (k : Nat) : Int := leastD ((spotsP V p k).map (farI kind q))
theorem depthTo_no {kind : Int} {V : Nat} {p : Int → Int → Bool} {q : Int × Int} {i j : Nat} (hi : i < V) (h : p ((i : Int) - 1) ((j : Int) - 1) = false) : depthTo kind V p q (j * V + i + 1) = depthTo kind V p q (j * V + i) := by unfold depthTo; rw [spotsP_no hi h]
theorem depthTo_yes {kind : Int} {V : Nat} {p : Int → Int → Bool} {q : Int × Int} {i j : Nat} (hi : i < V) (h : p ((i : Int) - 1) ((j : Int) - 1) = true) :
    depthTo kind V p q (j * V + i + 1) = if depthTo kind V p q (j * V + i) < 0 ∨ farI kind q ((i : Int) - 1, (j : Int) - 1) < depthTo kind V p q (j * V + i) then farI kind q ((i : Int) - 1, (j : Int) - 1) else depthTo kind V p q (j * V + i) := by
  unfold depthTo; rw [spotsP_yes hi h, List.map_append, List.map_cons, List.map_nil, leastD_snoc]
def whiteP (W H : Nat) (l : List Bool) (i j : Int) : Bool := !pxl W H l i j
def depI (kind : Int) (W H : Nat) (l : List Bool) (x y : Nat) : Int := depthTo kind (W + 2) (whiteP W H l) (x, y) ((H + 2) * (W + 2))
end Go.Proofs.Ytpploijlijnahaa
