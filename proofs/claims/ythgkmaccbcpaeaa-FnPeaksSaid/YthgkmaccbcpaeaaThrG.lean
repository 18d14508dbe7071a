/- Thresholds of grey pictures, on both sides. -/
import Derived.Test.YthgkmaccbcpaeaaGreyK
import Derived.Test.YthgkmaccbcpaeaaWith
namespace Go.Proofs.Ythgkmaccbcpaeaa
open Go Go.RowKit
/-- Where numbers are at least a level. -/
def thrL (level : Int) (zs : List Int) : List Bool := zs.map fun n => decide (level ≤ n)
theorem thrL_succ (level : Int) (zs : List Int) (k : Nat) (h : k < zs.length) : thrL level (zs.take (k + 1)) = thrL level (zs.take k) ++ [decide (level ≤ zs.getD k 0)] := by
  unfold thrL
  rw [List.take_succ_eq_append_getElem h, List.map_append, List.getD_eq_getElem?_getD, List.getElem?_eq_getElem h]
  rfl
theorem ThrRet.no {w w' : World} (hx : w.Ext w') : PicRet2 w [] false (.returned (.tuple #[.agg #[.slice none 0 0], .bool false])) w' := ⟨none, 0, rfl, hx, OwnOf.nil _ _⟩
theorem ThrRet.yes {w w' : World} {rows : List ByteArray} {a : Option Addr} {n c : Nat} (hn : n = rows.length) (hx : w.Ext w') (ho : OwnOf Value.string ByteArray.empty w.heap.size w'.heap.size w' a rows) :
    PicRet2 w rows true (.returned (.tuple #[.agg #[.slice a n c], .bool true])) w' := ⟨a, c, by rw [hn], hx, ho⟩
/-- What ThresholdGrey returns: the rows' texts. -/
def thrRows (m : List (List Int)) (level : Int) : List ByteArray := picRows (m.getD 0 []).length m.length (thrL level m.flatten)
def thrOk (m : List (List Int)) (level : Int) : Bool := tableOk m 99 && inB level 0 100
/-- The pixels that a threshold tells. -/
def thrgG (m : List (List Int)) (level : Int) (x y : Nat) : Bool := decide (level ≤ (m.getD y []).getD x 0)
theorem mkl_thr (W : Nat) (m : List (List Int)) (level : Int) (hW : 0 < W) (h : ∀ r, r < m.length → (m.getD r []).length = W) : mkl W m.length (thrgG m level) = thrL level m.flatten := by
  have hl := flat_len W m h
  apply List.ext_getElem?
  intro k
  by_cases hk : k < m.length * W
  · have hy : k / W < m.length := Nat.div_lt_of_lt_mul (by rw [Nat.mul_comm]; exact hk)
    have hx : k % W < W := Nat.mod_lt _ hW
    have e : k / W * W + k % W = k := by rw [Nat.mul_comm]; exact Nat.div_add_mod k W
    have h1 := flat_at W m (k / W) (k % W) h hy hx
    rw [e] at h1
    have hk2 : k < m.flatten.length := by rw [hl, Nat.mul_comm]; exact hk
    rw [List.getD_eq_getElem?_getD, List.getElem?_eq_getElem hk2, Option.getD_some] at h1
    unfold mkl thrL
    rw [List.getElem?_map, List.getElem?_range hk, Option.map_some, List.getElem?_map, List.getElem?_eq_getElem hk2, Option.map_some, h1]
    rfl
  · have h1 : (mkl W m.length (thrgG m level)).length ≤ k := by rw [mkl_len]; omega
    have h2 : (thrL level m.flatten).length ≤ k := by unfold thrL; rw [List.length_map, hl, Nat.mul_comm]; omega
    rw [List.getElem?_eq_none h1, List.getElem?_eq_none h2]
end Go.Proofs.Ythgkmaccbcpaeaa
