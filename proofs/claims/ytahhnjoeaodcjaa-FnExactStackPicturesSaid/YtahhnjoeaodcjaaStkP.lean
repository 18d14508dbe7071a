/- Plain: pictures that are stacked. -/
import Derived.Test.YtahhnjoeaodcjaaGreyR
import Derived.Test.YtahhnjoeaodcjaaLPs
import Derived.Test.YtahhnjoeaodcjaaPtrAt
namespace Go.Proofs.Ytahhnjoeaodcjaa
open Go Go.RowKit
def likeAll (m : List (List ByteArray)) : Bool := (List.range m.length).all fun i => likeP (m.getD 0 []) (m.getD i [])
def stkOk (m : List (List ByteArray)) : Bool := decide (1 ≤ m.length) && decide (m.length ≤ 99) && likeAll m
theorem likeAll_true {m : List (List ByteArray)} : likeAll m = true ↔ ∀ i, i < m.length → likeP (m.getD 0 []) (m.getD i []) = true := by
  unfold likeAll
  rw [List.all_eq_true]
  exact ⟨fun h i hi => h i (List.mem_range.2 hi), fun h i hi => h i (List.mem_range.1 hi)⟩
theorem likeAll_false {m : List (List ByteArray)} {i : Nat} (hi : i < m.length) (h : likeP (m.getD 0 []) (m.getD i []) = false) : likeAll m = false := by
  cases e : likeAll m
  · rfl
  · rw [likeAll_true.1 e i hi] at h; cases h
theorem likeP_comm (ss tt : List ByteArray) : likeP ss tt = likeP tt ss := by
  unfold likeP
  rw [Bool.and_comm (picOk ss) (picOk tt)]
  have e1 : decide (picW ss = picW tt) = decide (picW tt = picW ss) := decide_eq_decide.2 eq_comm
  have e2 : decide (ss.length = tt.length) = decide (tt.length = ss.length) := decide_eq_decide.2 eq_comm
  rw [e1, e2]
/-- How many of the first j pictures are black at k. -/
def cntK (m : List (List ByteArray)) (k : Nat) : Nat → Nat
  | 0 => 0
  | j + 1 => cntK m k j + if (picL (m.getD j [])).getD k false then 1 else 0
theorem cntK_le (m : List (List ByteArray)) (k : Nat) : ∀ j, cntK m k j ≤ j
  | 0 => Nat.le_refl _
  | j + 1 => by have := cntK_le m k j; simp only [cntK]; split <;> omega
/-- The numbers when j pictures have been added, and of the next one the first k0 pixels. -/
def stkT (m : List (List ByteArray)) (n j k0 : Nat) : List Int := (List.range n).map fun k => ((cntK m k (if k < k0 then j + 1 else j) : Nat) : Int)
theorem stkT_len (m : List (List ByteArray)) (n j k0 : Nat) : (stkT m n j k0).length = n := by simp [stkT]
theorem stkT_at {m : List (List ByteArray)} {n j k0 k : Nat} (h : k < n) : (stkT m n j k0).getD k 0 = ((cntK m k (if k < k0 then j + 1 else j) : Nat) : Int) := by
  simp [stkT, List.getD_eq_getElem?_getD, h]
theorem stkT_set {m : List (List ByteArray)} {n j k0 : Nat} (h : k0 < n) : (stkT m n j k0).set k0 ((cntK m k0 (j + 1) : Nat) : Int) = stkT m n j (k0 + 1) := by
  apply List.ext_getElem?
  intro k
  rw [List.getElem?_set]
  by_cases e : k0 = k
  · subst e
    rw [if_pos rfl, if_pos (by rw [stkT_len]; exact h)]
    unfold stkT
    rw [List.getElem?_map, List.getElem?_range h]
    simp
  · rw [if_neg e]
    unfold stkT
    rw [List.getElem?_map, List.getElem?_map]
    by_cases hk : k < n
    · rw [List.getElem?_range hk]
      simp only [Option.map_some]
      have : (k < k0 + 1) ↔ (k < k0) := by omega
      simp only [this]
    · rw [List.getElem?_eq_none (by simp; omega)]; rfl
theorem stkT_keep {m : List (List ByteArray)} {n j k0 : Nat} (h : k0 < n) (hb : (picL (m.getD j [])).getD k0 false = false) : stkT m n j k0 = stkT m n j (k0 + 1) := by
  rw [← stkT_set h]
  apply List.ext_getElem?
  intro k
  rw [List.getElem?_set]
  by_cases e : k0 = k
  · subst e
    rw [if_pos rfl, if_pos (by rw [stkT_len]; exact h)]
    unfold stkT
    rw [List.getElem?_map, List.getElem?_range h]
    show some ((cntK m k0 (if k0 < k0 then j + 1 else j) : Nat) : Int) = some ((cntK m k0 (j + 1) : Nat) : Int)
    rw [if_neg (Nat.lt_irrefl _)]
    simp only [cntK, hb]
    rfl
  · rw [if_neg e]
theorem stkT_next {m : List (List ByteArray)} {n j : Nat} : stkT m n j n = stkT m n (j + 1) 0 := by
  unfold stkT
  apply List.map_congr_left
  intro k hk
  rw [if_pos (List.mem_range.1 hk), if_neg (by omega)]
theorem stkT_zero {m : List (List ByteArray)} {n : Nat} : stkT m n 0 0 = List.replicate n 0 := by
  apply List.ext_getElem?
  intro k
  unfold stkT
  rw [List.getElem?_map]
  by_cases hk : k < n
  · rw [List.getElem?_range hk, List.getElem?_replicate, if_pos hk]; simp [cntK]
  · rw [List.getElem?_eq_none (by simp; omega), List.getElem?_eq_none (by simp; omega)]; rfl
def stkG (m : List (List ByteArray)) : List (List Int) := grl (picW (m.getD 0 [])) (m.getD 0 []).length (stkT m ((m.getD 0 []).length * picW (m.getD 0 [])) m.length 0)
theorem stk_bnd (m : List (List ByteArray)) : MatBnd (optM (stkOk m) (stkG m)) ∧ offM (optM (stkOk m) (stkG m)) (optM (stkOk m) (stkG m)).length ≤ 1048576 := by
  cases h : stkOk m
  · exact ⟨⟨by simp [optM], fun r => by simp [optM]⟩, by simp [optM, offM]⟩
  · unfold stkOk at h
    rw [Bool.and_eq_true, Bool.and_eq_true, decide_eq_true_iff] at h
    obtain ⟨h1, -, -, -⟩ := likeP_true (likeAll_true.1 h.2 0 (by omega))
    obtain ⟨v1, v2, v3, v4, -, -⟩ := picOk_spec h1
    exact optM_bnd true _ _ _ (by omega) (by omega)
end Go.Proofs.Ytahhnjoeaodcjaa
