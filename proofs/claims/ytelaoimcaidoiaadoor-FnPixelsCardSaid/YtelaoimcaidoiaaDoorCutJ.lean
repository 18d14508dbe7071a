/- Texts joined by a mark and cut at it: plain. -/
import Derived.Test.YtelaoimcaidoiaaDoorLayD
import Derived.Test.YtelaoimcaidoiaaDoorKit
import Derived.Lib.SplitLaws
namespace Go.Proofs.YtelaoimcaidoiaaDoor
open Go Go.RowKit
def bstr (l : List UInt8) : ByteArray := ⟨l.toArray⟩
theorem bstr_size (l : List UInt8) : (bstr l).size = l.length := by simp [bstr, ByteArray.size]
def jn (sep : UInt8) (xs : List (List UInt8)) : List UInt8 := Lib.join xs [sep]
theorem jn_one (sep : UInt8) (x : List UInt8) : jn sep [x] = x := Lib.join_one x [sep]
theorem jn_next (sep : UInt8) (xs : List (List UInt8)) {k : Nat} (hk : 1 ≤ k) (h : k < xs.length) : jn sep (xs.take (k + 1)) = jn sep (xs.take k) ++ ([sep] ++ xs.getD k []) := by
  obtain ⟨x, r, rfl⟩ : ∃ x r, xs = x :: r := by
    cases xs with
    | nil => simp at h
    | cons x r => exact ⟨x, r, rfl⟩
  obtain ⟨j, rfl⟩ : ∃ j, k = j + 1 := ⟨k - 1, by omega⟩
  unfold jn
  rw [List.take_succ_cons, List.take_succ_cons, Lib.join_cons, Lib.join_cons, List.getD_cons_succ]
  have h2 : j < r.length := by simpa using h
  rw [Lib.joinTail_take_succ [sep] r j (r.getD j []) (by rw [List.getD_eq_getElem?_getD, List.getElem?_eq_getElem h2]; rfl), List.append_assoc, List.append_assoc]
theorem jn_take_le (sep : UInt8) (xs : List (List UInt8)) (B : Nat) (hB : ∀ k, (xs.getD k []).length ≤ B) (k : Nat) : (jn sep (xs.take k)).length ≤ k * (B + 1) := by
  induction k with
  | zero => simp [jn, Lib.join_nil]
  | succ k ih =>
    by_cases h : k < xs.length
    · by_cases hk : 1 ≤ k
      · rw [jn_next sep xs hk h, List.length_append, List.length_append]
        have := hB k
        rw [Nat.add_mul]
        simp only [List.length_cons, List.length_nil]
        omega
      · have : k = 0 := by omega
        subst this
        obtain ⟨x, r, rfl⟩ : ∃ x r, xs = x :: r := by
          cases xs with
          | nil => simp at h
          | cons x r => exact ⟨x, r, rfl⟩
        have := hB 0
        rw [show (x :: r).take (0 + 1) = [x] from rfl, jn_one]
        simp at this ⊢
        omega
    · rw [List.take_of_length_le (by omega)]
      rw [List.take_of_length_le (by omega)] at ih
      exact Nat.le_trans ih (Nat.mul_le_mul_right _ (by omega))
theorem bstr_bytes (l : List UInt8) : (bstr l).data.toList = l := by simp [bstr]
theorem join_bstr (sep : UInt8) (L : List (List UInt8)) : (⟨(Lib.join ((L.map bstr).map (·.data.toList)) (⟨#[sep]⟩ : ByteArray).data.toList).toArray⟩ : ByteArray) = bstr (jn sep L) := by
  have e : (L.map bstr).map (·.data.toList) = L := by
    rw [List.map_map]
    conv => rhs; rw [← List.map_id L]
    exact List.map_congr_left fun l _ => bstr_bytes l
  rw [e]
  rfl
section
variable {c : UInt8}
def stepC (c : UInt8) (s : List (List UInt8) × List UInt8) (b : UInt8) : List (List UInt8) × List UInt8 := if b = c then (s.1 ++ [s.2], []) else (s.1, s.2 ++ [b])
def cutS (c : UInt8) (l : List UInt8) : List (List UInt8) × List UInt8 := l.foldl (stepC c) ([], [])
/-- A text cut at each mark. -/
def cutY (c : UInt8) (l : List UInt8) : List (List UInt8) := (cutS c l).1 ++ [(cutS c l).2]
theorem foldl_stepC : ∀ (l : List UInt8) (P : List (List UInt8)) (q : List UInt8), l.foldl (stepC c) (P, q) = (P ++ (l.foldl (stepC c) ([], q)).1, (l.foldl (stepC c) ([], q)).2)
  | [], P, q => by simp
  | b :: l, P, q => by
    rw [List.foldl_cons, List.foldl_cons]
    by_cases h : b = c
    · have e1 : stepC c (P, q) b = (P ++ [q], []) := by unfold stepC; rw [if_pos h]
      have e2 : stepC c ([], q) b = ([q], []) := by unfold stepC; rw [if_pos h]; rfl
      rw [e1, e2, foldl_stepC l (P ++ [q]) [], foldl_stepC l [q] [], List.append_assoc]
    · have e1 : stepC c (P, q) b = (P, q ++ [b]) := by unfold stepC; rw [if_neg h]
      have e2 : stepC c ([], q) b = ([], q ++ [b]) := by unfold stepC; rw [if_neg h]
      rw [e1, e2, foldl_stepC l P (q ++ [b])]
theorem foldl_none : ∀ (l : List UInt8) (q : List UInt8), c ∉ l → l.foldl (stepC c) ([], q) = ([], q ++ l)
  | [], q, _ => by simp
  | b :: l, q, h => by
    rw [List.foldl_cons]
    have hb : b ≠ c := fun e => h (by rw [e]; exact List.mem_cons_self ..)
    have e2 : stepC c ([], q) b = ([], q ++ [b]) := by unfold stepC; rw [if_neg hb]
    rw [e2, foldl_none l (q ++ [b]) fun h2 => h (List.mem_cons_of_mem _ h2), List.append_assoc]
    rfl
theorem cutY_none {l : List UInt8} (h : c ∉ l) : cutY c l = [l] := by
  unfold cutY cutS
  rw [foldl_none l [] h]
  rfl
theorem cutY_hit {pre post : List UInt8} (h : c ∉ pre) : cutY c (pre ++ c :: post) = pre :: cutY c post := by
  unfold cutY cutS
  rw [List.foldl_append, foldl_none pre [] h, List.foldl_cons]
  have e : stepC c ([], [] ++ pre) c = ([pre], []) := by unfold stepC; rw [if_pos rfl]; rfl
  rw [e, foldl_stepC post [pre] []]
  rfl
theorem cutS_succ (l : List UInt8) {i : Nat} (h : i < l.length) : cutS c (l.take (i + 1)) = stepC c (cutS c (l.take i)) l[i] := by
  unfold cutS
  rw [List.take_succ_eq_append_getElem h, List.foldl_append]
  rfl
theorem splitK_cut : ∀ (n : Nat) (l : List UInt8), l.length ≤ n → Lib.splitK [c] 0 (Lib.count l [c]) l = cutY c l
  | n, l, hn => by
    rcases Lib.index_spec l [c] with ⟨h, -⟩ | ⟨i, h, hi, -⟩
    · rw [Lib.count_miss h]
      have h2 := h
      rw [Lib.index_one] at h2
      have h3 := Lib.indexByte_none h2
      rw [cutY_none]
      · rfl
      · intro hm
        obtain ⟨k, hk, e⟩ := List.getElem_of_mem hm
        exact h3 k (by rw [List.getElem?_eq_getElem hk, e])
    · have h2 := h
      rw [Lib.index_one] at h2
      obtain ⟨h3, h4⟩ := Lib.indexByte_some h2
      have hil : i < l.length := (List.getElem?_eq_some_iff.1 h3).1
      have hc : l[i] = c := (List.getElem?_eq_some_iff.1 h3).2
      have hl : l = l.take i ++ c :: l.drop (i + 1) := by
        rw [← hc, ← List.drop_eq_getElem_cons hil, List.take_append_drop]
      have hnm : c ∉ l.take i := fun hm => by
        obtain ⟨k, hk, e⟩ := List.getElem_of_mem hm
        have hk2 : k < i := by rw [List.length_take] at hk; omega
        rw [List.getElem_take] at e
        exact h4 k hk2 (by rw [List.getElem?_eq_getElem (by omega), e])
      match n, hn with
      | 0, hn => omega
      | n + 1, hn =>
        have ih := splitK_cut n (l.drop (i + 1)) (by rw [List.length_drop]; omega)
        have e1 : Lib.count l [c] = Lib.count (l.drop (i + 1)) [c] + 1 := by
          rw [Lib.count_hit (by simp) h, Nat.add_comm]
          rfl
        rw [e1]
        unfold Lib.splitK
        rw [h, if_neg (by simp), Int.toNat_natCast, Nat.add_zero, show i + [c].length = i + 1 from rfl, ih]
        conv => rhs; rw [hl]
        rw [cutY_hit hnm]
end
theorem bstr_data (s : ByteArray) : bstr s.data.toList = s := by
  unfold bstr
  rw [Array.toArray_toList]
theorem splitB_cut (c : UInt8) (s : ByteArray) : Lib.splitB ⟨#[c]⟩ 0 (Lib.countB s ⟨#[c]⟩) s = (cutY c s.data.toList).map bstr := by
  have h := Lib.splitB_data ⟨#[c]⟩ 0 (Lib.countB s ⟨#[c]⟩) s
  have h2 := splitK_cut (c := c) _ s.data.toList (Nat.le_refl _)
  have e : (⟨#[c]⟩ : ByteArray).data.toList = [c] := rfl
  rw [e] at h
  have h3 : (Lib.splitB ⟨#[c]⟩ 0 (Lib.countB s ⟨#[c]⟩) s).map (·.data.toList) = cutY c s.data.toList := h.trans h2
  rw [← h3, List.map_map]
  conv => lhs; rw [← List.map_id (Lib.splitB ⟨#[c]⟩ 0 (Lib.countB s ⟨#[c]⟩) s)]
  exact List.map_congr_left fun x _ => (bstr_data x).symm
theorem cut_count (c : UInt8) (s : ByteArray) : Lib.countB s ⟨#[c]⟩ + 1 = (cutY c s.data.toList).length := by
  have h := congrArg List.length (splitB_cut c s)
  rw [List.length_map] at h
  rw [← h]
  exact (Lib.splitB_all ⟨#[c]⟩ (Nat.le_refl 1) 0 _ s rfl).symm
/-- A row of strings is returned, in new memory. -/
def StrsRet (w : World) (L : List ByteArray) (e : Ending) (w' : World) : Prop := ∃ a c, e = .returned (.slice a L.length c) ∧ w.Ext w' ∧ OwnOf Value.string ByteArray.empty w.heap.size w'.heap.size w' a L ∧ Tag w' a 9
theorem jn_cons2 (c : UInt8) (x y : List UInt8) (r : List (List UInt8)) : jn c (x :: y :: r) = x ++ c :: jn c (y :: r) := by
  unfold jn
  rw [Lib.join_cons, Lib.join_cons]
  simp [Lib.joinTail]
theorem cutY_jn {c : UInt8} : ∀ (xs : List (List UInt8)), xs ≠ [] → (∀ x, x ∈ xs → c ∉ x) → cutY c (jn c xs) = xs
  | [], h, _ => absurd rfl h
  | [x], _, h => by rw [jn_one, cutY_none (h x (List.mem_cons_self ..))]
  | x :: y :: r, _, h => by
    rw [jn_cons2, cutY_hit (h x (List.mem_cons_self ..)), cutY_jn (y :: r) (by simp) fun z hz => h z (List.mem_cons_of_mem _ hz)]
end Go.Proofs.YtelaoimcaidoiaaDoor
